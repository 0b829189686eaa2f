/- Texts of this session, merged: AbsA, AbsB, AbsC, AbsD, AbsE, AbsF, AbsG, AbsH, AbsI, AbsJ, AbsK, AbsL, AbsM, AbsN, AbsO. -/
import Derived.Laws.AppendOwn
import Derived.Laws.MakeOwn
import Derived.Tactics
import Derived.WalkKit
import Derived.WalkSpells
import Derived.IntWalk
import Derived.WalkLawsBesides
import Derived.Laws.IdiomStrings
import Derived.Laws.BytesArg
import Derived.Orders
set_option linter.unusedVariables false
set_option linter.unusedSimpArgs false
section
namespace Go.Proofs.Ytpggknkhldecaaa.Abs

inductive AV where
 | top
 | bool (b : Bool)
 | int (k : IntKind) (n : Int)
 | str (s : ByteArray)
 | nilp
 | ptr (b i o : Nat)
 | lp (cs : List AV)
 | nils
 | sl (sz : Nat) (xs : List AV)
 | own (b st len : Nat)
 | ownz (b st : Nat)
 | nilm
 | omap (b : Nat)
 | fn (f : Fn) (first caps : List AV)
 | nilf
 | ifc (t : TypeId) (v : AV)
 | nili
 | agg (xs : List AV)
 | tup (xs : List AV)

def AV.cells : AV → List AV
 | .agg xs => xs
 | v => [v]

def flat (xs : List AV) : List AV := xs.flatMap AV.cells

structure R where
 blk : Nat
 cap : Nat
 sz : Nat

abbrev Rho := Nat → Option R
def rho0 : Rho := fun _ => none

inductive VR (S : Nat → Prop) (w : World) : Rho → AV → Value → Prop
 | top {ρ v} : VR S w ρ .top v
 | bool {ρ b} : VR S w ρ (.bool b) (.bool b)
 | int {ρ k n} : VR S w ρ (.int k n) (.int k n)
 | str {ρ s} : VR S w ρ (.str s) (.string s)
 | nilp {ρ} : VR S w ρ .nilp (.pointer none)
 | ptr {ρ b i o r} (h : ρ b = some r) : VR S w ρ (.ptr b i o) (.pointer (some ⟨r.blk, i * r.sz + o, none⟩))
 | lp {ρ cs blk off} (vs : List Value) (hS : S blk) (hl : cs.length = vs.length) (hcell : ∀ (i : Nat) (u : Value), vs[i]? = some u → w.cell? ⟨blk, off + i, none⟩ = some u ∧ u.oneCell' = true)
   (hv : ∀ (i : Nat) (x : AV) (u : Value), cs[i]? = some x → vs[i]? = some u → VR S w rho0 x u) : VR S w ρ (.lp cs) (.pointer (some ⟨blk, off, none⟩))
 | nils {ρ} : VR S w ρ .nils (.slice none 0 0)
 | sl0 {ρ sz a c} : VR S w ρ (.sl sz []) (.slice a 0 c)
 | sl {ρ sz xs blk off c} (vs : List Value) (hS : S blk) (hl : (flat xs).length = vs.length) (hsz : ∀ x ∈ xs, x.cells.length = sz) (hc : xs.length ≤ c)
   (hcell : ∀ (i : Nat) (u : Value), vs[i]? = some u → w.cell? ⟨blk, off + i, none⟩ = some u ∧ u.oneCell' = true)
   (hv : ∀ (i : Nat) (x : AV) (u : Value), (flat xs)[i]? = some x → vs[i]? = some u → VR S w rho0 x u) : VR S w ρ (.sl sz xs) (.slice (some ⟨blk, off, none⟩) xs.length c)
 | own {ρ b st len r c} (h : ρ b = some r) (h1 : len ≤ c) (h2 : st + c = r.cap) : VR S w ρ (.own b st len) (.slice (some ⟨r.blk, st * r.sz, none⟩) len c)
 | ownz {ρ b st r c} (h : ρ b = some r) (h2 : st + c = r.cap) : VR S w ρ (.ownz b st) (.slice (some ⟨r.blk, st * r.sz, none⟩) 0 c)
 | own0 {ρ b st a} : VR S w ρ (.own b st 0) (.slice a 0 0)
 | nilm {ρ} : VR S w ρ .nilm (.map none)
 | omap {ρ b r} (h : ρ b = some r) : VR S w ρ (.omap b) (.map (some r.blk))
 | fn {ρ f xs ys} (us vs : Array Value) (h1 : xs.length = us.size) (h2 : ys.length = vs.size) (h3 : ∀ (i : Nat) (x : AV) (u : Value), xs[i]? = some x → us[i]? = some u → VR S w ρ x u)
   (h4 : ∀ (i : Nat) (x : AV) (u : Value), ys[i]? = some x → vs[i]? = some u → VR S w ρ x u) : VR S w ρ (.fn f xs ys) (.func f us vs)
 | nilf {ρ} : VR S w ρ .nilf .nilFunc
 | ifc {ρ t x v} (h : VR S w ρ x v) : VR S w ρ (.ifc t x) (.iface t v)
 | nili {ρ} : VR S w ρ .nili .nilIface
 | agg {ρ xs} (vs : Array Value) (h1 : xs.length = vs.size) (h2 : ∀ (i : Nat) (x : AV) (u : Value), xs[i]? = some x → vs[i]? = some u → VR S w ρ x u) : VR S w ρ (.agg xs) (.agg vs)
 | tup {ρ xs} (vs : Array Value) (h1 : xs.length = vs.size) (h2 : ∀ (i : Nat) (x : AV) (u : Value), xs[i]? = some x → vs[i]? = some u → VR S w ρ x u) : VR S w ρ (.tup xs) (.tuple vs)

theorem cell_same {w w' : World} {b o : Nat} (h : w'.heap[b]? = w.heap[b]?) : w'.cell? ⟨b, o, none⟩ = w.cell? ⟨b, o, none⟩ := World.cell?_of_block (w := w) (a := ⟨b, o, none⟩) h

theorem VR.mono {S S' : Nat → Prop} {w w' : World} (hS : ∀ b, S b → S' b ∧ w'.heap[b]? = w.heap[b]?) {ρ : Rho} {x : AV} {v : Value} (h : VR S w ρ x v) :
  ∀ {ρ' : Rho}, (∀ b r, ρ b = some r → ρ' b = some r) → VR S' w' ρ' x v := by
 induction h with
 | top => exact fun _ => .top
 | bool => exact fun _ => .bool
 | int => exact fun _ => .int
 | str => exact fun _ => .str
 | nilp => exact fun _ => .nilp
 | ptr h => exact fun hp => .ptr (hp _ _ h)
 | lp vs h hl hcell hv ih =>
  exact fun _ => .lp vs (hS _ h).1 hl (fun i u hu => ⟨(cell_same (hS _ h).2).trans (hcell i u hu).1, (hcell i u hu).2⟩) (fun i x u h1 h2 => ih i x u h1 h2 (fun _ _ h => h))
 | nils => exact fun _ => .nils
 | sl0 => exact fun _ => .sl0
 | sl vs h hl hsz hc hcell hv ih =>
  exact fun _ => .sl vs (hS _ h).1 hl hsz hc (fun i u hu => ⟨(cell_same (hS _ h).2).trans (hcell i u hu).1, (hcell i u hu).2⟩) (fun i x u h1 h2 => ih i x u h1 h2 (fun _ _ h => h))
 | own h h1 h2 => exact fun hp => .own (hp _ _ h) h1 h2
 | ownz h h2 => exact fun hp => .ownz (hp _ _ h) h2
 | own0 => exact fun _ => .own0
 | nilm => exact fun _ => .nilm
 | omap h => exact fun hp => .omap (hp _ _ h)
 | fn us vs h1 h2 h3 h4 ih1 ih2 => exact fun hp => .fn us vs h1 h2 (fun i x u a b => ih1 i x u a b hp) (fun i x u a b => ih2 i x u a b hp)
 | nilf => exact fun _ => .nilf
 | ifc h ih => exact fun hp => .ifc (ih hp)
 | nili => exact fun _ => .nili
 | agg vs h1 h2 ih => exact fun hp => .agg vs h1 (fun i x u a b => ih i x u a b hp)
 | tup vs h1 h2 ih => exact fun hp => .tup vs h1 (fun i x u a b => ih i x u a b hp)

inductive Blk where
 | cells (sz : Nat) (xs : List AV)
 | map (es : List (AV × AV))

abbrev Heap := List (Nat × Blk)

def hget : Heap → Nat → Option Blk
 | [], _ => none
 | (i, b) :: t, j => if i = j then some b else hget t j

def hset : Heap → Nat → Blk → Heap
 | [], j, b => [(j, b)]
 | (i, x) :: t, j, b => if i = j then (j, b) :: t else (i, x) :: hset t j b

def hdel : Heap → Nat → Heap
 | [], _ => []
 | (i, x) :: t, j => if i = j then hdel t j else (i, x) :: hdel t j

def tget : List (Nat × AV) → Nat → AV
 | [], _ => .top
 | (i, v) :: t, j => if i = j then v else tget t j

theorem hget_set (h : Heap) (j : Nat) (b : Blk) (k : Nat) : hget (hset h j b) k = if j = k then some b else hget h k := by
 induction h with
 | nil => simp [hset, hget]
 | cons p t ih =>
  obtain ⟨i, x⟩ := p
  unfold hset
  by_cases h1 : i = j
  ·subst h1
   simp only [if_true, hget]
   by_cases h2 : i = k
   ·simp [h2]
   ·simp [h2]
  ·simp only [h1, if_false, hget]
   by_cases h2 : i = k
   ·subst h2
    simp only [if_true]
    rw [if_neg (fun e => h1 e.symm)]
   ·simp only [h2, if_false]
    exact ih

theorem hget_del (h : Heap) (j : Nat) (k : Nat) : hget (hdel h j) k = if j = k then none else hget h k := by
 induction h with
 | nil => simp [hdel, hget]
 | cons p t ih =>
  obtain ⟨i, x⟩ := p
  unfold hdel
  by_cases h1 : i = j
  ·subst h1
   simp only [if_true, ih]
   by_cases h2 : i = k
   ·simp [h2]
   ·simp [h2, hget]
  ·simp only [h1, if_false, hget]
   by_cases h2 : i = k
   ·subst h2
    simp only [if_true]
    rw [if_neg (fun e => h1 e.symm)]
   ·simp only [h2, if_false]
    exact ih

def BR (S : Nat → Prop) (w : World) (ρ : Rho) (r : R) : Blk → Prop
 | .cells sz xs => r.sz = sz ∧ (∀ x ∈ xs, x.cells.length = sz) ∧ xs.length ≤ r.cap ∧ r.cap ≤ maxLen ∧
   ∃ cur e, w.heap[r.blk]? = some (.cells cur e (0, 0)) ∧ cur.size = r.cap * sz ∧ (∀ (i : Nat) (u : Value), cur[i]? = some u → u.oneCell' = true) ∧
    ∀ (i : Nat) (x : AV) (u : Value), (flat xs)[i]? = some x → cur[i]? = some u → VR S w ρ x u
 | .map es => ∃ ents clock, w.heap[r.blk]? = some (.map ents clock) ∧ es.length = ents.size ∧ ((∀ x ∈ ents.toList, x.born < clock) ∧ (ents.toList.map (·.born)).Nodup) ∧
   ∀ (i : Nat) (p : AV × AV) (e : MapEntry), es[i]? = some p → ents[i]? = some e → VR S w ρ p.1 e.key ∧ VR S w ρ p.2 e.val

theorem BR.mono {S S' : Nat → Prop} {w w' : World} (hS : ∀ b, S b → S' b ∧ w'.heap[b]? = w.heap[b]?) {ρ ρ' : Rho} (hp : ∀ b r, ρ b = some r → ρ' b = some r) {r : R} {B : Blk}
  (hr : w'.heap[r.blk]? = w.heap[r.blk]?) (h : BR S w ρ r B) : BR S' w' ρ' r B := by
 cases B with
 | cells sz xs =>
  obtain ⟨h1, h2, h3, h4, cur, e, h5, h6, h7, h8⟩ := h
  exact ⟨h1, h2, h3, h4, cur, e, by rw [hr]; exact h5, h6, h7, fun i x u a b => (h8 i x u a b).mono hS hp⟩
 | map es =>
  obtain ⟨ents, clock, h1, h2, hst, h3⟩ := h
  exact ⟨ents, clock, by rw [hr]; exact h1, h2, hst, fun i p e a b => ⟨(h3 i p e a b).1.mono hS hp, (h3 i p e a b).2.mono hS hp⟩⟩

structure Sim (ρ : Rho) (h : Heap) (S : Nat → Prop) (w : World) : Prop where
 blk : ∀ b B, hget h b = some B → (∃ r, ρ b = some r ∧ BR S w ρ r B ∧ ¬ S r.blk ∧ r.blk < w.heap.size) ∨ (ρ b = none ∧ ∃ sz, B = .cells sz [])
 inj : ∀ b b' B B' r r', hget h b = some B → hget h b' = some B' → ρ b = some r → ρ b' = some r' → b ≠ b' → r.blk ≠ r'.blk
 lt : ∀ b, S b → b < w.heap.size

structure Ctx where
 w0 : World
 own0 : Nat → Prop
 S0 : Nat → Prop
 r0 : Rho
 nx0 : Nat

structure Post (c : Ctx) (ρ : Rho) (h : Heap) (S : Nat → Prop) (w : World) : Prop where
 os : w.os = c.w0.os
 tape : w.tape = c.w0.tape
 output : w.output = c.w0.output
 size : c.w0.heap.size ≤ w.heap.size
 keep : ∀ b, b < c.w0.heap.size → ¬ c.own0 b → w.heap[b]? = c.w0.heap[b]?
 sIn : ∀ b, c.S0 b → S b
 sNew : ∀ b, S b → c.S0 b ∨ c.w0.heap.size ≤ b
 own : ∀ b B r, hget h b = some B → ρ b = some r → c.own0 r.blk ∨ c.w0.heap.size ≤ r.blk
 ids : ∀ b, b < c.nx0 → ρ b = c.r0 b

structure St where
 tm : List (Nat × AV)
 h : Heap
 nx : Nat

structure Rep (c : Ctx) (n : Nat) (st : St) (ρ : Rho) (S : Nat → Prop) (a : Act) (w : World) : Prop where
 size : a.tmps.size = n
 defers : a.defers = []
 tmps : ∀ i, VR S w ρ (tget st.tm i) (a.tmps.getD i undef)
 sim : Sim ρ st.h S w
 post : Post c ρ st.h S w
 fresh : ∀ b, st.nx ≤ b → ρ b = none
 le : c.nx0 ≤ st.nx
 dom : ∀ b B, hget st.h b = some B → b < st.nx

theorem Rep.known {c : Ctx} {n : Nat} {st : St} {ρ : Rho} {S : Nat → Prop} {a : Act} {w : World} (h : Rep c n st ρ S a w) {b : Nat} {r : R} (hb : ρ b = some r) : b < st.nx := by
 rcases Nat.lt_or_ge b st.nx with h' | h'
 ·exact h'
 ·rw [h.fresh b h'] at hb; cases hb

structure Same (w w' : World) : Prop where
 os : w'.os = w.os
 tape : w'.tape = w.tape
 output : w'.output = w.output
 size : w.heap.size ≤ w'.heap.size
 block : ∀ k, k < w.heap.size → w'.heap[k]? = w.heap[k]?

theorem Same.refl (w : World) : Same w w := ⟨rfl, rfl, rfl, Nat.le_refl _, fun _ _ => rfl⟩
theorem Same.drew (w : World) : Same w w.drew := ⟨rfl, rfl, rfl, Nat.le_refl _, fun _ _ => rfl⟩
theorem Same.trans {a b c : World} (h : Same a b) (k : Same b c) : Same a c :=
 ⟨k.os.trans h.os, k.tape.trans h.tape, k.output.trans h.output, Nat.le_trans h.size k.size, fun i hi => (k.block i (Nat.lt_of_lt_of_le hi h.size)).trans (h.block i hi)⟩
theorem Same.alloc (w : World) (o : Obj) : Same w (w.alloc o) := ⟨rfl, rfl, rfl, by simp, fun _ hk => heap_alloc_old w o hk⟩

theorem Rep.same {c : Ctx} {n : Nat} {st : St} {ρ : Rho} {S : Nat → Prop} {a : Act} {w w' : World} (h : Rep c n st ρ S a w) (hw : Same w w') : Rep c n st ρ S a w' := by
 have hS : ∀ b, S b → S b ∧ w'.heap[b]? = w.heap[b]? := fun b hb => ⟨hb, hw.block b (h.sim.lt b hb)⟩
 refine ⟨h.size, h.defers, fun i => (h.tmps i).mono hS (fun _ _ h => h), ⟨fun b B hb => ?_, h.sim.inj, fun b hb => Nat.lt_of_lt_of_le (h.sim.lt b hb) hw.size⟩, ?_, h.fresh, h.le, h.dom⟩
 ·rcases h.sim.blk b B hb with ⟨r, h1, h2, h3, h4⟩ | hv
  ·exact .inl ⟨r, h1, h2.mono hS (fun _ _ h => h) (hw.block _ h4), h3, Nat.lt_of_lt_of_le h4 hw.size⟩
  ·exact .inr hv
 ·exact ⟨hw.os.trans h.post.os, hw.tape.trans h.post.tape, hw.output.trans h.post.output, Nat.le_trans h.post.size hw.size,
   fun b hb ho => (hw.block b (Nat.lt_of_lt_of_le hb h.post.size)).trans (h.post.keep b hb ho), h.post.sIn, h.post.sNew, h.post.own, h.post.ids⟩

theorem Rep.put {c : Ctx} {n : Nat} {st : St} {ρ : Rho} {S : Nat → Prop} {a : Act} {w : World} (h : Rep c n st ρ S a w) (d : Nat) (hd : d < n) (v : AV) (u : Value) (hv : VR S w ρ v u) :
  Rep c n { st with tm := (d, v) :: st.tm } ρ S (a.put (some d) u) w := by
 refine ⟨by simp [Act.put, h.size], h.defers, fun i => ?_, h.sim, h.post, h.fresh, h.le, h.dom⟩
 have hsz := h.size
 have ht := h.tmps i
 simp only [tget, Act.put]
 by_cases hi : d = i
 ·subst hi
  simp only [if_true]
  have : (a.tmps.setIfInBounds d u).getD d undef = u := by simp [hsz, hd]
  rw [this]
  exact hv
 ·simp only [hi, if_false]
  have : (a.tmps.setIfInBounds d u).getD i undef = a.tmps.getD i undef := by
   simp only [Array.getD_eq_getD_getElem?, Array.getElem?_setIfInBounds_ne hi]
  rw [this]
  exact ht

theorem Rep.turn {c : Ctx} {n : Nat} {st : St} {ρ : Rho} {S : Nat → Prop} {a : Act} {w w' : World} (h : Rep c n st ρ S a w) (b : Nat) (r : R) (B : Blk) (ρ' : Rho) (h' : Heap) (nx' : Nat)
  (hos : w'.os = w.os) (htape : w'.tape = w.tape) (hout : w'.output = w.output) (hsize : w.heap.size ≤ w'.heap.size)
  (hblock : ∀ k, k < w.heap.size → k ≠ r.blk → w'.heap[k]? = w.heap[k]?)
  (hids : ∀ k, k < st.nx → ρ' k = ρ k) (hle : st.nx ≤ nx') (hb : ρ' b = some r) (hB : BR S w' ρ' r B) (hlt : r.blk < w'.heap.size) (hnS : ¬ S r.blk)
  (hown : c.own0 r.blk ∨ c.w0.heap.size ≤ r.blk)
  (hh : ∀ k X, hget h' k = some X → (k = b ∧ X = B) ∨ (k ≠ b ∧ hget st.h k = some X))
  (hoth : ∀ k X q, k ≠ b → hget h' k = some X → ρ k = some q → q.blk ≠ r.blk)
  (hnx : ∀ k, nx' ≤ k → ρ' k = none) (hbn : b < nx') : Rep c n ⟨st.tm, h', nx'⟩ ρ' S a w' := by
 have hρ : ∀ k q, ρ k = some q → ρ' k = some q := fun k q hk => (hids k (h.known hk)).trans hk
 have hS : ∀ k, S k → S k ∧ w'.heap[k]? = w.heap[k]? := fun k hk => ⟨hk, hblock k (h.sim.lt k hk) (fun e => hnS (e ▸ hk))⟩
 refine ⟨h.size, h.defers, fun i => (h.tmps i).mono hS hρ, ⟨fun k X hk => ?_, fun k k' X X' q q' hk hk' hq hq' hne => ?_, fun k hk => Nat.lt_of_lt_of_le (h.sim.lt k hk) hsize⟩, ?_, hnx, Nat.le_trans h.le hle, fun k X hk => (hh k X hk).elim (fun e => e.1 ▸ hbn) (fun e => Nat.lt_of_lt_of_le (h.dom k X e.2) hle)⟩
 ·rcases hh k X hk with ⟨rfl, rfl⟩ | ⟨hkb, hk0⟩
  ·exact .inl ⟨r, hb, hB, hnS, hlt⟩
  ·rcases h.sim.blk k X hk0 with ⟨q, h1, h2, h3, h4⟩ | ⟨h1, h2⟩
   ·exact .inl ⟨q, hρ _ _ h1, h2.mono hS hρ (hblock _ h4 (hoth k X q hkb hk h1)), h3, Nat.lt_of_lt_of_le h4 hsize⟩
   ·exact .inr ⟨(hids k (h.dom k X hk0)).trans h1, h2⟩
 ·rcases hh k X hk with ⟨rfl, rfl⟩ | ⟨hkb, hk0⟩
  ·rcases hh k' X' hk' with ⟨rfl, rfl⟩ | ⟨hkb', hk0'⟩
   ·exact absurd rfl hne
   ·have h1 : ρ k' = some q' := (hids k' (h.dom k' X' hk0')).symm.trans hq'
    have e2 : q = r := Option.some.inj (hq.symm.trans hb)
    subst e2
    exact fun e => hoth k' X' q' hkb' hk' h1 e.symm
  ·have h0 : ρ k = some q := (hids k (h.dom k X hk0)).symm.trans hq
   rcases hh k' X' hk' with ⟨rfl, rfl⟩ | ⟨hkb', hk0'⟩
   ·have e2 : q' = r := Option.some.inj (hq'.symm.trans hb)
    subst e2
    exact hoth k X q hkb hk h0
   ·have h1 : ρ k' = some q' := (hids k' (h.dom k' X' hk0')).symm.trans hq'
    exact h.sim.inj k k' X X' q q' hk0 hk0' h0 h1 hne
 ·refine ⟨hos.trans h.post.os, htape.trans h.post.tape, hout.trans h.post.output, Nat.le_trans h.post.size hsize, fun k hk ho => ?_, h.post.sIn, h.post.sNew, fun k X q hk hq => ?_, fun k hk => (hids k (Nat.lt_of_lt_of_le hk h.le)).trans (h.post.ids k hk)⟩
  ·have hne : k ≠ r.blk := by
    rintro rfl
    rcases hown with ho' | ho'
    ·exact ho ho'
    ·omega
   exact (hblock k (Nat.lt_of_lt_of_le hk h.post.size) hne).trans (h.post.keep k hk ho)
  ·rcases hh k X hk with ⟨rfl, rfl⟩ | ⟨hkb, hk0⟩
   ·have e2 : q = r := Option.some.inj (hq.symm.trans hb)
    subst e2
    exact hown
   ·have h1 : ρ k = some q := (hids k (h.dom k X hk0)).symm.trans hq
    exact h.post.own k X q hk0 h1

end Go.Proofs.Ytpggknkhldecaaa.Abs
end
section
namespace Go.Proofs.Ytpggknkhldecaaa.Abs

def ofConst1 : Value → AV
 | .bool b => .bool b
 | .int k n => .int k n
 | .string s => .str s
 | .pointer none => .nilp
 | .slice none 0 0 => .nils
 | .map none => .nilm
 | .nilFunc => .nilf
 | .nilIface => .nili
 | _ => .top

def ofConst : Value → AV
 | .agg cs => .agg (cs.toList.map ofConst1)
 | v => ofConst1 v

theorem ofConst1_VR (S : Nat → Prop) (w : World) (ρ : Rho) (v : Value) : VR S w ρ (ofConst1 v) v := by
 unfold ofConst1
 split <;> constructor

theorem ofConst_VR (S : Nat → Prop) (w : World) (ρ : Rho) (v : Value) : VR S w ρ (ofConst v) v := by
 unfold ofConst
 split
 ·refine .agg _ (by simp) (fun i x u hx hu => ?_)
  rw [List.getElem?_map] at hx
  rw [← Array.getElem?_toList] at hu
  rw [hu] at hx
  obtain rfl := Option.some.inj hx
  exact ofConst1_VR S w ρ u
 ·exact ofConst1_VR S w ρ _

def oev (tm : List (Nat × AV)) : Operand → AV
 | .tmp t => tget tm t
 | .const v => ofConst v
 | .global _ => .top
 | .func f => .fn (.func f) [] []

theorem Rep.oev {c : Ctx} {n : Nat} {st : St} {ρ : Rho} {S : Nat → Prop} {a : Act} {w : World} (h : Rep c n st ρ S a w) (x : Operand) : VR S w ρ (oev st.tm x) (a.eval x) := by
 cases x with
 | tmp t => exact h.tmps t
 | const v => exact ofConst_VR S w ρ v
 | global g => exact .top
 | func f => exact .fn #[] #[] rfl rfl (fun i x u hx _ => by simp at hx) (fun i x u hx _ => by simp at hx)

def Lift (c : Ctx) (n : Nat) (Q : Exit → St → Prop) : Exit → Act → World → Prop := fun e a w => ∃ st ρ S, Q e st ∧ Rep c n st ρ S a w

def AW (P : Program) (c : Ctx) (n : Nat) (code : Code) (Q : Exit → St → Prop) (st : St) : Prop :=
 ∀ ρ S a w, Rep c n st ρ S a w → code.wp P (Lift c n Q) a w

def AL (P : Program) (c : Ctx) (n : Nat) (ops : Array Oper) (Q : Exit → St → Prop) (rest : List Oper) (st : St) : Prop :=
 ∀ ρ S a w, Rep c n st ρ S a w → wpList P ops (Lift c n Q) rest a w

def thenA (next : St → Prop) (Q : Exit → St → Prop) : Exit → St → Prop
 | .normal, st => next st
 | e, st => Q e st

def inBlockA (id : Nat) (Q : Exit → St → Prop) : Exit → St → Prop
 | .exit id', st => if id' = id then Q .normal st else Q (.exit id') st
 | e, st => Q e st

section
variable {P : Program} {c : Ctx} {n : Nat} {Q : Exit → St → Prop} {st : St}

theorem aw_mono {code : Code} {Q' : Exit → St → Prop} (hq : ∀ e st, Q e st → Q' e st) (h : AW P c n code Q st) : AW P c n code Q' st :=
 fun ρ S a w hr => Code.wp_mono (fun _ _ _ ⟨st, ρ, S, q, r⟩ => ⟨st, ρ, S, hq _ _ q, r⟩) (h ρ S a w hr)

theorem aw_seq {x y : Code} (h : AW P c n x (thenA (AW P c n y Q) Q) st) : AW P c n (.seq x y) Q st := fun ρ S a w hr =>
 wp_seq (Code.wp_mono (fun e a w ⟨st', ρ', S', q, r⟩ => by
  cases e with
  | normal => exact q ρ' S' a w r
  | _ => exact ⟨st', ρ', S', q, r⟩) (h ρ S a w hr))

theorem aw_skip (h : Q .normal st) : AW P c n .skip Q st := fun _ _ _ _ hr => wp_skip ⟨_, _, _, h, hr⟩
theorem aw_exit {id : Nat} (h : Q (.exit id) st) : AW P c n (.exit id) Q st := fun _ _ _ _ hr => wp_exit ⟨_, _, _, h, hr⟩
theorem aw_ret (h : Q .ret st) : AW P c n .ret Q st := fun _ _ _ _ hr => wp_ret ⟨_, _, _, h, hr⟩

theorem aw_block {id : Nat} {x : Code} (h : AW P c n x (inBlockA id Q) st) : AW P c n (.block id x) Q st := fun ρ S a w hr =>
 wp_block (Code.wp_mono (fun e a w ⟨st', ρ', S', q, r⟩ => by
  cases e with
  | exit id' =>
   simp only [inBlockA] at q
   simp only [Exit.inBlock]
   split
   ·rename_i he; rw [if_pos he] at q; exact ⟨st', ρ', S', q, r⟩
   ·rename_i he; rw [if_neg he] at q; exact ⟨st', ρ', S', q, r⟩
  | _ => exact ⟨st', ρ', S', q, r⟩) (h ρ S a w hr))

theorem VR.bool_inv {S : Nat → Prop} {w : World} {ρ : Rho} {b : Bool} {v : Value} (h : VR S w ρ (.bool b) v) : v = .bool b := by cases h; rfl
theorem VR.int_inv {S : Nat → Prop} {w : World} {ρ : Rho} {k : IntKind} {m : Int} {v : Value} (h : VR S w ρ (.int k m) v) : v = .int k m := by cases h; rfl
theorem VR.str_inv {S : Nat → Prop} {w : World} {ρ : Rho} {s : ByteArray} {v : Value} (h : VR S w ρ (.str s) v) : v = .string s := by cases h; rfl

theorem aw_yes {x y : Code} {o : Operand} (hc : oev st.tm o = .bool true) (h : AW P c n x Q st) : AW P c n (.cond o x y) Q st := fun ρ S a w hr =>
 wp_cond_true (by have := hr.oev o; rw [hc] at this; exact this.bool_inv) (h ρ S a w hr)
theorem aw_no {x y : Code} {o : Operand} (hc : oev st.tm o = .bool false) (h : AW P c n y Q st) : AW P c n (.cond o x y) Q st := fun ρ S a w hr =>
 wp_cond_false (by have := hr.oev o; rw [hc] at this; exact this.bool_inv) (h ρ S a w hr)
theorem aw_region {id : Nat} {l : List Oper} (h : AL P c n l.toArray Q l st) : AW P c n (.region id l.toArray false) Q st := fun ρ S a w hr =>
 wp_region_lit (h ρ S a w hr)

theorem al_nil {ops : Array Oper} (h : Q .normal st) : AL P c n ops Q [] st := fun _ _ _ _ hr => wpList_nil ⟨_, _, _, h, hr⟩

def Does (P : Program) (o : Oper) (a : Act) (w : World) (K : Value → World → Prop) : Prop :=
 match (execOp a.eval o).run P w with
 | .ok (.value v) w' => K v w'
 | .ok .skip w' => K undef w'
 | .ok (.enter f args) w' => Calls P f args w' fun e w'' => ∃ v, e = .returned v ∧ K v w''
 | _ => False

theorem Does.wp {P : Program} {o : Oper} {a : Act} {w : World} {K : Value → World → Prop} {K' : Act → World → Prop} {Qe : Exit → Act → World → Prop} (h : Does P o a w K) (hk : ∀ v w', K v w' → K' (a.put o.dst v) w') : o.wp P a w K' Qe := by
 unfold Does at h
 unfold Oper.wp
 generalize (execOp a.eval o).run P w = r at *
 cases r with
 | ok nx w' =>
  cases nx <;> simp only [] at h <;> simp only [Oper.upon]
  case value v => exact hk _ _ h
  case skip => exact hk _ _ h
  case enter f args => exact h.mono fun e w'' ⟨v, he, hv⟩ => by subst he; exact hk _ _ hv
 | halt x w' => simp only [] at h

theorem Does.mono {P : Program} {o : Oper} {a : Act} {w : World} {K K' : Value → World → Prop} (h : Does P o a w K) (hk : ∀ v w', K v w' → K' v w') : Does P o a w K' := by
 unfold Does at *
 generalize (execOp a.eval o).run P w = r at *
 cases r with
 | ok nx w' =>
  cases nx <;> simp only [] at h ⊢
  case value v => exact hk _ _ h
  case skip => exact hk _ _ h
  case enter f args => exact h.mono fun e w'' ⟨v, he, hv⟩ => ⟨v, he, hk _ _ hv⟩
 | halt x w' => simp only [] at h

def OpOK (P : Program) (op : Op) (st : St) (v : AV) (h' : Heap) (nx' : Nat) : Prop :=
 ∀ (c : Ctx) (n : Nat) (ρ : Rho) (S : Nat → Prop) (a : Act) (w : World), Rep c n st ρ S a w → ∀ o : Oper, o.op = op → Does P o a w fun u w' => ∃ ρ' S', Rep c n ⟨st.tm, h', nx'⟩ ρ' S' a w' ∧ VR S' w' ρ' v u ∧
  (∀ b r, ρ b = some r → ρ' b = some r) ∧ ∀ b, S b → S' b ∧ w'.heap[b]? = w.heap[b]?

theorem OpOK.of {P : Program} {op : Op} {st : St} {v : AV} {h' : Heap} {nx' : Nat}
  (h : ∀ (c : Ctx) (n : Nat) (ρ : Rho) (S : Nat → Prop) (a : Act) (w : World), Rep c n st ρ S a w → ∃ nxt u w' ρ' S', (∀ o : Oper, o.op = op → (execOp a.eval o).run P w = .ok nxt w') ∧
   (nxt = .value u ∨ nxt = .skip ∧ u = undef) ∧ Rep c n ⟨st.tm, h', nx'⟩ ρ' S' a w' ∧ VR S' w' ρ' v u ∧ (∀ b r, ρ b = some r → ρ' b = some r) ∧ ∀ b, S b → S' b ∧ w'.heap[b]? = w.heap[b]?) : OpOK P op st v h' nx' := by
 intro c n ρ S a w hr o ho
 obtain ⟨nxt, u, w', ρ', S', h1, h2, h3⟩ := h c n ρ S a w hr
 unfold Does
 rw [h1 o ho]
 rcases h2 with rfl | ⟨rfl, rfl⟩
 ·exact ⟨ρ', S', h3⟩
 ·exact ⟨ρ', S', h3⟩

def OpP (P : Program) (op : Op) (tm : List (Nat × AV)) (h : Heap) (v : AV) : Prop :=
 ∀ (c : Ctx) (n : Nat) (nx : Nat) (ρ : Rho) (S : Nat → Prop) (a : Act) (w : World), Rep c n ⟨tm, h, nx⟩ ρ S a w → ∃ u, (∀ o : Oper, o.op = op → (execOp a.eval o).run P w = .ok (.value u) w) ∧ VR S w ρ v u

theorem OpP.ok {op : Op} {tm : List (Nat × AV)} {h : Heap} {nx : Nat} {v : AV} (hp : OpP P op tm h v) : OpOK P op ⟨tm, h, nx⟩ v h nx := OpOK.of fun c n ρ S a w hr => by
 obtain ⟨u, h1, h2⟩ := hp c n nx ρ S a w hr
 exact ⟨_, u, w, ρ, S, h1, .inl rfl, hr, h2, fun _ _ h => h, fun _ h => ⟨h, rfl⟩⟩

def putA (d : Option Nat) (v : AV) (st : St) : St :=
 match d with
 | some d => { st with tm := (d, v) :: st.tm }
 | none => st

theorem Rep.putA {a : Act} {w : World} {ρ : Rho} {S : Nat → Prop} (h : Rep c n st ρ S a w) (d : Option Nat) (hd : ∀ k, d = some k → k < n) {v : AV} {u : Value} (hv : VR S w ρ v u) : Rep c n (putA d v st) ρ S (a.put d u) w := by
 cases d with
 | none => exact h
 | some k => exact h.put k (hd k rfl) v u hv

theorem al_run {ops : Array Oper} {o : Oper} {rest : List Oper} {v : AV} {h' : Heap} {nx' : Nat} {ρ : Rho} {S : Nat → Prop} {a : Act} {w : World} (hd : ∀ k, o.dst = some k → k < n) (hr : Rep c n st ρ S a w)
  (h : OpOK P o.op st v h' nx') (k : AL P c n ops Q rest (putA o.dst v ⟨st.tm, h', nx'⟩)) : o.wp P a w (wpList P ops (Lift c n Q) rest) (Lift c n Q) :=
 (h c n ρ S a w hr o rfl).wp fun v w' ⟨ρ', S', h3, h4, _⟩ => k ρ' S' _ w' (h3.putA o.dst hd h4)

theorem al_op {ops : Array Oper} {o : Oper} {rest : List Oper} {v : AV} {h' : Heap} {nx' : Nat} (hg : o.guard = none) (hd : ∀ k, o.dst = some k → k < n)
  (h : OpOK P o.op st v h' nx') (k : AL P c n ops Q rest (putA o.dst v ⟨st.tm, h', nx'⟩)) : AL P c n ops Q (o :: rest) st := fun ρ S a w hr => by
 unfold wpList
 rw [if_pos (by simp [Region.wanted, hg])]
 exact .inl (al_run hd hr h k)

theorem yielded_of {ops : Array Oper} {ρ : Rho} {S : Nat → Prop} {a : Act} {w : World} (hr : Rep c n st ρ S a w) {j d : Nat} {b : Bool} (hj : (ops[j]?).bind (·.dst) = some d) (hd : d < n) (hb : tget st.tm d = .bool b) :
  yielded ops a.tmps j = some b := by
 have h1 := hr.tmps d
 rw [hb] at h1
 have h2 := h1.bool_inv
 have h3 : a.tmps[d]? = some (.bool b) := by
  rw [← h2, Array.getD_eq_getD_getElem?]
  have : d < a.tmps.size := by rw [hr.size]; exact hd
  simp [this]
 unfold yielded
 rw [hj]
 simp [h3]

def gv : AV → Option (Option Bool)
 | .bool b => some (some b)
 | .tup _ => some none
 | _ => none

theorem yielded_gv {ops : Array Oper} {ρ : Rho} {S : Nat → Prop} {a : Act} {w : World} (hr : Rep c n st ρ S a w) {j d : Nat} {g : Option Bool} (hj : (ops[j]?).bind (·.dst) = some d) (hd : d < n) (hb : gv (tget st.tm d) = some g) :
  yielded ops a.tmps j = g := by
 generalize hx : tget st.tm d = x at hb
 cases x <;> simp only [gv, Option.some.injEq, reduceCtorEq] at hb
 case bool b => subst hb; exact yielded_of hr hj hd hx
 case tup xs =>
  subst hb
  have h1 := hr.tmps d
  rw [hx] at h1
  generalize hu : a.tmps.getD d undef = u at h1
  cases h1 with
  | tup vs q1 q2 =>
   have h3 : a.tmps[d]? = some (.tuple vs) := by
    rw [← hu, Array.getD_eq_getD_getElem?]
    have : d < a.tmps.size := by rw [hr.size]; exact hd
    simp [this]
   unfold yielded
   rw [hj]
   simp [h3]

theorem al_opg {ops : Array Oper} {o : Oper} {rest : List Oper} {v : AV} {h' : Heap} {nx' : Nat} {j d : Nat} {b : Bool} (hg : o.guard = some (j, b)) (hj : (ops[j]?).bind (·.dst) = some d) (hdn : d < n)
  (hb : tget st.tm d = .bool b) (hd : ∀ k, o.dst = some k → k < n)
  (h : OpOK P o.op st v h' nx') (k : AL P c n ops Q rest (putA o.dst v ⟨st.tm, h', nx'⟩)) : AL P c n ops Q (o :: rest) st := fun ρ S a w hr => by
 unfold wpList
 rw [if_pos (by simp [Region.wanted, hg, yielded_of hr hj hdn hb])]
 exact .inl (al_run hd hr h k)

theorem al_pass {ops : Array Oper} {o : Oper} {rest : List Oper} {j d : Nat} {b : Bool} {g : Option Bool} (hg : o.guard = some (j, b)) (hj : (ops[j]?).bind (·.dst) = some d) (hdn : d < n)
  (hb : gv (tget st.tm d) = some g) (hne : g ≠ some b) (hd : ∀ k, o.dst = some k → k < n) (k : AL P c n ops Q rest (putA o.dst (.tup []) st)) : AL P c n ops Q (o :: rest) st := fun ρ S a w hr => by
 unfold wpList
 rw [if_neg (by simp [Region.wanted, hg, yielded_gv hr hj hdn hb, hne])]
 exact k ρ S _ w (hr.putA o.dst hd (.tup #[] rfl (fun i x u hx _ => by simp at hx)))

end
end Go.Proofs.Ytpggknkhldecaaa.Abs
end
section
namespace Go.Proofs.Ytpggknkhldecaaa.Abs

mutual
def AV.ren (σ : Nat → Nat) : AV → AV
 | .ptr b i o => .ptr (σ b) i o
 | .lp cs => .lp cs
 | .own b st len => .own (σ b) st len
 | .ownz b st => .ownz (σ b) st
 | .omap b => .omap (σ b)
 | .fn f xs ys => .fn f (rens σ xs) (rens σ ys)
 | .ifc t x => .ifc t (x.ren σ)
 | .agg xs => .agg (rens σ xs)
 | .tup xs => .tup (rens σ xs)
 | .top => .top
 | .bool b => .bool b
 | .int k n => .int k n
 | .str s => .str s
 | .nilp => .nilp
 | .nils => .nils
 | .sl sz xs => .sl sz xs
 | .nilm => .nilm
 | .nilf => .nilf
 | .nili => .nili
def rens (σ : Nat → Nat) : List AV → List AV
 | [] => []
 | x :: xs => x.ren σ :: rens σ xs
end

theorem rens_map (σ : Nat → Nat) : ∀ (xs : List AV), rens σ xs = xs.map (AV.ren σ)
 | [] => rfl
 | x :: xs => by rw [rens, rens_map σ xs]; rfl

def Blk.ren (σ : Nat → Nat) : Blk → Blk
 | .cells sz xs => .cells sz (xs.map (AV.ren σ))
 | .map es => .map (es.map fun p => (p.1.ren σ, p.2.ren σ))

theorem VR.ren {S : Nat → Prop} {w : World} {σ : Nat → Nat} {ρ : Rho} {x : AV} {v : Value} (h : VR S w ρ x v) :
  ∀ {ρ' : Rho}, (∀ b r, ρ b = some r → ρ' (σ b) = some r) → VR S w ρ' (x.ren σ) v := by
 induction h with
 | top => intro _ _; simp only [AV.ren, rens_map]; exact .top
 | bool => intro _ _; simp only [AV.ren, rens_map]; exact .bool
 | int => intro _ _; simp only [AV.ren, rens_map]; exact .int
 | str => intro _ _; simp only [AV.ren, rens_map]; exact .str
 | nilp => intro _ _; simp only [AV.ren, rens_map]; exact .nilp
 | ptr h => intro _ hp; simp only [AV.ren, rens_map]; exact .ptr (hp _ _ h)
 | lp vs h hl hcell hv ih => intro _ _; simp only [AV.ren, rens_map]; exact .lp vs h hl hcell hv
 | nils => intro _ _; simp only [AV.ren, rens_map]; exact .nils
 | sl0 => intro _ _; simp only [AV.ren, rens_map]; exact .sl0
 | sl vs h hl hsz hc hcell hv ih => intro _ _; simp only [AV.ren, rens_map]; exact .sl vs h hl hsz hc hcell hv
 | own h h1 h2 => intro _ hp; simp only [AV.ren, rens_map]; exact .own (hp _ _ h) h1 h2
 | ownz h h2 => intro _ hp; simp only [AV.ren, rens_map]; exact .ownz (hp _ _ h) h2
 | own0 => intro _ _; simp only [AV.ren, rens_map]; exact .own0
 | nilm => intro _ _; simp only [AV.ren, rens_map]; exact .nilm
 | omap h => intro _ hp; simp only [AV.ren, rens_map]; exact .omap (hp _ _ h)
 | fn us vs h1 h2 h3 h4 ih1 ih2 =>
  intro _ hp
  simp only [AV.ren, rens_map]
  refine .fn us vs (by simpa using h1) (by simpa using h2) (fun i x u hx hu => ?_) (fun i x u hx hu => ?_)
  ·rw [List.getElem?_map] at hx
   obtain ⟨y, hy, rfl⟩ := Option.map_eq_some_iff.1 hx
   exact ih1 i y u hy hu hp
  ·rw [List.getElem?_map] at hx
   obtain ⟨y, hy, rfl⟩ := Option.map_eq_some_iff.1 hx
   exact ih2 i y u hy hu hp
 | nilf => intro _ _; simp only [AV.ren, rens_map]; exact .nilf
 | ifc h ih => intro _ hp; simp only [AV.ren, rens_map]; exact .ifc (ih hp)
 | nili => intro _ _; simp only [AV.ren, rens_map]; exact .nili
 | agg vs h1 h2 ih =>
  intro _ hp
  simp only [AV.ren, rens_map]
  refine .agg vs (by simpa using h1) (fun i x u hx hu => ?_)
  rw [List.getElem?_map] at hx
  obtain ⟨y, hy, rfl⟩ := Option.map_eq_some_iff.1 hx
  exact ih i y u hy hu hp
 | tup vs h1 h2 ih =>
  intro _ hp
  simp only [AV.ren, rens_map]
  refine .tup vs (by simpa using h1) (fun i x u hx hu => ?_)
  rw [List.getElem?_map] at hx
  obtain ⟨y, hy, rfl⟩ := Option.map_eq_some_iff.1 hx
  exact ih i y u hy hu hp

theorem VR.back {S : Nat → Prop} {w : World} {σ : Nat → Nat} {ρ : Rho} {y : AV} {v : Value} (h : VR S w ρ y v) :
  ∀ (x : AV), y = x.ren σ → VR S w (fun b => ρ (σ b)) x v := by
 induction h with
 | top => intro x e; cases x <;> simp only [AV.ren, rens_map] at e <;> first | exact .top | cases e
 | bool => intro x e; cases x <;> simp only [AV.ren, rens_map] at e <;> cases e; exact .bool
 | int => intro x e; cases x <;> simp only [AV.ren, rens_map] at e <;> cases e; exact .int
 | str => intro x e; cases x <;> simp only [AV.ren, rens_map] at e <;> cases e; exact .str
 | nilp => intro x e; cases x <;> simp only [AV.ren, rens_map] at e <;> first | exact .nilp | cases e
 | ptr h => intro x e; cases x <;> simp only [AV.ren, rens_map] at e <;> cases e; exact .ptr h
 | lp vs h hl hcell hv ih => intro x e; cases x <;> simp only [AV.ren, rens_map] at e <;> cases e; exact .lp vs h hl hcell hv
 | nils => intro x e; cases x <;> simp only [AV.ren, rens_map] at e <;> first | exact .nils | cases e
 | sl0 => intro x e; cases x <;> simp only [AV.ren, rens_map] at e <;> cases e; exact .sl0
 | sl vs h hl hsz hc hcell hv ih => intro x e; cases x <;> simp only [AV.ren, rens_map] at e <;> cases e; exact .sl vs h hl hsz hc hcell hv
 | own h h1 h2 => intro x e; cases x <;> simp only [AV.ren, rens_map] at e <;> cases e; exact .own h h1 h2
 | ownz h h2 => intro x e; cases x <;> simp only [AV.ren, rens_map] at e <;> cases e; exact .ownz h h2
 | own0 => intro x e; cases x <;> simp only [AV.ren, rens_map] at e <;> cases e; exact .own0
 | nilm => intro x e; cases x <;> simp only [AV.ren, rens_map] at e <;> first | exact .nilm | cases e
 | omap h => intro x e; cases x <;> simp only [AV.ren, rens_map] at e <;> cases e; exact .omap h
 | fn us vs h1 h2 h3 h4 ih1 ih2 =>
  intro x e
  cases x <;> simp only [AV.ren, rens_map] at e <;> cases e
  refine .fn us vs (by simpa using h1) (by simpa using h2) (fun i x u hx hu => ?_) (fun i x u hx hu => ?_)
  ·exact ih1 i _ u (by rw [List.getElem?_map, hx]; rfl) hu x rfl
  ·exact ih2 i _ u (by rw [List.getElem?_map, hx]; rfl) hu x rfl
 | nilf => intro x e; cases x <;> simp only [AV.ren, rens_map] at e <;> first | exact .nilf | cases e
 | ifc h ih => intro x e; cases x <;> simp only [AV.ren, rens_map] at e <;> cases e; exact .ifc (ih _ rfl)
 | nili => intro x e; cases x <;> simp only [AV.ren, rens_map] at e <;> first | exact .nili | cases e
 | agg vs h1 h2 ih =>
  intro x e
  cases x <;> simp only [AV.ren, rens_map] at e <;> cases e
  exact .agg vs (by simpa using h1) (fun i x u hx hu => ih i _ u (by rw [List.getElem?_map, hx]; rfl) hu x rfl)
 | tup vs h1 h2 ih =>
  intro x e
  cases x <;> simp only [AV.ren, rens_map] at e <;> cases e
  exact .tup vs (by simpa using h1) (fun i x u hx hu => ih i _ u (by rw [List.getElem?_map, hx]; rfl) hu x rfl)

theorem AV.ren_cells (σ : Nat → Nat) (x : AV) : (x.ren σ).cells = x.cells.map (AV.ren σ) := by
 cases x <;> simp [AV.ren, AV.cells, rens_map]

theorem flat_ren (σ : Nat → Nat) (xs : List AV) : flat (xs.map (AV.ren σ)) = (flat xs).map (AV.ren σ) := by
 unfold flat
 induction xs with
 | nil => rfl
 | cons x xs ih => simp only [List.map_cons, List.flatMap_cons, ih, AV.ren_cells, List.map_append]

theorem BR.back {S : Nat → Prop} {w : World} {σ : Nat → Nat} {ρ : Rho} {r : R} {B : Blk} (h : BR S w ρ r (B.ren σ)) : BR S w (fun b => ρ (σ b)) r B := by
 cases B with
 | cells sz xs =>
  obtain ⟨h1, h2, h3, h4, cur, e, h5, h6, h7, h8⟩ := h
  refine ⟨h1, fun x hx => ?_, by simpa using h3, h4, cur, e, h5, h6, h7, fun i x u hx hu => ?_⟩
  ·have := h2 (x.ren σ) (List.mem_map_of_mem hx)
   rw [AV.ren_cells, List.length_map] at this
   exact this
  ·exact (h8 i _ u (by rw [flat_ren, List.getElem?_map, hx]; rfl) hu).back x rfl
 | map es =>
  obtain ⟨ents, clock, h1, h2, hst, h3⟩ := h
  refine ⟨ents, clock, h1, by simpa using h2, hst, fun i p e hp he => ?_⟩
  obtain ⟨a, b⟩ := h3 i _ e (by rw [List.getElem?_map, hp]; rfl) he
  exact ⟨a.back _ rfl, b.back _ rfl⟩

theorem BR.ren {S : Nat → Prop} {w : World} {σ : Nat → Nat} {ρ ρ' : Rho} (hp : ∀ b r, ρ b = some r → ρ' (σ b) = some r) {r : R} {B : Blk} (h : BR S w ρ r B) : BR S w ρ' r (B.ren σ) := by
 cases B with
 | cells sz xs =>
  obtain ⟨h1, h2, h3, h4, cur, e, h5, h6, h7, h8⟩ := h
  refine ⟨h1, fun x hx => ?_, by simpa using h3, h4, cur, e, h5, h6, h7, fun i x u hx hu => ?_⟩
  ·obtain ⟨y, hy, rfl⟩ := List.mem_map.1 hx
   rw [AV.ren_cells, List.length_map]
   exact h2 y hy
  ·rw [flat_ren, List.getElem?_map] at hx
   obtain ⟨y, hy, rfl⟩ := Option.map_eq_some_iff.1 hx
   exact (h8 i y u hy hu).ren hp
 | map es =>
  obtain ⟨ents, clock, h1, h2, hst, h3⟩ := h
  refine ⟨ents, clock, h1, by simpa using h2, hst, fun i p e hp' he => ?_⟩
  rw [List.getElem?_map] at hp'
  obtain ⟨y, hy, rfl⟩ := Option.map_eq_some_iff.1 hp'
  obtain ⟨a, b⟩ := h3 i y e hy he
  exact ⟨a.ren hp, b.ren hp⟩

def Le (c : Ctx) (n : Nat) (st st' : St) : Prop := ∀ ρ S a w, Rep c n st ρ S a w → ∃ ρ', Rep c n st' ρ' S a w

theorem Le.refl (c : Ctx) (n : Nat) (st : St) : Le c n st st := fun ρ _ _ _ h => ⟨ρ, h⟩

def swp (l : List (Nat × Nat)) (nx' nx : Nat) (b : Nat) : Nat :=
 match l with
 | [] => if b < nx' then b else b + nx
 | (i, j) :: t => if b = i then j else swp t nx' nx b

theorem swp_ge (l : List (Nat × Nat)) (nx' nx b : Nat) (hl : l.all (fun p => p.1 < nx') = true) (hb : nx' ≤ b) : nx ≤ swp l nx' nx b := by
 induction l with
 | nil => simp only [swp]; rw [if_neg (by omega)]; omega
 | cons p t ih =>
  obtain ⟨i, j⟩ := p
  simp only [List.all_cons, Bool.and_eq_true, decide_eq_true_eq] at hl
  simp only [swp]
  rw [if_neg (by omega)]
  exact ih hl.2

theorem swp_id (l : List (Nat × Nat)) (nx' nx b m : Nat) (hl : l.all (fun p => m ≤ p.1) = true) (hm : m ≤ nx') (hb : b < m) : swp l nx' nx b = b := by
 induction l with
 | nil => simp only [swp]; rw [if_pos (by omega)]
 | cons p t ih =>
  obtain ⟨i, j⟩ := p
  simp only [List.all_cons, Bool.and_eq_true, decide_eq_true_eq] at hl
  simp only [swp]
  rw [if_neg (by omega)]
  exact ih hl.2

theorem le_of {c : Ctx} {n : Nat} {st st' : St} (l : List (Nat × Nat)) (h1 : l.all (fun p => p.1 < st'.nx) = true) (h2 : l.all (fun p => c.nx0 ≤ p.1) = true) (h3 : c.nx0 ≤ st'.nx) (h4 : st'.h.all (fun p => p.1 < st'.nx) = true)
  (ht : ∀ p ∈ st'.tm, tget st'.tm p.1 = .top ∨ tget st.tm p.1 = (tget st'.tm p.1).ren (swp l st'.nx st.nx))
  (hh : ∀ p ∈ st'.h, hget st.h (swp l st'.nx st.nx p.1) = (hget st'.h p.1).map (Blk.ren (swp l st'.nx st.nx)))
  (hi : ((st'.h.map (fun p => p.1)).all fun b => (st'.h.map (fun p => p.1)).all fun b' => b == b' || swp l st'.nx st.nx b != swp l st'.nx st.nx b') = true) : Le c n st st' := by
 intro ρ S a w hr
 have mem_t : ∀ (tm : List (Nat × AV)) i, tget tm i = .top ∨ ∃ p ∈ tm, p.1 = i := by
  intro tm i
  induction tm with
  | nil => exact .inl rfl
  | cons q t ih =>
   obtain ⟨j, v⟩ := q
   by_cases e : j = i
   ·exact .inr ⟨(j, v), List.mem_cons_self, e⟩
   ·rcases ih with h | ⟨p, hp, he⟩
    ·exact .inl (by simp only [tget, e, if_false]; exact h)
    ·exact .inr ⟨p, List.mem_cons_of_mem _ hp, he⟩
 have mem_h : ∀ (h : Heap) i B, hget h i = some B → ∃ p ∈ h, p.1 = i := by
  intro h i B
  induction h with
  | nil => intro e; cases e
  | cons q t ih =>
   obtain ⟨j, v⟩ := q
   intro e
   by_cases ej : j = i
   ·exact ⟨(j, v), List.mem_cons_self, ej⟩
   ·simp only [hget, ej, if_false] at e
    obtain ⟨p, hp, he⟩ := ih e
    exact ⟨p, List.mem_cons_of_mem _ hp, he⟩
 have hget' : ∀ b B, hget st'.h b = some B → hget st.h (swp l st'.nx st.nx b) = some (B.ren (swp l st'.nx st.nx)) := by
  intro b B hb
  obtain ⟨p, hp, rfl⟩ := mem_h _ _ _ hb
  rw [hh p hp, hb]
  rfl
 refine ⟨fun b => ρ (swp l st'.nx st.nx b), hr.size, hr.defers, fun i => ?_, ⟨fun b B hb => ?_, fun b b' B B' r r' hb hb' hq hq' hne => ?_, hr.sim.lt⟩, ?_, fun b hb => hr.fresh _ (swp_ge l _ _ b h1 hb), h3, fun b B hb => ?_⟩
 ·rcases mem_t st'.tm i with h | ⟨p, hp, rfl⟩
  ·rw [h]; exact .top
  ·rcases ht p hp with h | h
   ·rw [h]; exact .top
   ·have := hr.tmps p.1
    rw [h] at this
    exact this.back _ rfl
 ·rcases hr.sim.blk _ _ (hget' b B hb) with ⟨r, h1, h2, h3, h4⟩ | ⟨h1, sz, h2⟩
  ·exact .inl ⟨r, h1, h2.back, h3, h4⟩
  ·refine .inr ⟨h1, sz, ?_⟩
   cases B with
   | cells sz' xs =>
    simp only [Blk.ren, Blk.cells.injEq, List.map_eq_nil_iff] at h2
    rw [h2.1, h2.2]
   | map es => cases h2
 ·refine hr.sim.inj _ _ _ _ r r' (hget' b B hb) (hget' b' B' hb') hq hq' ?_
  obtain ⟨p, hp, rfl⟩ := mem_h _ _ _ hb
  obtain ⟨p', hp', rfl⟩ := mem_h _ _ _ hb'
  have := hi
  rw [List.all_eq_true] at this
  have := this p.1 (List.mem_map_of_mem hp)
  rw [List.all_eq_true] at this
  have := this p'.1 (List.mem_map_of_mem hp')
  simp only [Bool.or_eq_true, beq_iff_eq, bne_iff_ne] at this
  exact this.resolve_left hne
 ·have hp := hr.post
  refine ⟨hp.os, hp.tape, hp.output, hp.size, hp.keep, hp.sIn, hp.sNew, fun b B r hb hq => hp.own _ _ r (hget' b B hb) hq, fun b hb => ?_⟩
  show ρ _ = _
  rw [swp_id l _ _ b c.nx0 h2 h3 hb]
  exact hp.ids b hb
 ·obtain ⟨p, hp, rfl⟩ := mem_h _ _ _ hb
  have := List.all_eq_true.1 h4 p hp
  simpa using this

section
variable {P : Program} {c : Ctx} {n : Nat} {Q : Exit → St → Prop} {st : St}

theorem aw_le {code : Code} {st' : St} (h : Le c n st st') (k : AW P c n code Q st') : AW P c n code Q st := fun ρ S a w hr => by
 obtain ⟨ρ', hr'⟩ := h ρ S a w hr
 exact k ρ' S a w hr'

theorem aw_loop {ι : Type} {code : Code} (I : ι → St) (μ : ι → Nat) (i0 : ι) (h0 : Le c n st (I i0)) (round : ∀ i, AW P c n code (thenA (fun st' => ∃ j, μ j < μ i ∧ Le c n st' (I j)) Q) (I i)) : AW P c n (.loop code) Q st := by
 intro ρ S a w hr b k cs
 have key : ∀ m i ρ S a w, μ i = m → Rep c n (I i) ρ S a w →
   ∃ e a' w', Lift c n Q e a' w' ∧ Arrives P (lone (b.at a (.code code :: .inLoop code :: k)) cs w) b k cs e a' w' := by
  intro m
  induction m using Nat.strongRecOn with
  | _ m ih =>
   intro i ρ S a w hm hI
   obtain ⟨e, a₁, w₁, ⟨st₁, ρ₁, S₁, hq, hr₁⟩, harr⟩ := round i ρ S a w hI b (.inLoop code :: k) cs
   cases e with
   | normal =>
    obtain ⟨j, hlt, hle⟩ := hq
    obtain ⟨ρ₂, hr₂⟩ := hle _ _ _ _ hr₁
    obtain ⟨e₂, a₂, w₂, hq₂, harr₂⟩ := ih (μ j) (hm ▸ hlt) j ρ₂ S₁ a₁ w₁ rfl hr₂
    exact ⟨e₂, a₂, w₂, hq₂, .of_steps (Steps.trans harr (.one step_inLoop)) harr₂⟩
   | exit id => exact ⟨_, a₁, w₁, ⟨st₁, ρ₁, S₁, hq, hr₁⟩, .pass (x := .inLoop code) rfl (fun _ _ => .inl (by simp)) harr⟩
   | goto l => exact ⟨_, a₁, w₁, ⟨st₁, ρ₁, S₁, hq, hr₁⟩, .pass (x := .inLoop code) rfl (fun _ _ => .inl (by simp)) harr⟩
   | ret => exact ⟨_, a₁, w₁, ⟨st₁, ρ₁, S₁, hq, hr₁⟩, .pass (x := .inLoop code) rfl (fun _ _ => .inl (by simp)) harr⟩
   | panic ch => exact ⟨_, a₁, w₁, ⟨st₁, ρ₁, S₁, hq, hr₁⟩, .pass (x := .inLoop code) rfl (fun _ _ => .inl (by simp)) harr⟩
   | outgrown => exact ⟨_, a₁, w₁, ⟨st₁, ρ₁, S₁, hq, hr₁⟩, .pass (x := .inLoop code) rfl (fun _ _ => .inl (by simp)) harr⟩
 obtain ⟨ρ', hr'⟩ := h0 ρ S a w hr
 obtain ⟨e, a', w', hq, harr⟩ := key _ i0 ρ' S a w rfl hr'
 exact ⟨e, a', w', hq, .of_steps (.one step_loop) harr⟩
end
end Go.Proofs.Ytpggknkhldecaaa.Abs
end
section
namespace Go.Proofs.Ytpggknkhldecaaa.Abs

def Own (ρ : Rho) (h : Heap) (b : Nat) : Prop := ∃ i B r, hget h i = some B ∧ ρ i = some r ∧ r.blk = b

structure CPost (al : Bool) (ρ : Rho) (h : Heap) (nx : Nat) (S : Nat → Prop) (w : World) (ρ' : Rho) (h' : Heap) (S' : Nat → Prop) (w' : World) : Prop where
 os : w'.os = w.os
 tape : w'.tape = w.tape
 output : w'.output = w.output
 size : w.heap.size ≤ w'.heap.size
 keep : ∀ b, b < w.heap.size → ¬ Own ρ h b → w'.heap[b]? = w.heap[b]?
 own : ∀ b, Own ρ' h' b → Own ρ h b ∨ w.heap.size ≤ b
 s : ∀ b, S' b → (al = true ∧ S b) ∨ w.heap.size ≤ b
 ids : ∀ b, b < nx → ρ' b = ρ b

def VRs (S : Nat → Prop) (w : World) (ρ : Rho) (xs : List AV) (vs : Array Value) : Prop :=
 xs.length = vs.size ∧ ∀ (i : Nat) (x : AV) (u : Value), xs[i]? = some x → vs[i]? = some u → VR S w ρ x u

def AC (P : Program) (f : FuncId) (args : List AV) (h : Heap) (nx : Nat) (al : Bool) (Q : AV → Heap → Nat → Prop) : Prop :=
 ∀ (ρ : Rho) (S : Nat → Prop) (w : World) (vals : Array Value), Sim ρ h S w → (∀ b, nx ≤ b → ρ b = none) → VRs S w ρ args vals →
  Calls P f vals w fun e w' => ∃ v r h' nx' ρ' S', e = .returned v ∧ Q r h' nx' ∧ VR S' w' ρ' r v ∧ Sim ρ' h' S' w' ∧ (∀ b, nx' ≤ b → ρ' b = none) ∧ (∀ b B, hget h' b = some B → b < nx') ∧ CPost al ρ h nx S w ρ' h' S' w'

theorem AC.mono {P : Program} {f : FuncId} {args : List AV} {h : Heap} {nx : Nat} {al : Bool} {Q Q' : AV → Heap → Nat → Prop} (hq : ∀ r h' nx', Q r h' nx' → Q' r h' nx') (k : AC P f args h nx al Q) : AC P f args h nx al Q' :=
 fun ρ S w vals h1 h2 h3 => (k ρ S w vals h1 h2 h3).mono fun _ _ ⟨v, r, h', nx', ρ', S', a, b, rest⟩ => ⟨v, r, h', nx', ρ', S', a, hq _ _ _ b, rest⟩

mutual
def AV.nosl : AV → Bool
 | .sl _ xs => xs.isEmpty
 | .fn _ xs ys => nosls xs && nosls ys
 | .ifc _ x => x.nosl
 | .agg xs => nosls xs
 | .tup xs => nosls xs
 | .top => true
 | .bool _ => true
 | .int _ _ => true
 | .str _ => true
 | .nilp => true
 | .lp _ => false
 | .ptr _ _ _ => true
 | .nils => true
 | .own _ _ _ => true
 | .ownz _ _ => true
 | .nilm => true
 | .omap _ => true
 | .nilf => true
 | .nili => true
def nosls : List AV → Bool
 | [] => true
 | x :: xs => x.nosl && nosls xs
end

theorem nosls_all : ∀ (xs : List AV), nosls xs = xs.all AV.nosl
 | [] => rfl
 | x :: xs => by rw [nosls, nosls_all xs]; rfl

def Blk.nosl : Blk → Bool
 | .cells _ xs => xs.all AV.nosl
 | .map es => es.all fun p => p.1.nosl && p.2.nosl

theorem all_get {xs : List AV} {p : AV → Bool} (h : xs.all p = true) {i : Nat} {x : AV} (hx : xs[i]? = some x) : p x = true :=
 List.all_eq_true.1 h x (List.mem_of_getElem? hx)

theorem VR.nosl {S S' : Nat → Prop} {w : World} {ρ : Rho} {x : AV} {v : Value} (h : VR S w ρ x v) : x.nosl = true → VR S' w ρ x v := by
 induction h with
 | top => intro _; exact .top
 | bool => intro _; exact .bool
 | int => intro _; exact .int
 | str => intro _; exact .str
 | nilp => intro _; exact .nilp
 | ptr h => intro _; exact .ptr h
 | lp vs h hl hcell hv ih => intro e; simp [AV.nosl] at e
 | nils => intro _; exact .nils
 | sl0 => intro _; exact .sl0
 | sl vs h hl hsz hc hcell hv ih =>
  intro e
  simp only [AV.nosl, List.isEmpty_iff] at e
  subst e
  exact .sl0
 | own h h1 h2 => intro _; exact .own h h1 h2
 | ownz h h2 => intro _; exact .ownz h h2
 | own0 => intro _; exact .own0
 | nilm => intro _; exact .nilm
 | omap h => intro _; exact .omap h
 | fn us vs h1 h2 h3 h4 ih1 ih2 =>
  intro e
  simp only [AV.nosl, nosls_all, Bool.and_eq_true] at e
  exact .fn us vs h1 h2 (fun i x u hx hu => ih1 i x u hx hu (all_get e.1 hx)) (fun i x u hx hu => ih2 i x u hx hu (all_get e.2 hx))
 | nilf => intro _; exact .nilf
 | ifc h ih => intro e; simp only [AV.nosl] at e; exact .ifc (ih e)
 | nili => intro _; exact .nili
 | agg vs h1 h2 ih =>
  intro e
  simp only [AV.nosl, nosls_all] at e
  exact .agg vs h1 (fun i x u hx hu => ih i x u hx hu (all_get e hx))
 | tup vs h1 h2 ih =>
  intro e
  simp only [AV.nosl, nosls_all] at e
  exact .tup vs h1 (fun i x u hx hu => ih i x u hx hu (all_get e hx))

theorem nosl_flat {xs : List AV} (h : xs.all AV.nosl = true) : ∀ x ∈ flat xs, x.nosl = true := by
 intro x hx
 obtain ⟨y, hy, hxy⟩ := List.mem_flatMap.1 hx
 have hyn := List.all_eq_true.1 h y hy
 cases y <;> simp only [AV.cells, List.mem_singleton] at hxy <;> first | (subst hxy; exact hyn) | skip
 simp only [AV.nosl, nosls_all] at hyn
 exact List.all_eq_true.1 hyn x hxy

theorem BR.nosl {S S' : Nat → Prop} {w : World} {ρ : Rho} {r : R} {B : Blk} (h : BR S w ρ r B) (hn : B.nosl = true) : BR S' w ρ r B := by
 cases B with
 | cells sz xs =>
  obtain ⟨h1, h2, h3, h4, cur, e, h5, h6, h7, h8⟩ := h
  exact ⟨h1, h2, h3, h4, cur, e, h5, h6, h7, fun i x u hx hu => (h8 i x u hx hu).nosl (nosl_flat hn x (List.mem_of_getElem? hx))⟩
 | map es =>
  obtain ⟨ents, clock, h1, h2, hst, h3⟩ := h
  refine ⟨ents, clock, h1, h2, hst, fun i p e hp he => ?_⟩
  have := List.all_eq_true.1 hn p (List.mem_of_getElem? hp)
  simp only [Bool.and_eq_true] at this
  exact ⟨(h3 i p e hp he).1.nosl this.1, (h3 i p e hp he).2.nosl this.2⟩

def ResOK (P : Program) (fn : Func) (st : St) (r : AV) : Prop :=
 ∀ (c : Ctx) (n : Nat) (ρ : Rho) (S : Nat → Prop) (a : Act) (w : World), Rep c n st ρ S a w → ∃ v, (results fn a.tmps).run P w = .ok v w ∧ VR S w ρ r v

def RetA (P : Program) (c : Ctx) (n : Nat) (fn : Func) (al : Bool) (Q : AV → Heap → Nat → Prop) : Exit → St → Prop
 | .normal, st => ∃ st' r, Le c n st st' ∧ ResOK P fn st' r ∧ (al = true ∨ (r.nosl = true ∧ st'.h.all (fun p => p.2.nosl) = true)) ∧ Q r st'.h st'.nx
 | .ret, st => ∃ st' r, Le c n st st' ∧ ResOK P fn st' r ∧ (al = true ∨ (r.nosl = true ∧ st'.h.all (fun p => p.2.nosl) = true)) ∧ Q r st'.h st'.nx
 | _, _ => False

def argTm (args : List AV) (i : Nat := 0) : List (Nat × AV) :=
 match args with
 | [] => []
 | x :: xs => (i, x) :: argTm xs (i + 1)

theorem tget_argTm (args : List AV) : ∀ (i j : Nat), tget (argTm args i) j = if i ≤ j then (args[j - i]?).getD .top else .top := by
 induction args with
 | nil => intro i j; simp [argTm, tget]
 | cons x xs ih =>
  intro i j
  simp only [argTm, tget]
  by_cases h : i = j
  ·subst h; simp
  ·rw [if_neg h, ih]
   by_cases h2 : i ≤ j
   ·rw [if_pos (by omega), if_pos h2]
    obtain ⟨d, rfl⟩ : ∃ d, j = i + 1 + d := ⟨j - (i + 1), by omega⟩
    rw [show i + 1 + d - (i + 1) = d from by omega, show i + 1 + d - i = d + 1 from by omega, List.getElem?_cons_succ]
   ·rw [if_neg (by omega), if_neg h2]

theorem hall_get {h : Heap} {p : Nat × Blk → Bool} (hp : h.all p = true) : ∀ {b : Nat} {B : Blk}, hget h b = some B → p (b, B) = true := by
 induction h with
 | nil => intro b B e; cases e
 | cons q t ih =>
  obtain ⟨i, X⟩ := q
  intro b B e
  simp only [List.all_cons, Bool.and_eq_true] at hp
  by_cases h : i = b
  ·subst h; simp only [hget, if_true] at e; obtain rfl := Option.some.inj e; exact hp.1
  ·simp only [hget, h, if_false] at e; exact ih hp.2 e

theorem ac_body {P : Program} {f : FuncId} {fn : Func} {body : Code} {args : List AV} {h : Heap} {nx : Nat} {al : Bool} {Q : AV → Heap → Nat → Prop} (hf : P.funcs[f]? = some fn) (hb : fn.body = some body) (hlen : args.length ≤ fn.ntmps) (hdom : h.all (fun p => p.1 < nx) = true)
  (hbody : ∀ w0 S0 r0, AW P ⟨w0, Own r0 h, S0, r0, nx⟩ fn.ntmps body (RetA P ⟨w0, Own r0 h, S0, r0, nx⟩ fn.ntmps fn al Q) ⟨argTm args, h, nx⟩) : AC P f args h nx al Q := by
 intro ρ S w vals hsim hfresh hargs
 have hrep : Rep ⟨w, Own ρ h, S, ρ, nx⟩ fn.ntmps ⟨argTm args, h, nx⟩ ρ S { tmps := vals ++ Array.replicate (fn.ntmps - vals.size) undef, defers := [] } w := by
  have hsz := hargs.1
  refine ⟨by simp; omega, rfl, fun i => ?_, hsim, ⟨rfl, rfl, rfl, Nat.le_refl _, fun _ _ _ => rfl, fun _ h => h, fun _ h => .inl h, fun b B r h1 h2 => .inl ⟨b, B, r, h1, h2, rfl⟩, fun _ _ => rfl⟩, hfresh, Nat.le_refl _, fun b B hb => by simpa using hall_get hdom hb⟩
  rw [tget_argTm, if_pos (Nat.zero_le _), Nat.sub_zero]
  by_cases hi : i < args.length
  ·have h1 : args[i]? = some args[i] := List.getElem?_eq_getElem hi
   have h2 : i < vals.size := by omega
   rw [h1]
   have h3 : (vals ++ Array.replicate (fn.ntmps - vals.size) undef).getD i undef = vals[i] := by
    rw [Array.getD_eq_getD_getElem?, Array.getElem?_append_left h2]
    simp [h2]
   rw [h3]
   exact hargs.2 i _ _ h1 (by simp [h2])
  ·rw [List.getElem?_eq_none (by omega)]
   exact .top
 refine calls_of_wp hf hb (Code.wp_mono (fun e a w' hq => ?_) (hbody w S ρ ρ S _ w hrep))
 obtain ⟨st, ρ₁, S₁, hret, hr⟩ := hq
 have fin : (∃ st' r, Le ⟨w, Own ρ h, S, ρ, nx⟩ fn.ntmps st st' ∧ ResOK P fn st' r ∧ (al = true ∨ (r.nosl = true ∧ st'.h.all (fun p => p.2.nosl) = true)) ∧ Q r st'.h st'.nx) →
   a.defers = [] ∧ ∃ v, (results fn a.tmps).run P w' = .ok v w' ∧ ∃ v_1 r h' nx' ρ' S', Ending.returned v = .returned v_1 ∧ Q r h' nx' ∧ VR S' w' ρ' r v_1 ∧ Sim ρ' h' S' w' ∧ (∀ b, nx' ≤ b → ρ' b = none) ∧ (∀ b B, hget h' b = some B → b < nx') ∧ CPost al ρ h nx S w ρ' h' S' w' := by
  rintro ⟨st', r, hle, hres, hal, hQ⟩
  obtain ⟨ρ₂, hr₂⟩ := hle _ _ _ _ hr
  obtain ⟨v, hv, hvr⟩ := hres _ _ _ _ _ _ hr₂
  refine ⟨hr₂.defers, v, hv, ?_⟩
  have hp := hr₂.post
  have hown : ∀ b, Own ρ₂ st'.h b → Own ρ h b ∨ w.heap.size ≤ b := by
   rintro b ⟨i, B, r, h1, h2, rfl⟩
   exact hp.own i B r h1 h2
  rcases hal with hal | ⟨hn1, hn2⟩
  ·exact ⟨v, r, st'.h, st'.nx, ρ₂, S₁, rfl, hQ, hvr, hr₂.sim, hr₂.fresh, hr₂.dom, hp.os, hp.tape, hp.output, hp.size, hp.keep, hown, fun b hb => (hp.sNew b hb).imp (fun h => ⟨hal, h⟩) id, hp.ids⟩
  ·refine ⟨v, r, st'.h, st'.nx, ρ₂, fun b => S₁ b ∧ w.heap.size ≤ b, rfl, hQ, hvr.nosl hn1, ⟨fun b B hb => ?_, hr₂.sim.inj, fun b hb => hr₂.sim.lt b hb.1⟩, hr₂.fresh, hr₂.dom, hp.os, hp.tape, hp.output, hp.size, hp.keep, hown, fun b hb => .inr hb.2, hp.ids⟩
   rcases hr₂.sim.blk b B hb with ⟨q, h1, h2, h3, h4⟩ | hv
   ·exact .inl ⟨q, h1, h2.nosl (hall_get hn2 hb), fun hs => h3 hs.1, h4⟩
   ·exact .inr hv
 cases e with
 | normal => exact fin hret
 | ret => exact fin hret
 | exit id => exact hret.elim
 | goto l => exact hret.elim
 | panic ch => exact hret.elim
 | outgrown => exact hret.elim

mutual
def AV.plain : AV → Bool
 | .sl _ _ => true
 | .fn _ xs ys => plains xs && plains ys
 | .ifc _ x => x.plain
 | .agg xs => plains xs
 | .tup xs => plains xs
 | .top => true
 | .bool _ => true
 | .int _ _ => true
 | .str _ => true
 | .nilp => true
 | .lp _ => true
 | .ptr _ _ _ => false
 | .nils => true
 | .own _ _ _ => false
 | .ownz _ _ => false
 | .nilm => true
 | .omap _ => false
 | .nilf => true
 | .nili => true
def plains : List AV → Bool
 | [] => true
 | x :: xs => x.plain && plains xs
end

theorem plains_all : ∀ (xs : List AV), plains xs = xs.all AV.plain
 | [] => rfl
 | x :: xs => by rw [plains, plains_all xs]; rfl

theorem VR.plain {S : Nat → Prop} {w : World} {ρ ρ' : Rho} {x : AV} {v : Value} (h : VR S w ρ x v) : x.plain = true → VR S w ρ' x v := by
 induction h with
 | top => intro _; exact .top
 | bool => intro _; exact .bool
 | int => intro _; exact .int
 | str => intro _; exact .str
 | nilp => intro _; exact .nilp
 | ptr h => intro e; simp [AV.plain] at e
 | lp vs h hl hcell hv ih => intro _; exact .lp vs h hl hcell hv
 | nils => intro _; exact .nils
 | sl0 => intro _; exact .sl0
 | sl vs h hl hsz hc hcell hv ih => intro _; exact .sl vs h hl hsz hc hcell hv
 | own h h1 h2 => intro e; simp [AV.plain] at e
 | ownz h h2 => intro e; simp [AV.plain] at e
 | own0 => intro e; simp [AV.plain] at e
 | nilm => intro _; exact .nilm
 | omap h => intro e; simp [AV.plain] at e
 | fn us vs h1 h2 h3 h4 ih1 ih2 =>
  intro e
  simp only [AV.plain, plains_all, Bool.and_eq_true] at e
  exact .fn us vs h1 h2 (fun i x u hx hu => ih1 i x u hx hu (all_get e.1 hx)) (fun i x u hx hu => ih2 i x u hx hu (all_get e.2 hx))
 | nilf => intro _; exact .nilf
 | ifc h ih => intro e; simp only [AV.plain] at e; exact .ifc (ih e)
 | nili => intro _; exact .nili
 | agg vs h1 h2 ih =>
  intro e
  simp only [AV.plain, plains_all] at e
  exact .agg vs h1 (fun i x u hx hu => ih i x u hx hu (all_get e hx))
 | tup vs h1 h2 ih =>
  intro e
  simp only [AV.plain, plains_all] at e
  exact .tup vs h1 (fun i x u hx hu => ih i x u hx hu (all_get e hx))

theorem plain_flat {xs : List AV} (h : xs.all AV.plain = true) : (flat xs).all AV.plain = true := by
 rw [List.all_eq_true]
 intro x hx
 obtain ⟨y, hy, hxy⟩ := List.mem_flatMap.1 hx
 have hyn := List.all_eq_true.1 h y hy
 cases y <;> simp only [AV.cells, List.mem_singleton] at hxy <;> first | (subst hxy; exact hyn) | skip
 simp only [AV.plain, plains_all] at hyn
 exact List.all_eq_true.1 hyn x hxy

inductive Lend (al : Bool) (h : Heap) (τ : Nat → Nat) (ps : List Nat) : AV → AV → Prop
 | same {a l} (hp : a = l.ren τ) : Lend al h τ ps a l
 | own {b st len sz xs} (hal : al = false) (hn : ps.contains b = false) (hb : hget h b = some (.cells sz xs)) (hlen : st + len ≤ xs.length) (hpl : xs.all AV.plain = true) : Lend al h τ ps (.own b st len) (.sl sz ((xs.drop st).take len))
 | ownz {b st sz} : Lend al h τ ps (.ownz b st) (.sl sz [])
 | agg {aa ls} (hl : aa.length = ls.length) (hh : ∀ (i : Nat) (a l : AV), aa[i]? = some a → ls[i]? = some l → Lend al h τ ps a l) : Lend al h τ ps (.agg aa) (.agg ls)

inductive Lends (al : Bool) (h : Heap) (τ : Nat → Nat) (ps : List Nat) : List AV → List AV → Prop
 | nil : Lends al h τ ps [] []
 | cons {a l aa ls} (h1 : Lend al h τ ps a l) (h2 : Lends al h τ ps aa ls) : Lends al h τ ps (a :: aa) (l :: ls)

theorem Lends.len {al : Bool} {h : Heap} {τ : Nat → Nat} {ps : List Nat} {aa ls : List AV} (hl : Lends al h τ ps aa ls) : aa.length = ls.length := by
 induction hl with
 | nil => rfl
 | cons _ _ ih => simp [ih]

theorem Lends.get {al : Bool} {h : Heap} {τ : Nat → Nat} {ps : List Nat} {aa ls : List AV} (hl : Lends al h τ ps aa ls) : ∀ (i : Nat) (a l : AV), aa[i]? = some a → ls[i]? = some l → Lend al h τ ps a l := by
 induction hl with
 | nil => intro i a l ha; simp at ha
 | cons h1 h2 ih =>
  intro i a l ha hl
  cases i with
  | zero => simp only [List.getElem?_cons_zero] at ha hl; obtain rfl := Option.some.inj ha; obtain rfl := Option.some.inj hl; exact h1
  | succ i => simp only [List.getElem?_cons_succ] at ha hl; exact ih i a l ha hl

theorem Lend.of_list {al : Bool} {h : Heap} {τ : Nat → Nat} {ps : List Nat} {aa ls : List AV} (hl : Lends al h τ ps aa ls) : Lend al h τ ps (.agg aa) (.agg ls) := .agg hl.len hl.get

theorem flat_len {sz : Nat} : ∀ {xs : List AV}, (∀ x ∈ xs, x.cells.length = sz) → (flat xs).length = xs.length * sz
 | [], _ => by simp [flat]
 | x :: xs, h => by
  have h1 := h x List.mem_cons_self
  have h2 := flat_len (xs := xs) (fun y hy => h y (List.mem_cons_of_mem _ hy))
  unfold flat at h2 ⊢
  rw [List.flatMap_cons, List.length_append, h1, h2, List.length_cons, Nat.add_mul, Nat.one_mul, Nat.add_comm]

theorem flat_append (xs ys : List AV) : flat (xs ++ ys) = flat xs ++ flat ys := by simp [flat]

theorem flat_get {sz : Nat} {xs : List AV} (h : ∀ x ∈ xs, x.cells.length = sz) (st len i : Nat) (hl : st + len ≤ xs.length) (hi : i < len * sz) : (flat ((xs.drop st).take len))[i]? = (flat xs)[st * sz + i]? := by
 have e : xs = xs.take st ++ ((xs.drop st).take len ++ (xs.drop st).drop len) := by rw [List.take_append_drop, List.take_append_drop]
 have l1 : (flat (xs.take st)).length = st * sz := by
  rw [flat_len (fun x hx => h x (List.mem_of_mem_take hx)), List.length_take, Nat.min_eq_left (by omega)]
 have l2 : (flat ((xs.drop st).take len)).length = len * sz := by
  rw [flat_len (fun x hx => h x (List.mem_of_mem_drop (List.mem_of_mem_take hx))), List.length_take, List.length_drop, Nat.min_eq_left (by omega)]
 conv => rhs; rw [e]
 rw [flat_append, flat_append, List.getElem?_append_right (by omega), l1, Nat.add_sub_cancel_left, List.getElem?_append_left (by omega)]

theorem cell_of {w : World} {g o : Nat} {cur : Array Value} {e : TypeId} {fr : Nat × Nat} (h : w.heap[g]? = some (.cells cur e fr)) : w.cell? ⟨g, o, none⟩ = cur[o]? := by
 simp [World.cell?, h]

theorem VR.lent {S S' : Nat → Prop} {w : World} {ρ : Rho} {b st len : Nat} {sz : Nat} {xs : List AV} {v : Value} {r : R} (h : VR S w ρ (.own b st len) v) (hr : ρ b = some r) (hB : BR S w ρ r (.cells sz xs)) (hlen : st + len ≤ xs.length)
  (hpl : xs.all AV.plain = true) (hS : ∀ b, S b → S' b) (hb : S' r.blk) (ρ' : Rho) : VR S' w ρ' (.sl sz ((xs.drop st).take len)) v := by
 have hle : ((xs.drop st).take len).length = len := by rw [List.length_take, List.length_drop, Nat.min_eq_left (by omega)]
 obtain ⟨h1, h2, h3, h4, cur, e, h5, h6, h7, h8⟩ := hB
 cases h with
 | own0 =>
  have : (xs.drop st).take 0 = [] := by simp
  rw [this]
  exact .sl0
 | own hq hc1 hc2 =>
  obtain rfl := Option.some.inj (hq.symm.trans hr)
  have hm : (xs.length) * sz ≤ cur.size := by rw [h6]; exact Nat.mul_le_mul_right _ h3
  have hm2 : (st + len) * sz ≤ xs.length * sz := Nat.mul_le_mul_right _ hlen
  have hm3 : (st + len) * sz = st * sz + len * sz := Nat.add_mul _ _ _
  have hfl : (flat ((xs.drop st).take len)).length = len * sz := by
   rw [flat_len (fun x hx => h2 x (List.mem_of_mem_drop (List.mem_of_mem_take hx))), hle]
  have key := @VR.sl S' w ρ' sz ((xs.drop st).take len) _ (st * sz) _ ((cur.toList.drop (st * sz)).take (len * sz)) hb (by rw [hfl, List.length_take, List.length_drop, Array.length_toList, Nat.min_eq_left (by omega)])
   (fun x hx => h2 x (List.mem_of_mem_drop (List.mem_of_mem_take hx))) (by rw [hle]; exact hc1) (fun i u hu => ?_) (fun i x u hx hu => ?_)
  ·rw [hle] at key
   rw [h1]
   exact key
  ·have hi : i < len * sz := by
    rcases Nat.lt_or_ge i (len * sz) with hh | hh
    ·exact hh
    ·rw [List.getElem?_take, if_neg (by omega)] at hu; cases hu
   rw [List.getElem?_take_of_lt hi, List.getElem?_drop, Array.getElem?_toList] at hu
   exact ⟨by rw [cell_of h5]; exact hu, h7 _ u hu⟩
  ·have hi : i < len * sz := by
    rcases Nat.lt_or_ge i (len * sz) with hh | hh
    ·exact hh
    ·rw [List.getElem?_eq_none (by omega)] at hx; cases hx
   rw [List.getElem?_take_of_lt hi, List.getElem?_drop, Array.getElem?_toList] at hu
   rw [flat_get h2 st len i hlen hi] at hx
   have hp := all_get (plain_flat hpl) hx
   exact ((h8 _ x u hx hu).mono (fun b hb => ⟨hS b hb, rfl⟩) (fun _ _ h => h)).plain hp

theorem hget_map_ren (h : Heap) (τ : Nat → Nat) : ∀ (b : Nat) (B : Blk), hget (h.map fun p => (τ p.1, p.2.ren τ)) b = some B → ∃ j X, τ j = b ∧ hget h j = some X ∧ B = X.ren τ := by
 induction h with
 | nil => intro b B e; cases e
 | cons q t ih =>
  obtain ⟨i, X⟩ := q
  intro b B e
  simp only [List.map_cons, hget] at e
  by_cases hi : τ i = b
  ·rw [if_pos hi] at e
   exact ⟨i, X, hi, by simp [hget], (Option.some.inj e).symm⟩
  ·rw [if_neg hi] at e
   obtain ⟨j, Y, h1, h2, h3⟩ := ih b B e
   refine ⟨j, Y, h1, ?_, h3⟩
   simp only [hget]
   rw [if_neg (fun e' => hi (by rw [e']; exact h1))]
   exact h2

theorem hget_append (h1 h2 : Heap) (b : Nat) : hget (h1 ++ h2) b = (hget h1 b).or (hget h2 b) := by
 induction h1 with
 | nil => simp [hget]
 | cons q t ih =>
  obtain ⟨i, X⟩ := q
  simp only [List.cons_append, hget]
  by_cases hi : i = b
  ·simp [hi]
  ·simp [hi, ih]

def rest (h : Heap) (ps : List Nat) : Heap :=
 match ps with
 | [] => h
 | p :: ps => rest (hdel h p) ps

theorem hget_rest (ps : List Nat) : ∀ (h : Heap) (b : Nat), hget (rest h ps) b = if ps.contains b then none else hget h b := by
 induction ps with
 | nil => intro h b; simp [rest]
 | cons p ps ih =>
  intro h b
  simp only [rest, ih, hget_del, List.contains_cons]
  by_cases e : p = b
  ·subst e; simp
  ·have : (b == p) = false := by simp [Ne.symm e]
   simp [e, this]

end Go.Proofs.Ytpggknkhldecaaa.Abs
end
section
namespace Go.Proofs.Ytpggknkhldecaaa.Abs

def after (tm : List (Nat × AV)) (h : Heap) (nx : Nat) (τ : Nat → Nat) (ps : List Nat) (h' : Heap) (nx' : Nat) : St :=
 ⟨tm, rest h ps ++ h'.map (fun p => (τ p.1, p.2.ren τ)), nx + nx'⟩

theorem swp_hi (l : List (Nat × Nat)) (k nx j : Nat) (hl : l.all (fun p => p.1 < k) = true) (hj : k ≤ j) : swp l k nx j = j + nx := by
 induction l with
 | nil => simp only [swp]; rw [if_neg (by omega)]
 | cons p t ih =>
  obtain ⟨i, g⟩ := p
  simp only [List.all_cons, Bool.and_eq_true, decide_eq_true_eq] at hl
  simp only [swp]
  rw [if_neg (by omega)]
  exact ih hl.2

theorem swp_lt (l : List (Nat × Nat)) (k nx j : Nat) (hl2 : l.all (fun p => p.2 < nx) = true) (hl3 : k ≤ nx) (hj : j < k) : swp l k nx j < nx := by
 induction l with
 | nil => simp only [swp]; rw [if_pos hj]; omega
 | cons p t ih =>
  obtain ⟨i, g⟩ := p
  simp only [List.all_cons, Bool.and_eq_true, decide_eq_true_eq] at hl2
  simp only [swp]
  by_cases e : j = i
  ·rw [if_pos e]; exact hl2.1
  ·rw [if_neg e]; exact ih hl2.2

theorem blk_of {c : Ctx} {n : Nat} {st : St} {ρ : Rho} {S : Nat → Prop} {a : Act} {w : World} (hr : Rep c n st ρ S a w) {b : Nat} {B : Blk} {r : R} (hb : hget st.h b = some B) (hq : ρ b = some r) : ¬ S r.blk ∧ r.blk < w.heap.size ∧ BR S w ρ r B := by
 rcases hr.sim.blk b B hb with ⟨q, h1, h2, h3, h4⟩ | ⟨h1, _⟩
 ·obtain rfl := Option.some.inj (h1.symm.trans hq)
  exact ⟨h3, h4, h2⟩
 ·rw [hq] at h1; cases h1

theorem call_rep {c : Ctx} {n : Nat} {tm : List (Nat × AV)} {h : Heap} {nx : Nat} {ρ : Rho} {S Sc : Nat → Prop} {a : Act} {w : World} (hr : Rep c n ⟨tm, h, nx⟩ ρ S a w) (l : List (Nat × Nat)) (k : Nat) (al : Bool) (hc : Heap) (ps : List Nat)
  (hl : l.all (fun p => p.1 < k) = true) (hl2 : l.all (fun p => p.2 < nx) = true) (hl3 : k ≤ nx)
  (hps : ∀ b B, hget hc b = some B → ps.contains (swp l k nx b) = true)
  (hown : ∀ b, Own (fun b => ρ (swp l k nx b)) hc b → ∃ g B r, ps.contains g = true ∧ hget h g = some B ∧ ρ g = some r ∧ r.blk = b)
  (hSc : ∀ b, Sc b → S b ∨ (al = false ∧ b < w.heap.size))
  {v : Value} {r : AV} {h' : Heap} {nx' : Nat} {ρ' : Rho} {S' : Nat → Prop} {w' : World} (hv : VR S' w' ρ' r v) (hsim : Sim ρ' h' S' w') (hf : ∀ b, nx' ≤ b → ρ' b = none) (hdom' : ∀ b B, hget h' b = some B → b < nx')
  (hp : CPost al (fun b => ρ (swp l k nx b)) hc k Sc w ρ' h' S' w') :
  ∃ ρ2 S2, Rep c n (after tm h nx (swp l k nx) ps h' nx') ρ2 S2 a w' ∧ VR S2 w' ρ2 (r.ren (swp l k nx)) v ∧ (∀ b r, ρ b = some r → ρ2 b = some r) ∧ ∀ b, S b → S2 b ∧ w'.heap[b]? = w.heap[b]? := by
 have hSo : ∀ b, S b → ¬ Own (fun b => ρ (swp l k nx b)) hc b := fun b hb ho => by
  obtain ⟨g, B, q, h1, h2, h3, rfl⟩ := hown b ho
  obtain ⟨e3, _⟩ := blk_of hr h2 h3
  exact e3 hb
 have hkeepS : ∀ b, S b → w'.heap[b]? = w.heap[b]? := fun b hb => hp.keep b (hr.sim.lt b hb) (hSo b hb)
 let ρ2 : Rho := fun b => if b < nx then ρ b else ρ' (b - nx)
 let S2 : Nat → Prop := fun b => S b ∨ S' b
 have hS2 : ∀ b, S b → S2 b ∧ w'.heap[b]? = w.heap[b]? := fun b hb => ⟨.inl hb, hkeepS b hb⟩
 have hS2' : ∀ b, S' b → S2 b ∧ w'.heap[b]? = w'.heap[b]? := fun b hb => ⟨.inr hb, rfl⟩
 have hold : ∀ b q, ρ b = some q → ρ2 b = some q := fun b q hb => by
  show (if b < nx then ρ b else ρ' (b - nx)) = some q
  rw [if_pos (hr.known hb)]
  exact hb
 have swp_k : ∀ j, k ≤ j → swp l k nx j = j + nx := fun j hj => swp_hi l k nx j hl hj
 have hfar : ∀ j, j < k → ¬ swp l k nx j < nx → ρ' (swp l k nx j - nx) = none := fun j hj hx => absurd (swp_lt l k nx j hl2 hl3 hj) hx
 have hnew : ∀ j q, ρ' j = some q → ρ2 (swp l k nx j) = some q := fun j q hj => by
  rcases Nat.lt_or_ge j k with hlt | hge
  ·have := hp.ids j hlt
   rw [hj] at this
   exact hold _ _ this.symm
  ·rw [swp_k j hge]
   show (if j + nx < nx then ρ (j + nx) else ρ' (j + nx - nx)) = some q
   rw [if_neg (by omega), Nat.add_sub_cancel]
   exact hj
 have hrev : ∀ j, ρ2 (swp l k nx j) = ρ' j := fun j => by
  rcases Nat.lt_or_ge j k with hlt | hge
  ·have e := hp.ids j hlt
   rw [e]
   show (if swp l k nx j < nx then ρ (swp l k nx j) else ρ' (swp l k nx j - nx)) = ρ (swp l k nx j)
   by_cases hx : swp l k nx j < nx
   ·rw [if_pos hx]
   ·rw [if_neg hx]
    have hn := hr.fresh _ (Nat.le_of_not_lt hx)
    rw [hn]
    have hn' := hr.fresh (swp l k nx j) (Nat.le_of_not_lt hx)
    have e2 := hfar j hlt hx
    rw [e2]
  ·rw [swp_k j hge]
   show (if j + nx < nx then ρ (j + nx) else ρ' (j + nx - nx)) = ρ' j
   rw [if_neg (by omega), Nat.add_sub_cancel]
 have hnew' : ∀ j q, ρ2 (swp l k nx j) = some q → ρ' j = some q := fun j q h => (hrev j).symm.trans h
 have hnone : ∀ j, ρ' j = none → ρ2 (swp l k nx j) = none := fun j h => (hrev j).trans h
 have hS'old : ∀ b, S' b → b < w.heap.size → S b ∨ al = false := fun b hb hlt => by
  rcases hp.s b hb with ⟨h1, h2⟩ | h2
  ·rcases hSc b h2 with h3 | ⟨h3, _⟩
   ·exact .inl h3
   ·rw [h1] at h3; cases h3
  ·omega
 have hS'al : ∀ b, S' b → b < w.heap.size → S b := fun b hb hlt => by
  rcases hp.s b hb with ⟨h1, h2⟩ | h2
  ·rcases hSc b h2 with h3 | ⟨h3, _⟩
   ·exact h3
   ·rw [h1] at h3; cases h3
  ·omega
 have hrest : ∀ b B, hget (rest h ps) b = some B → hget h b = some B ∧ ps.contains b = false := fun b B hb => by
  rw [hget_rest] at hb
  split at hb
  ·cases hb
  ·rename_i hn; exact ⟨hb, by simpa using hn⟩
 have hcase : ∀ b B, hget (rest h ps ++ h'.map (fun p => (swp l k nx p.1, p.2.ren (swp l k nx)))) b = some B →
   (hget h b = some B ∧ ps.contains b = false) ∨ ∃ j X, swp l k nx j = b ∧ hget h' j = some X ∧ B = X.ren (swp l k nx) := fun b B hb => by
  rw [hget_append] at hb
  cases h1 : hget (rest h ps) b with
  | some X =>
   rw [h1] at hb
   obtain rfl : X = B := Option.some.inj (by simpa using hb)
   exact .inl (hrest b X h1)
  | none =>
   rw [h1] at hb
   exact .inr (hget_map_ren h' _ b B (by simpa using hb))
 have hnotown : ∀ b B q, hget h b = some B → ps.contains b = false → ρ b = some q → ¬ Own (fun b => ρ (swp l k nx b)) hc q.blk := fun b B q h1 h2 h3 ho => by
  obtain ⟨g, B', q', e1, e2, e3, e4⟩ := hown _ ho
  have hne : b ≠ g := fun e => by rw [e, e1] at h2; cases h2
  exact hr.sim.inj b g B B' q q' h1 e2 h3 e3 hne e4.symm
 have hpl : ∀ j X q, hget h' j = some X → ρ' j = some q → (∃ g B r, ps.contains g = true ∧ hget h g = some B ∧ ρ g = some r ∧ r.blk = q.blk) ∨ w.heap.size ≤ q.blk := fun j X q h1 h2 =>
  (hp.own q.blk ⟨j, X, q, h1, h2, rfl⟩).imp (hown _) id
 refine ⟨ρ2, S2, ⟨hr.size, hr.defers, fun i => (hr.tmps i).mono hS2 hold, ⟨fun b B hb => ?_, fun b b' B B' q q' hb hb' hq hq' hne => ?_, fun b hb => ?_⟩, ?_, fun b hb => ?_, ?_, fun b B hb => ?_⟩, ((hv.ren hnew).mono hS2' (fun _ _ h => h)), hold, hS2⟩
 ·rcases hcase b B hb with ⟨h1, h2⟩ | ⟨j, X, rfl, h1, rfl⟩
  ·rcases hr.sim.blk b B h1 with ⟨q, e1, e2, e3, e4⟩ | ⟨e1, e2⟩
   ·refine .inl ⟨q, hold _ _ e1, e2.mono hS2 hold (hp.keep _ e4 (hnotown b B q h1 h2 e1)), ?_, Nat.lt_of_lt_of_le e4 hp.size⟩
    rintro (h | h)
    ·exact e3 h
    ·exact e3 (hS'al _ h e4)
   ·refine .inr ⟨?_, e2⟩
    show (if b < nx then ρ b else ρ' (b - nx)) = none
    rw [if_pos (hr.dom b B h1)]
    exact e1
  ·rcases hsim.blk j X h1 with ⟨q, e1, e2, e3, e4⟩ | ⟨e1, sz, rfl⟩
   case inr => exact .inr ⟨hnone j e1, sz, rfl⟩
   refine .inl ⟨q, hnew _ _ e1, (e2.ren hnew).mono hS2' (fun _ _ h => h) rfl, ?_, e4⟩
   rintro (h | h)
   ·rcases hpl j X q h1 e1 with ⟨g, B', q', f1, f2, f3, f4⟩ | hge
    ·obtain ⟨g3, _⟩ := blk_of hr f2 f3
     rw [← f4] at h
     exact g3 h
    ·have := hr.sim.lt _ h; omega
   ·exact e3 h
 ·have old_new : ∀ b B q j X qj, hget h b = some B → ps.contains b = false → ρ b = some q → hget h' j = some X → ρ' j = some qj → q.blk ≠ qj.blk := fun b B q j X qj h1 h2 h3 h4 h5 => by
   rcases hpl j X qj h4 h5 with ⟨g, B', q', f1, f2, f3, f4⟩ | hge
   ·have hne : b ≠ g := fun e => by rw [e, f1] at h2; cases h2
    rw [← f4]
    exact hr.sim.inj b g B B' q q' h1 f2 h3 f3 hne
   ·obtain ⟨_, g4, _⟩ := blk_of hr h1 h3
    omega
  rcases hcase b B hb with ⟨h1, h2⟩ | ⟨j, X, rfl, h1, rfl⟩
  ·have e1 : ρ b = some q := by have hq := hq; simp only [ρ2] at hq; rw [if_pos (hr.dom b B h1)] at hq; exact hq
   rcases hcase b' B' hb' with ⟨h1', h2'⟩ | ⟨j', X', rfl, h1', rfl⟩
   ·have e1' : ρ b' = some q' := by have hq' := hq'; simp only [ρ2] at hq'; rw [if_pos (hr.dom b' B' h1')] at hq'; exact hq'
    exact hr.sim.inj b b' B B' _ _ h1 h1' e1 e1' hne
   ·have e1' : ρ' j' = some q' := hnew' j' q' hq'
    exact old_new b B _ j' X' _ h1 h2 e1 h1' e1'
  ·have e1 : ρ' j = some q := hnew' j q hq
   rcases hcase b' B' hb' with ⟨h1', h2'⟩ | ⟨j', X', rfl, h1', rfl⟩
   ·have e1' : ρ b' = some q' := by have hq' := hq'; simp only [ρ2] at hq'; rw [if_pos (hr.dom b' B' h1')] at hq'; exact hq'
    exact fun e => old_new b' B' _ j X _ h1' h2' e1' h1 e1 e.symm
   ·have e1' : ρ' j' = some q' := hnew' j' q' hq'
    exact hsim.inj j j' X X' _ _ h1 h1' e1 e1' (fun e => hne (by rw [e]))
 ·rcases hb with h | h
  ·exact Nat.lt_of_lt_of_le (hr.sim.lt b h) hp.size
  ·exact hsim.lt b h
 ·have hq := hr.post
  refine ⟨hp.os.trans hq.os, hp.tape.trans hq.tape, hp.output.trans hq.output, Nat.le_trans hq.size hp.size, fun b hb ho => ?_, fun b hb => .inl (hq.sIn b hb), fun b hb => ?_, fun b B q hb hqb => ?_, fun b hb => ?_⟩
  ·refine (hp.keep b (Nat.lt_of_lt_of_le hb hq.size) (fun hO => ?_)).trans (hq.keep b hb ho)
   obtain ⟨g, B, q, e1, e2, e3, rfl⟩ := hown b hO
   rcases hq.own g B q e2 e3 with h1 | h1
   ·exact ho h1
   ·omega
  ·rcases hb with h | h
   ·exact hq.sNew b h
   ·rcases Nat.lt_or_ge b w.heap.size with hlt | hge
    ·exact hq.sNew b (hS'al b h hlt)
    ·exact .inr (Nat.le_trans hq.size hge)
  ·rcases hcase b B hb with ⟨h1, h2⟩ | ⟨j, X, rfl, h1, rfl⟩
   ·have e1 : ρ b = some q := by have hqb := hqb; simp only [ρ2] at hqb; rw [if_pos (hr.dom b B h1)] at hqb; exact hqb
    exact hq.own b B _ h1 e1
   ·have e1 : ρ' j = some q := hnew' j q hqb
    rcases hpl j X _ h1 e1 with ⟨g, B', q', f1, f2, f3, f4⟩ | hge
    ·rw [← f4]; exact hq.own g B' q' f2 f3
    ·exact .inr (Nat.le_trans hq.size hge)
  ·show (if b < nx then ρ b else ρ' (b - nx)) = c.r0 b
   have hle : c.nx0 ≤ nx := hr.le
   rw [if_pos (Nat.lt_of_lt_of_le hb hle)]
   exact hq.ids b hb
 ·show (if b < nx then ρ b else ρ' (b - nx)) = none
  have : nx + nx' ≤ b := hb
  rw [if_neg (by omega)]
  exact hf _ (by omega)
 ·have hle : c.nx0 ≤ nx := hr.le
  exact Nat.le_trans hle (Nat.le_add_right _ _)
 ·show b < nx + nx'
  rcases hcase b B hb with ⟨h1, h2⟩ | ⟨j, X, rfl, h1, rfl⟩
  ·exact Nat.lt_of_lt_of_le (hr.dom b B h1) (Nat.le_add_right _ _)
  ·have hj := hdom' j X h1
   rcases Nat.lt_or_ge j k with hlt | hge
   ·have := swp_lt l k nx j hl2 hl3 hlt; omega
   ·rw [swp_k j hge]; omega

theorem call_sim {c : Ctx} {n : Nat} {tm : List (Nat × AV)} {h : Heap} {nx : Nat} {ρ : Rho} {S : Nat → Prop} {a : Act} {w : World} (hr : Rep c n ⟨tm, h, nx⟩ ρ S a w) (l : List (Nat × Nat)) (k : Nat) (al : Bool) (hc : Heap) (ps : List Nat)
  (hl : l.all (fun p => p.1 < k) = true)
  (hh : ∀ p ∈ hc, hget h (swp l k nx p.1) = (hget hc p.1).map (Blk.ren (swp l k nx)) ∧ ps.contains (swp l k nx p.1) = true)
  (hi : ((hc.map (fun p => p.1)).all fun b => (hc.map (fun p => p.1)).all fun b' => b == b' || swp l k nx b != swp l k nx b') = true) :
  Sim (fun b => ρ (swp l k nx b)) hc (fun b => S b ∨ (al = false ∧ Own ρ (rest h ps) b)) w ∧ (∀ b, k ≤ b → ρ (swp l k nx b) = none) ∧
  (∀ b B, hget hc b = some B → ps.contains (swp l k nx b) = true) ∧
  (∀ b, Own (fun b => ρ (swp l k nx b)) hc b → ∃ g B r, ps.contains g = true ∧ hget h g = some B ∧ ρ g = some r ∧ r.blk = b) := by
 have mem_h : ∀ (h : Heap) i B, hget h i = some B → ∃ p ∈ h, p.1 = i := by
  intro h i B
  induction h with
  | nil => intro e; cases e
  | cons q t ih =>
   obtain ⟨j, v⟩ := q
   intro e
   by_cases ej : j = i
   ·exact ⟨(j, v), List.mem_cons_self, ej⟩
   ·simp only [hget, ej, if_false] at e
    obtain ⟨p, hp, he⟩ := ih e
    exact ⟨p, List.mem_cons_of_mem _ hp, he⟩
 have hget' : ∀ b B, hget hc b = some B → hget h (swp l k nx b) = some (B.ren (swp l k nx)) ∧ ps.contains (swp l k nx b) = true := by
  intro b B hb
  obtain ⟨p, hp, rfl⟩ := mem_h _ _ _ hb
  have := hh p hp
  rw [hb] at this
  exact this
 refine ⟨⟨fun b B hb => ?_, fun b b' B B' r r' hb hb' hq hq' hne => ?_, fun b hb => ?_⟩, fun b hb => hr.fresh _ (swp_ge l _ _ b hl hb), fun b B hb => (hget' b B hb).2, ?_⟩
 ·rcases hr.sim.blk _ _ (hget' b B hb).1 with ⟨r, h1, h2, h3, h4⟩ | ⟨h1, sz, h2⟩
  case inr =>
   refine .inr ⟨h1, sz, ?_⟩
   cases B with
   | cells sz' xs =>
    simp only [Blk.ren, Blk.cells.injEq, List.map_eq_nil_iff] at h2
    rw [h2.1, h2.2]
   | map es => cases h2
  refine .inl ⟨r, h1, (h2.back).mono (fun b hb => ⟨.inl hb, rfl⟩) (fun _ _ h => h) rfl, ?_, h4⟩
  rintro (h5 | ⟨_, i, X, q, e1, e2, e3⟩)
  ·exact h3 h5
  ·rw [hget_rest] at e1
   split at e1
   ·cases e1
   ·rename_i hn
    refine hr.sim.inj i (swp l k nx b) X _ q r e1 (hget' b B hb).1 e2 h1 (fun e => ?_) e3
    rw [e, (hget' b B hb).2] at hn
    exact hn rfl
 ·refine hr.sim.inj _ _ _ _ r r' (hget' b B hb).1 (hget' b' B' hb').1 hq hq' ?_
  obtain ⟨p, hp, rfl⟩ := mem_h _ _ _ hb
  obtain ⟨p', hp', rfl⟩ := mem_h _ _ _ hb'
  have := hi
  rw [List.all_eq_true] at this
  have := this p.1 (List.mem_map_of_mem hp)
  rw [List.all_eq_true] at this
  have := this p'.1 (List.mem_map_of_mem hp')
  simp only [Bool.or_eq_true, beq_iff_eq, bne_iff_ne] at this
  exact this.resolve_left hne
 ·rcases hb with h1 | ⟨_, i, X, q, e1, e2, e3⟩
  ·exact hr.sim.lt b h1
  ·rw [hget_rest] at e1
   split at e1
   ·cases e1
   ·obtain ⟨_, f4, _⟩ := blk_of hr e1 e2
    rw [← e3]
    exact f4
 ·rintro b ⟨i, B, r, h1, h2, h3⟩
  exact ⟨_, _, r, (hget' i B h1).2, (hget' i B h1).1, h2, h3⟩

theorem Lend.vr {c : Ctx} {n : Nat} {tm : List (Nat × AV)} {h : Heap} {nx : Nat} {ρ : Rho} {S : Nat → Prop} {a : Act} {w : World} (hr : Rep c n ⟨tm, h, nx⟩ ρ S a w) {al : Bool} {τ : Nat → Nat} {ps : List Nat} {x y : AV}
  (hl : Lend al h τ ps x y) : ∀ {v : Value}, VR S w ρ x v → VR (fun b => S b ∨ (al = false ∧ Own ρ (rest h ps) b)) w (fun b => ρ (τ b)) y v := by
 induction hl with
 | same hp => intro v hv; exact (hv.back _ hp).mono (fun b hb => ⟨.inl hb, rfl⟩) (fun _ _ h => h)
 | own hal hn hb hlen hpl =>
  intro v hv
  rcases hr.sim.blk _ _ hb with ⟨r, h1, h2, h3, h4⟩ | ⟨h1, sz', h2⟩
  case inr =>
   simp only [Blk.cells.injEq] at h2
   obtain ⟨rfl, rfl⟩ := h2
   simp only [List.length_nil, Nat.le_zero, Nat.add_eq_zero_iff] at hlen
   obtain ⟨rfl, rfl⟩ := hlen
   cases hv with
   | own q _ _ => rw [h1] at q; cases q
   | own0 => exact .sl0
  have hb' := hb
  rw [← show hget (rest h ps) _ = hget h _ from by rw [hget_rest, if_neg (by rw [hn]; exact Bool.false_ne_true)]] at hb'
  exact hv.lent h1 h2 hlen hpl (fun b hb => .inl hb) (.inr ⟨hal, _, _, r, hb', h1, rfl⟩) _
 | ownz => intro v hv; cases hv; exact .sl0
 | @agg aa ls hl _ ih =>
  intro v hv
  cases hv with
  | agg vs h1 h2 => exact .agg vs (hl.symm.trans h1) (fun i y u hy hu => by
    have hi : i < ls.length := (List.getElem?_eq_some_iff.1 hy).1
    obtain ⟨x, hx⟩ : ∃ x, aa[i]? = some x := ⟨_, List.getElem?_eq_getElem (by omega)⟩
    exact ih i x y hx hy (h2 i x u hx hu))

theorem al_call {P : Program} {c : Ctx} {n : Nat} {Qe : Exit → St → Prop} {tm : List (Nat × AV)} {h : Heap} {nx : Nat} {ops : Array Oper} {o : Oper} {rst : List Oper} {fo : Operand} {xs : Array Operand} {ts : Array TypeId}
  (f : FuncId) (first caps : List AV) (l : List (Nat × Nat)) (k : Nat) (al : Bool) (hc : Heap) (ps : List Nat) (args largs : List AV) (Q : AV → Heap → Nat → Prop)
  (hg : o.guard = none) (hd : ∀ j, o.dst = some j → j < n) (ho : o.op = .call { callee := .value fo, args := xs, argTypes := ts })
  (hfo : oev tm fo = .fn (.func f) first caps) (hargs : args = first ++ (xs.toList.map (oev tm) ++ caps))
  (hcall : ∀ (vs : Array Value) (w : World), (callFunc f vs).run P w = .ok (.enter f vs) w)
  (hl : l.all (fun p => p.1 < k) = true) (hl2 : l.all (fun p => p.2 < nx) = true) (hl3 : k ≤ nx)
  (hh : ∀ p ∈ hc, hget h (swp l k nx p.1) = (hget hc p.1).map (Blk.ren (swp l k nx)) ∧ ps.contains (swp l k nx p.1) = true)
  (hi : ((hc.map (fun p => p.1)).all fun b => (hc.map (fun p => p.1)).all fun b' => b == b' || swp l k nx b != swp l k nx b') = true)
  (hlend : Lends al h (swp l k nx) ps args largs)
  (hac : AC P f largs hc k al Q)
  (hk : ∀ r h' nx', Q r h' nx' → AL P c n ops Qe rst (putA o.dst (r.ren (swp l k nx)) (after tm h nx (swp l k nx) ps h' nx'))) : AL P c n ops Qe (o :: rst) ⟨tm, h, nx⟩ := by
 intro ρ S a w hr
 unfold wpList
 rw [if_pos (by simp [Region.wanted, hg])]
 refine .inl ?_
 have hf := hr.oev fo
 rw [hfo] at hf
 generalize hfv : a.eval fo = fv at hf
 cases hf with
 | fn us vs h1 h2 h3 h4 =>
 have hrun : (execOp a.eval o).run P w = .ok (.enter f (us ++ xs.map a.eval ++ vs)) w := by
  unfold execOp
  rw [ho]
  simp only [resolve, hfv, Deferred.ofValue, Sem.run_bind, Sem.run_pure, Result.andThen_ok, invoke]
  exact hcall _ _
 unfold Oper.wp
 rw [hrun, Oper.upon_enter]
 obtain ⟨hsim, hfr, hps, hown⟩ := call_sim hr l k al hc ps hl hh hi
 have hargsVR : ∀ (i : Nat) (x : AV) (u : Value), args[i]? = some x → (us ++ xs.map a.eval ++ vs)[i]? = some u → VR S w ρ x u := by
  intro i x u hx hu
  rw [hargs] at hx
  rw [Array.append_assoc] at hu
  rcases Nat.lt_or_ge i first.length with hlt | hge
  ·rw [List.getElem?_append_left hlt] at hx
   rw [Array.getElem?_append_left (by omega)] at hu
   exact h3 i x u hx hu
  ·rw [List.getElem?_append_right hge] at hx
   rw [Array.getElem?_append_right (by omega), ← h1] at hu
   generalize i - first.length = j at hx hu
   rcases Nat.lt_or_ge j xs.size with hlt | hge
   ·rw [List.getElem?_append_left (by simpa using hlt)] at hx
    rw [Array.getElem?_append_left (by simpa using hlt)] at hu
    rw [List.getElem?_map, Array.getElem?_toList] at hx
    rw [Array.getElem?_map] at hu
    obtain ⟨y, hy, rfl⟩ := Option.map_eq_some_iff.1 hx
    rw [hy] at hu
    obtain rfl := Option.some.inj hu
    exact hr.oev y
   ·rw [List.getElem?_append_right (by simpa using hge)] at hx
    rw [Array.getElem?_append_right (by simpa using hge)] at hu
    simp only [List.length_map, Array.length_toList] at hx
    simp only [Array.size_map] at hu
    exact h4 _ x u hx hu
 have hlen : args.length = (us ++ xs.map a.eval ++ vs).size := by
  rw [hargs]
  simp [h1, h2, Nat.add_assoc]
 have hvrs : VRs (fun b => S b ∨ (al = false ∧ Own ρ (rest h ps) b)) w (fun b => ρ (swp l k nx b)) largs (us ++ xs.map a.eval ++ vs) := by
  refine ⟨hlend.len.symm.trans hlen, fun i y u hy hu => ?_⟩
  have hi' : i < largs.length := (List.getElem?_eq_some_iff.1 hy).1
  obtain ⟨x, hx⟩ : ∃ x, args[i]? = some x := ⟨_, List.getElem?_eq_getElem (by rw [hlend.len]; exact hi')⟩
  exact (hlend.get i x y hx hy).vr hr (hargsVR i x u hx hu)
 refine (hac _ _ w _ hsim hfr hvrs).mono ?_
 rintro e w' ⟨v, r, h', nx', ρ', S', rfl, hQ, hv, hs, hf', hdm, hp⟩
 obtain ⟨ρ2, S2, hr2, hv2, _⟩ := call_rep hr l k al hc ps hl hl2 hl3 hps hown (fun b hb => hb.imp id (fun ⟨x, i, X, q, e1, e2, e3⟩ => ⟨x, by
  rw [hget_rest] at e1
  split at e1
  ·cases e1
  ·obtain ⟨_, f4, _⟩ := blk_of hr e1 e2
   rw [← e3]
   exact f4⟩)) hv hs hf' hdm hp
 exact hk r h' nx' hQ ρ2 S2 _ w' (hr2.putA o.dst hd hv2)

theorem callFunc_enter {P : Program} {f : FuncId} {fn : Func} (hf : P.funcs[f]? = some fn) (hn : (fn.name == "runtime.NumGoroutine") = false) (hb : fn.body.isNone = false) (vs : Array Value) (w : World) :
  (callFunc f vs).run P w = .ok (.enter f vs) w := by
 unfold callFunc
 simp only [Sem.run_bind, run_program, Result.andThen_ok, hf, hn, hb]
 rfl

end Go.Proofs.Ytpggknkhldecaaa.Abs
end
section
namespace Go.Proofs.Ytpggknkhldecaaa.Abs

section
variable {P : Program} {tm : List (Nat × AV)} {h : Heap}

theorem ev_int {c : Ctx} {n nx : Nat} {ρ : Rho} {S : Nat → Prop} {a : Act} {w : World} (hr : Rep c n ⟨tm, h, nx⟩ ρ S a w) {x : Operand} {k : IntKind} {m : Int} (hx : oev tm x = .int k m) : a.eval x = .int k m := by
 have := hr.oev x; rw [hx] at this; exact this.int_inv
theorem ev_bool {c : Ctx} {n nx : Nat} {ρ : Rho} {S : Nat → Prop} {a : Act} {w : World} (hr : Rep c n ⟨tm, h, nx⟩ ρ S a w) {x : Operand} {b : Bool} (hx : oev tm x = .bool b) : a.eval x = .bool b := by
 have := hr.oev x; rw [hx] at this; exact this.bool_inv
theorem ev_str {c : Ctx} {n nx : Nat} {ρ : Rho} {S : Nat → Prop} {a : Act} {w : World} (hr : Rep c n ⟨tm, h, nx⟩ ρ S a w) {x : Operand} {s : ByteArray} (hx : oev tm x = .str s) : a.eval x = .string s := by
 have := hr.oev x; rw [hx] at this; exact this.str_inv
theorem ev_vr {c : Ctx} {n nx : Nat} {ρ : Rho} {S : Nat → Prop} {a : Act} {w : World} (hr : Rep c n ⟨tm, h, nx⟩ ρ S a w) {x : Operand} {v : AV} (hx : oev tm x = v) : VR S w ρ v (a.eval x) := by
 have := hr.oev x; rw [hx] at this; exact this

theorem op_move {x : Operand} {v : AV} (hx : oev tm x = v) : OpP P (.move x) tm h v := fun c n nx ρ S a w hr =>
 ⟨a.eval x, fun o ho => by unfold execOp; rw [ho]; rfl, ev_vr hr hx⟩
theorem op_assign {x : Operand} {v : AV} (hx : oev tm x = v) : OpP P (.assign x) tm h v := fun c n nx ρ S a w hr =>
 ⟨a.eval x, fun o ho => by unfold execOp; rw [ho]; rfl, ev_vr hr hx⟩
theorem op_pickT {q x y : Operand} {v : AV} (hq : oev tm q = .bool true) (hx : oev tm x = v) : OpP P (.pick q x y) tm h v := fun c n nx ρ S a w hr =>
 ⟨a.eval x, fun o ho => by unfold execOp; rw [ho]; simp [ev_bool hr hq, asBool], ev_vr hr hx⟩
theorem op_pickF {q x y : Operand} {v : AV} (hq : oev tm q = .bool false) (hx : oev tm y = v) : OpP P (.pick q x y) tm h v := fun c n nx ρ S a w hr =>
 ⟨a.eval y, fun o ho => by unfold execOp; rw [ho]; simp [ev_bool hr hq, asBool], ev_vr hr hx⟩

theorem op_bin {op : BinOp} {t t' : TypeId} {x y : Operand} {k k' : IntKind} {m m' : Int} {v : AV} {u : Value} (hx : oev tm x = .int k m) (hy : oev tm y = .int k' m')
  (hrun : ∀ w, (binOp op t (.int k m) (.int k' m')).run P w = .ok u w) (hv : ∀ S w ρ, VR S w ρ v u) : OpP P (.binOp op t x y t') tm h v := fun c n nx ρ S a w hr =>
 ⟨u, fun o ho => by unfold execOp; rw [ho]; simp [ev_int hr hx, ev_int hr hy, eqGuard_at_int, hrun], hv S w ρ⟩

section
variable {t t' : TypeId} {x y : Operand} {k : IntKind} {m m' : Int}
theorem op_add (hx : oev tm x = .int k m) (hy : oev tm y = .int k m') : OpP P (.binOp .add t x y t') tm h (.int k (k.wrap (m + m'))) :=
 op_bin hx hy (fun w => by rw [binOp_add]; rfl) (fun _ _ _ => .int)
theorem wrap_i64 {z : Int} (h1 : -9223372036854775808 ≤ z) (h2 : z ≤ 9223372036854775807) : IntKind.i64.wrap z = z := IntWalk.i64_in z (by omega)
theorem op_addi (hx : oev tm x = .int .i64 m) (hy : oev tm y = .int .i64 m') (h1 : -9223372036854775808 ≤ m + m' ∧ m + m' ≤ 9223372036854775807) : OpP P (.binOp .add t x y t') tm h (.int .i64 (m + m')) :=
 op_bin hx hy (fun w => by rw [binOp_add]; simp [Op.intArith, wrap_i64 h1.1 h1.2]) (fun _ _ _ => .int)
theorem op_subi (hx : oev tm x = .int .i64 m) (hy : oev tm y = .int .i64 m') (h1 : -9223372036854775808 ≤ m - m' ∧ m - m' ≤ 9223372036854775807) : OpP P (.binOp .sub t x y t') tm h (.int .i64 (m - m')) :=
 op_bin hx hy (fun w => by rw [binOp_sub]; simp [Op.intArith, wrap_i64 h1.1 h1.2]) (fun _ _ _ => .int)
theorem op_muli (hx : oev tm x = .int .i64 m) (hy : oev tm y = .int .i64 m') (h1 : -9223372036854775808 ≤ m * m' ∧ m * m' ≤ 9223372036854775807) : OpP P (.binOp .mul t x y t') tm h (.int .i64 (m * m')) :=
 op_bin hx hy (fun w => by rw [binOp_mul]; simp [Op.intArith, wrap_i64 h1.1 h1.2]) (fun _ _ _ => .int)
theorem op_quoi (hx : oev tm x = .int .i64 m) (hy : oev tm y = .int .i64 m') (h0 : 0 ≤ m ∧ m ≤ 9223372036854775807) (h1 : 0 < m') : OpP P (.binOp .quo t x y t') tm h (.int .i64 (m / m')) := by
 have e : m.tdiv m' = m / m' := Int.tdiv_eq_ediv_of_nonneg h0.1
 have b : 0 ≤ m / m' := Int.ediv_nonneg h0.1 (by omega)
 have b' : m / m' ≤ m := Int.ediv_le_self _ h0.1
 exact op_bin hx hy (fun w => by rw [binOp_quo]; simp [Op.intDiv, show m' ≠ 0 by omega, e, wrap_i64 (show -9223372036854775808 ≤ m / m' by omega) (show m / m' ≤ 9223372036854775807 by omega)]) (fun _ _ _ => .int)
theorem op_remi (hx : oev tm x = .int k m) (hy : oev tm y = .int k m') (h0 : 0 ≤ m) (h1 : 0 < m') : OpP P (.binOp .rem t x y t') tm h (.int k (m % m')) := by
 have e : m.tmod m' = m % m' := Int.tmod_eq_emod_of_nonneg h0
 exact op_bin hx hy (fun w => by rw [binOp_rem]; simp [Op.intDiv, show m' ≠ 0 by omega, e]) (fun _ _ _ => .int)
theorem op_band (hx : oev tm x = .int k m) (hy : oev tm y = .int k m') : OpP P (.binOp .and t x y t') tm h (.int k (bits .and k m m')) :=
 op_bin hx hy (fun w => by rw [binOp_and]; rfl) (fun _ _ _ => .int)
theorem op_bor (hx : oev tm x = .int k m) (hy : oev tm y = .int k m') : OpP P (.binOp .or t x y t') tm h (.int k (bits .or k m m')) :=
 op_bin hx hy (fun w => by rw [binOp_or]; rfl) (fun _ _ _ => .int)
theorem op_shr {k' : IntKind} (hx : oev tm x = .int k m) (hy : oev tm y = .int k' m') (h0 : 0 ≤ m' ∧ m' ≤ k.bits) : OpP P (.binOp .shr t x y t') tm h (.int k (m / 2 ^ m'.toNat)) :=
 op_bin hx hy (fun w => by rw [binOp_shr, shift_shr k k' m m' h0.1 h0.2]; rfl) (fun _ _ _ => .int)
theorem op_shl {k' : IntKind} (hx : oev tm x = .int k m) (hy : oev tm y = .int k' m') (h0 : 0 ≤ m' ∧ m' ≤ k.bits) : OpP P (.binOp .shl t x y t') tm h (.int k (k.wrap (m * 2 ^ m'.toNat))) :=
 op_bin hx hy (fun w => by rw [binOp_shl, shift_shl k k' m m' h0.1 h0.2]; rfl) (fun _ _ _ => .int)
theorem op_eq (hx : oev tm x = .int k m) (hy : oev tm y = .int k m') : OpP P (.binOp .eql t x y t') tm h (.bool (decide (m = m'))) :=
 op_bin hx hy (fun w => by rw [binOp_eql]; rfl) (fun _ _ _ => by rw [show decide (m = m') = (m == m') from rfl]; exact .bool)
theorem op_ne (hx : oev tm x = .int k m) (hy : oev tm y = .int k m') : OpP P (.binOp .neq t x y t') tm h (.bool (decide (m ≠ m'))) :=
 op_bin hx hy (fun w => by rw [binOp_neq]; rfl) (fun _ _ _ => by rw [show decide (m ≠ m') = (m != m') from by by_cases e : m = m' <;> simp [e]]; exact .bool)
theorem op_lt (hx : oev tm x = .int k m) (hy : oev tm y = .int k m') : OpP P (.binOp .lss t x y t') tm h (.bool (decide (m < m'))) :=
 op_bin hx hy (fun w => by rw [binOp_lss]; rfl) (fun _ _ _ => .bool)
theorem op_le (hx : oev tm x = .int k m) (hy : oev tm y = .int k m') : OpP P (.binOp .leq t x y t') tm h (.bool (decide (m ≤ m'))) :=
 op_bin hx hy (fun w => by rw [binOp_leq]; rfl) (fun _ _ _ => .bool)
theorem op_gt (hx : oev tm x = .int k m) (hy : oev tm y = .int k m') : OpP P (.binOp .gtr t x y t') tm h (.bool (decide (m > m'))) :=
 op_bin hx hy (fun w => by rw [binOp_gtr]; rfl) (fun _ _ _ => .bool)
theorem op_ge (hx : oev tm x = .int k m) (hy : oev tm y = .int k m') : OpP P (.binOp .geq t x y t') tm h (.bool (decide (m ≥ m'))) :=
 op_bin hx hy (fun w => by rw [binOp_geq]; rfl) (fun _ _ _ => .bool)
end

theorem OpP.conv {op : Op} {v v' : AV} (h1 : OpP P op tm h v) (e : v = v') : OpP P op tm h v' := e ▸ h1
theorem yes {p : Prop} [Decidable p] (hp : p) : AV.bool (decide p) = .bool true := by rw [decide_eq_true hp]
theorem no {p : Prop} [Decidable p] (hp : ¬ p) : AV.bool (decide p) = .bool false := by rw [decide_eq_false hp]

theorem op_not {t : TypeId} {x : Operand} {b : Bool} (hx : oev tm x = .bool b) : OpP P (.unOp .not t x) tm h (.bool (!b)) := fun c n nx ρ S a w hr =>
 ⟨.bool (!b), fun o ho => by unfold execOp; rw [ho]; simp [ev_bool hr hx, Op.unary], .bool⟩

theorem op_eqb {t t' : TypeId} {x y : Operand} {b b' : Bool} (hu : P.underlying t = some .bool) (hx : oev tm x = .bool b) (hy : oev tm y = .bool b') : OpP P (.binOp .eql t x y t') tm h (.bool (b == b')) := fun c n nx ρ S a w hr =>
 ⟨.bool (b == b'), fun o ho => by unfold execOp; rw [ho]; simp [ev_bool hr hx, ev_bool hr hy, eqGuard_at_bool, run_eql_bool w t b b' hu], .bool⟩
theorem op_neb {t t' : TypeId} {x y : Operand} {b b' : Bool} (hu : P.underlying t = some .bool) (hx : oev tm x = .bool b) (hy : oev tm y = .bool b') : OpP P (.binOp .neq t x y t') tm h (.bool (b != b')) := fun c n nx ρ S a w hr =>
 ⟨.bool (b != b'), fun o ho => by unfold execOp; rw [ho]; simp [ev_bool hr hx, ev_bool hr hy, eqGuard_at_bool, run_neq_bool w t b b' hu, bne], .bool⟩

abbrev sb (l : List UInt8) : AV := .str ⟨l.toArray⟩

theorem toList_go (l : List UInt8) : ∀ (k : Nat) (i : Nat) (r : List UInt8), l.length - i = k → i ≤ l.length → ByteArray.toList.loop ⟨l.toArray⟩ i r = r.reverse ++ l.drop i := by
 intro k
 induction k with
 | zero =>
  intro i r hk hi
  have : i = l.length := by omega
  subst this
  rw [ByteArray.toList.loop, if_neg (by simp [ByteArray.size])]
  simp
 | succ k ih =>
  intro i r hk hi
  have hlt : i < l.length := by omega
  rw [ByteArray.toList.loop, if_pos (by simpa [ByteArray.size] using hlt), ih (i + 1) _ (by omega) (by omega)]
  have hg : (ByteArray.mk l.toArray).get! i = l[i] := by
   show l.toArray[i]! = l[i]
   simp [hlt]
  rw [hg, List.reverse_cons, List.append_assoc, List.singleton_append, List.getElem_cons_drop]

theorem toList_mk (l : List UInt8) : (ByteArray.mk l.toArray).toList = l := by
 unfold ByteArray.toList
 rw [toList_go l _ 0 [] rfl (Nat.zero_le _)]
 rfl

def bless : List UInt8 → List UInt8 → Bool := Op.bytesLess

section
variable {t t' : TypeId} {x y : Operand} {l l' : List UInt8}
theorem op_str {op : BinOp} {v : AV} {u : Value} (hx : oev tm x = sb l) (hy : oev tm y = sb l') (hrun : ∀ w, (Op.stringOp op ⟨l.toArray⟩ ⟨l'.toArray⟩).run P w = .ok u w) (hb : ∀ z z' : ByteArray, binOp op t (.string z) (.string z') = Op.stringOp op z z')
  (hv : ∀ S w ρ, VR S w ρ v u) : OpP P (.binOp op t x y t') tm h v := fun c n nx ρ S a w hr =>
 ⟨u, fun o ho => by unfold execOp; rw [ho]; simp [ev_str hr hx, ev_str hr hy, eqGuard_at_string, hb, hrun], hv S w ρ⟩
theorem op_eqs (hx : oev tm x = sb l) (hy : oev tm y = sb l') : OpP P (.binOp .eql t x y t') tm h (.bool (decide (l = l'))) :=
 op_str hx hy (fun w => by simp only [Op.stringOp, toList_mk]; rfl) (fun _ _ => rfl) (fun _ _ _ => by rw [show decide (l = l') = (l == l') from by by_cases e : l = l' <;> simp [e]]; exact .bool)
theorem op_nes (hx : oev tm x = sb l) (hy : oev tm y = sb l') : OpP P (.binOp .neq t x y t') tm h (.bool (decide (l ≠ l'))) :=
 op_str hx hy (fun w => by simp only [Op.stringOp, toList_mk]; rfl) (fun _ _ => rfl) (fun _ _ _ => by rw [show decide (l ≠ l') = !(l == l') from by by_cases e : l = l' <;> simp [e]]; exact .bool)
theorem op_les (hx : oev tm x = sb l) (hy : oev tm y = sb l') : OpP P (.binOp .leq t x y t') tm h (.bool (bless l l' || l == l')) :=
 op_str hx hy (fun w => by simp only [Op.stringOp, toList_mk]; rfl) (fun _ _ => rfl) (fun _ _ _ => .bool)
theorem op_ges (hx : oev tm x = sb l) (hy : oev tm y = sb l') : OpP P (.binOp .geq t x y t') tm h (.bool (!bless l l')) :=
 op_str hx hy (fun w => by simp only [Op.stringOp, toList_mk]; rfl) (fun _ _ => rfl) (fun _ _ _ => .bool)
end

theorem op_conv {s d : TypeId} {x : Operand} {k k' : IntKind} {m : Int} (hs : (P.underlying s).isSome = true) (hd : P.underlying d = some (.int k')) (hx : oev tm x = .int k m) : OpP P (.convert s d x) tm h (.int k' (k'.wrap m)) := fun c n nx ρ S a w hr =>
 ⟨.int k' (k'.wrap m), fun o ho => by
  obtain ⟨q, hq⟩ := Option.isSome_iff_exists.1 hs
  unfold execOp; rw [ho]; simp [ev_int hr hx, convert, run_underlying hq, run_underlying hd, Conv.intToInt], .int⟩
theorem op_convi {s d : TypeId} {x : Operand} {k : IntKind} {m : Int} (hs : (P.underlying s).isSome = true) (hd : P.underlying d = some (.int .i64)) (hx : oev tm x = .int k m) (hm : -9223372036854775808 ≤ m ∧ m ≤ 9223372036854775807) : OpP P (.convert s d x) tm h (.int .i64 m) := by
 have := op_conv (tm := tm) (h := h) hs hd hx
 rw [wrap_i64 hm.1 hm.2] at this
 exact this

theorem elem_of {t e : TypeId} (hu : P.underlying t = some (.slice e)) : P.underlying t = some (.slice (P.elem t)) := by
 have : P.elem t = e := by simp [Program.elem, hu]
 rw [this]; exact hu
theorem op_len {x : Operand} {t : TypeId} {sz : Nat} {xs : List AV} {el : TypeId} (hu : P.underlying t = some (.slice el)) (hx : oev tm x = .sl sz xs) : OpP P (.call { callee := .builtin .len, args := #[x], argTypes := #[t] }) tm h (.int .i64 xs.length) := fun c n nx ρ S a w hr =>
 ⟨.int .i64 xs.length, fun o ho => by
  have hv := ev_vr hr hx
  generalize he : a.eval x = v at hv
  cases hv with
  | sl0 => unfold execOp; rw [ho]; simp [resolve, invoke, builtin, he, run_len_slice _ _ _ _ _ _ (elem_of hu), goInt]
  | sl vs h1 h2 h3 h4 h5 h6 => unfold execOp; rw [ho]; simp [resolve, invoke, builtin, he, run_len_slice _ _ _ _ _ _ (elem_of hu), goInt], .int⟩
theorem op_leno {x : Operand} {t : TypeId} {b st len : Nat} {el : TypeId} (hu : P.underlying t = some (.slice el)) (hx : oev tm x = .own b st len) : OpP P (.call { callee := .builtin .len, args := #[x], argTypes := #[t] }) tm h (.int .i64 len) := fun c n nx ρ S a w hr =>
 ⟨.int .i64 len, fun o ho => by
  have hv := ev_vr hr hx
  generalize he : a.eval x = v at hv
  cases hv with
  | own h1 h2 h3 => unfold execOp; rw [ho]; simp [resolve, invoke, builtin, he, run_len_slice _ _ _ _ _ _ (elem_of hu), goInt]
  | own0 => unfold execOp; rw [ho]; simp [resolve, invoke, builtin, he, run_len_slice _ _ _ _ _ _ (elem_of hu), goInt], .int⟩
theorem op_lenn {x : Operand} {t : TypeId} {el : TypeId} (hu : P.underlying t = some (.slice el)) (hx : oev tm x = .nils) : OpP P (.call { callee := .builtin .len, args := #[x], argTypes := #[t] }) tm h (.int .i64 0) := fun c n nx ρ S a w hr =>
 ⟨.int .i64 0, fun o ho => by
  have hv := ev_vr hr hx
  generalize he : a.eval x = v at hv
  cases hv with
  | nils => unfold execOp; rw [ho]; simp [resolve, invoke, builtin, he, run_len_slice _ _ _ _ _ _ (elem_of hu), goInt], .int⟩
theorem op_lens {x : Operand} {t : TypeId} {l : List UInt8} (hu : P.underlying t = some .string) (hx : oev tm x = sb l) : OpP P (.call { callee := .builtin .len, args := #[x], argTypes := #[t] }) tm h (.int .i64 l.length) := fun c n nx ρ S a w hr =>
 ⟨.int .i64 l.length, fun o ho => by
  have e : ((ByteArray.mk l.toArray).size : Int) = l.length := by show ((l.toArray.size : Nat) : Int) = _; rw [List.size_toArray]
  unfold execOp; rw [ho]; simp only [resolve, invoke, builtin, Sem.run_bind, Sem.run_pure, Result.andThen_ok, List.map_toArray, List.map_cons, List.map_nil, ev_str hr hx]
  simp only [Builtin.len_, Sem.run_bind, List.getElem?_toArray, List.getElem?_cons_zero, run_underlying hu, Result.andThen_ok, Sem.run_pure, goInt, e], .int⟩
theorem op_min {x y : Operand} {ts : Array TypeId} {k : IntKind} {m m' : Int} (hx : oev tm x = .int k m) (hy : oev tm y = .int k m') : OpP P (.call { callee := .builtin .min, args := #[x, y], argTypes := ts }) tm h (.int k (min m m')) := fun c n nx ρ S a w hr =>
 ⟨.int k (min m m'), fun o ho => by
  have e : (if m' < m then m' else m) = min m m' := by simp only [Int.min_def]; split <;> (try split) <;> omega
  unfold execOp; rw [ho]; simp only [resolve, invoke, builtin, Sem.run_bind, Sem.run_pure, Result.andThen_ok, List.map_toArray, List.map_cons, List.map_nil, ev_int hr hx, ev_int hr hy, run_min_int2, e], .int⟩
theorem op_max {x y : Operand} {ts : Array TypeId} {k : IntKind} {m m' : Int} (hx : oev tm x = .int k m) (hy : oev tm y = .int k m') : OpP P (.call { callee := .builtin .max, args := #[x, y], argTypes := ts }) tm h (.int k (max m m')) := fun c n nx ρ S a w hr =>
 ⟨.int k (max m m'), fun o ho => by
  have e : (if m' > m then m' else m) = max m m' := by simp only [Int.max_def]; split <;> (try split) <;> omega
  unfold execOp; rw [ho]; simp only [resolve, invoke, builtin, Sem.run_bind, Sem.run_pure, Result.andThen_ok, List.map_toArray, List.map_cons, List.map_nil, ev_int hr hx, ev_int hr hy, run_max_int2, e], .int⟩

theorem op_extract {x : Operand} {i : Nat} {vs : List AV} {v : AV} (hx : oev tm x = .tup vs) (hv : vs[i]? = some v) : OpP P (.extract x i) tm h v := fun c n nx ρ S a w hr => by
 have hh := ev_vr hr hx
 generalize he : a.eval x = u at hh
 cases hh with
 | tup us h1 h2 =>
 have hi : i < us.size := by rw [← h1]; exact (List.getElem?_eq_some_iff.1 hv).1
 exact ⟨us[i], fun o ho => by unfold execOp; rw [ho]; simp [Instr.extract, he, hi], h2 i v _ hv (by simp [hi])⟩

theorem op_makeFunc {fn : Fn} {fs cs : Array Operand} {xs ys : List AV} (h1 : fs.toList.map (oev tm) = xs) (h2 : cs.toList.map (oev tm) = ys) : OpP P (.makeFunc fn fs cs) tm h (.fn fn xs ys) := fun c n nx ρ S a w hr =>
 ⟨.func fn (fs.map a.eval) (cs.map a.eval), fun o ho => by unfold execOp; rw [ho]; simp [Instr.makeFunc], .fn _ _ (by rw [← h1]; simp) (by rw [← h2]; simp) (fun i x u hx hu => by
  rw [← h1, List.getElem?_map, Array.getElem?_toList] at hx
  rw [Array.getElem?_map] at hu
  obtain ⟨y, hy, rfl⟩ := Option.map_eq_some_iff.1 hx
  rw [hy] at hu
  obtain rfl := Option.some.inj hu
  exact hr.oev y) (fun i x u hx hu => by
  rw [← h2, List.getElem?_map, Array.getElem?_toList] at hx
  rw [Array.getElem?_map] at hu
  obtain ⟨y, hy, rfl⟩ := Option.map_eq_some_iff.1 hx
  rw [hy] at hu
  obtain rfl := Option.some.inj hu
  exact hr.oev y)⟩

theorem op_index {x y : Operand} {t : TypeId} {l : List UInt8} {k : IntKind} {m : Int} {b : UInt8} (hu : P.underlying t = some .string) (hx : oev tm x = sb l) (hy : oev tm y = .int k m) (h0 : 0 ≤ m) (hb : l[m.toNat]? = some b) : OpP P (.index t x y) tm h (.int .u8 b.toNat) := fun c n nx ρ S a w hr =>
 ⟨.int .u8 b.toNat, fun o ho => by
  have hi : m.toNat < l.length := (List.getElem?_eq_some_iff.1 hb).1
  have hg : (ByteArray.mk l.toArray)[m.toNat]? = some b := by
   have : m.toNat < (ByteArray.mk l.toArray).size := by simpa [ByteArray.size] using hi
   rw [getElem?_pos (ByteArray.mk l.toArray) m.toNat this]
   rw [List.getElem?_eq_getElem hi] at hb
   rw [← hb]
   rfl
  unfold execOp; rw [ho]; simp [ev_str hr hx, ev_int hr hy, Instr.index, asIntOf, run_underlying hu, h0, hg], .int⟩

end
end Go.Proofs.Ytpggknkhldecaaa.Abs
end
section
namespace Go.Proofs.Ytpggknkhldecaaa.Abs

section
variable {P : Program} {tm : List (Nat × AV)} {h : Heap}

theorem run_sizeOf {t : TypeId} {sz : Nat} (hi : (P.info? t).map (·.size) = some sz) (w : World) : (sizeOf t).run P w = .ok sz w := by
 obtain ⟨i, h1, h2⟩ := Option.map_eq_some_iff.1 hi
 simp [sizeOf, typeInfo, h1, h2]

def isAggD : TypeDesc → Bool
 | .struct _ => true
 | .array _ _ => true
 | _ => false

theorem run_isAgg {t : TypeId} {d : TypeDesc} (hu : P.underlying t = some d) (w : World) : (isAgg t).run P w = .ok (isAggD d) w := by
 simp only [isAgg, Sem.run_bind, run_underlying hu, Result.andThen_ok]
 cases d <;> rfl

def NotNil : AV → Prop
 | .ptr _ _ _ => True
 | .lp _ => True
 | .fn (.func _) _ _ => True
 | _ => False
def NilS (b : Bool) : AV → Prop
 | .sl _ xs => xs ≠ [] ∧ b = false
 | .own _ _ len => 0 < len ∧ b = false
 | .ownz _ _ => b = false
 | .nils => b = true
 | _ => False

theorem op_nilCheck {x : Operand} {v : AV} (hx : oev tm x = v) (hv : NotNil v) : OpP P (.nilCheck x) tm h v := fun c n nx ρ S a w hr => by
 have hh := ev_vr hr hx
 generalize he : a.eval x = u at hh
 cases hh with
 | ptr q => exact ⟨_, fun o ho => by unfold execOp; rw [ho]; simp [he], .ptr q⟩
 | lp vs q1 q2 q3 q4 => exact ⟨_, fun o ho => by unfold execOp; rw [ho]; simp [he], .lp vs q1 q2 q3 q4⟩
 | @fn _ f _ _ us vs q1 q2 q3 q4 =>
  cases f with
  | func f => exact ⟨_, fun o ho => by unfold execOp; rw [ho]; simp [he], .fn us vs q1 q2 q3 q4⟩
  | _ => exact hv.elim
 | _ => exact hv.elim

theorem op_eqn {t t' e : TypeId} {x : Operand} {v : AV} (hu : P.underlying t = some (.slice e)) (hx : oev tm x = v) {b : Bool} (hb : NilS b v) :
  OpP P (.binOp .eql t x (.const (.slice none 0 0)) t') tm h (.bool b) := fun c n nx ρ S a w hr => by
 have hh := ev_vr hr hx
 generalize he : a.eval x = u at hh
 have key : ∀ (A : Option Addr) (m q : Nat), a.eval x = .slice A m q → A.isNone = b → ∃ u, (∀ o : Oper, o.op = .binOp .eql t x (.const (.slice none 0 0)) t' → (execOp a.eval o).run P w = .ok (.value u) w) ∧ VR S w ρ (.bool b) u := fun A m q e1 e2 =>
  ⟨.bool b, fun o ho => by unfold execOp; rw [ho]; simp [e1, eqGuard_at_slice, show a.eval (.const (.slice none 0 0)) = .slice none 0 0 from rfl, Lib.run_eql_slice_nil w t e A m q 0 0 hu, e2], .bool⟩
 cases hh with
 | sl0 => exact absurd rfl hb.1
 | sl vs h1 h2 h3 h4 h5 h6 => exact key _ _ _ he (by simpa using hb.2.symm)
 | own h1 h2 h3 => exact key _ _ _ he (by simpa using hb.2.symm)
 | ownz h1 h2 => exact key _ _ _ he (by simpa using (show _ = false from hb).symm)
 | own0 => exact absurd hb.1 (by omega)
 | nils => exact key _ _ _ he (by simpa using hb.symm)
 | _ => exact hb.elim
theorem run_fieldAt {s : TypeId} {fs : Array Field} {k : Nat} {f : Field} {sz : Nat} (hu : P.underlying s = some (.struct fs)) (hf : fs[k]? = some f) (hz : (P.info? f.type).map (·.size) = some sz) (hsz : sz ≠ 0) (b o : Nat) (w : World) :
  (Instr.fieldAt s (.pointer (some ⟨b, o, none⟩)) k).run P w = .ok (.pointer (some ⟨b, o + f.offset, none⟩)) w := by
 simp [Instr.fieldAt, run_underlying hu, hf, Instr.sureAddr, fieldPlace, run_sizeOf hz, hsz, Addr.add_lit]

theorem op_fieldAddr {s : TypeId} {x : Operand} {k : Nat} {fs : Array Field} {f : Field} {sz b i o : Nat} (hu : P.underlying s = some (.struct fs)) (hf : fs[k]? = some f) (hz : (P.info? f.type).map (·.size) = some sz) (hsz : sz ≠ 0) (hx : oev tm x = .ptr b i o) :
  OpP P (.fieldAddr s x k) tm h (.ptr b i (o + f.offset)) := fun c n nx ρ S a w hr => by
 have hh := ev_vr hr hx
 generalize he : a.eval x = u at hh
 cases hh with
 | @ptr _ _ _ _ r q =>
  refine ⟨.pointer (some ⟨r.blk, i * r.sz + o + f.offset, none⟩), fun oo ho => by unfold execOp; rw [ho]; simp only [he, Sem.run_bind, run_fieldAt hu hf hz hsz, Result.andThen_ok, Sem.run_pure], ?_⟩
  rw [Nat.add_assoc]
  exact .ptr q
theorem op_fieldAddrL {s : TypeId} {x : Operand} {k : Nat} {fs : Array Field} {f : Field} {sz : Nat} {cs : List AV} (hu : P.underlying s = some (.struct fs)) (hf : fs[k]? = some f) (hz : (P.info? f.type).map (·.size) = some sz) (hsz : sz ≠ 0) (hx : oev tm x = .lp cs) :
  OpP P (.fieldAddr s x k) tm h (.lp (cs.drop f.offset)) := fun c n nx ρ S a w hr => by
 have hh := ev_vr hr hx
 generalize he : a.eval x = u at hh
 cases hh with
 | @lp _ _ blk off vs q1 q2 q3 q4 =>
  refine ⟨.pointer (some ⟨blk, off + f.offset, none⟩), fun oo ho => by unfold execOp; rw [ho]; simp only [he, Sem.run_bind, run_fieldAt hu hf hz hsz, Result.andThen_ok, Sem.run_pure], ?_⟩
  refine .lp (vs.drop f.offset) q1 (by simp [q2]) (fun i u hu => ?_) (fun i x u hx hu => ?_)
  ·rw [List.getElem?_drop] at hu
   have := q3 _ u hu
   rwa [Nat.add_assoc]
  ·rw [List.getElem?_drop] at hx hu
   exact q4 _ x u hx hu

theorem run_indexAt {t e : TypeId} {sz : Nat} (hu : P.underlying t = some (.slice e)) (hz : (P.info? e).map (·.size) = some sz) (b o len cap : Nat) (k : IntKind) (i : Int) (h0 : 0 ≤ i) (h1 : i < len) (w : World) :
  (Instr.indexAt t (.slice (some ⟨b, o, none⟩) len cap) (.int k i)).run P w = .ok (.pointer (some ⟨b, o + i.toNat * sz, none⟩)) w := by
 simp [Instr.indexAt, run_underlying hu, asIntOf, h0, h1, run_sizeOf hz, Addr.add_lit]

theorem op_indexAddr {t e : TypeId} {x y : Operand} {sz b st len : Nat} {xs : List AV} {k : IntKind} {i : Int} (hu : P.underlying t = some (.slice e)) (hz : (P.info? e).map (·.size) = some sz) (hx : oev tm x = .own b st len) (hb : hget h b = some (.cells sz xs)) (hy : oev tm y = .int k i)
  (h0 : 0 ≤ i) (h1 : i < len) : OpP P (.indexAddr t x y) tm h (.ptr b (st + i.toNat) 0) := fun c n nx ρ S a w hr => by
 have hh := ev_vr hr hx
 have hi := ev_int hr hy
 generalize he : a.eval x = u at hh
 cases hh with
 | @own _ _ _ _ r cp q1 q2 q3 =>
  obtain ⟨_, _, e2⟩ := blk_of hr hb q1
  have hs : r.sz = sz := e2.1
  refine ⟨.pointer (some ⟨r.blk, st * r.sz + i.toNat * sz, none⟩), fun oo ho => by unfold execOp; rw [ho]; simp only [he, hi, Sem.run_bind, run_indexAt hu hz _ _ _ _ _ _ h0 h1, Result.andThen_ok, Sem.run_pure], ?_⟩
  have : (st * r.sz + i.toNat * sz) = (st + i.toNat) * r.sz + 0 := by rw [hs, Nat.add_mul]; rfl
  rw [this]
  exact .ptr q1
 | own0 => omega

theorem op_indexAddrL {t e : TypeId} {x y : Operand} {sz : Nat} {xs : List AV} {k : IntKind} {i : Int} {v : AV} (hu : P.underlying t = some (.slice e)) (hz : (P.info? e).map (·.size) = some sz) (hx : oev tm x = .sl sz xs) (hy : oev tm y = .int k i)
  (h0 : 0 ≤ i) (hv : xs[i.toNat]? = some v) : OpP P (.indexAddr t x y) tm h (.lp v.cells) := fun c n nx ρ S a w hr => by
 have hh := ev_vr hr hx
 have hi := ev_int hr hy
 have hlt : i.toNat < xs.length := (List.getElem?_eq_some_iff.1 hv).1
 generalize he : a.eval x = u at hh
 cases hh with
 | sl0 => simp at hv
 | @sl _ _ _ blk off cp vs q1 q2 q3 q4 q5 q6 =>
  refine ⟨.pointer (some ⟨blk, off + i.toNat * sz, none⟩), fun oo ho => by unfold execOp; rw [ho]; simp only [he, hi, Sem.run_bind, run_indexAt hu hz _ _ _ _ _ _ h0 (show i < (xs.length : Int) by omega), Result.andThen_ok, Sem.run_pure], ?_⟩
  have hvl : v.cells.length = sz := q3 v (List.mem_of_getElem? hv)
  have hfl := flat_len q3
  have hmul : (i.toNat + 1) * sz ≤ xs.length * sz := Nat.mul_le_mul_right _ hlt
  rw [Nat.add_mul, Nat.one_mul] at hmul
  have hpart : ∀ j, j < sz → v.cells[j]? = (flat xs)[i.toNat * sz + j]? := fun j hj => by
   have := flat_get q3 i.toNat 1 j (by omega) (by omega)
   rw [← this]
   have e1 : (xs.drop i.toNat).take 1 = [v] := by
    rw [List.getElem?_eq_some_iff] at hv
    obtain ⟨_, hv⟩ := hv
    rw [List.drop_eq_getElem_cons hlt, hv, List.take_succ_cons, List.take_zero]
   rw [e1]
   simp [flat]
  refine .lp ((vs.drop (i.toNat * sz)).take sz) q1 (by rw [List.length_take, List.length_drop, ← q2, hfl, hvl]; omega) (fun j u hu => ?_) (fun j x u hx hu => ?_)
  ·have hj : j < sz := by
    rcases Nat.lt_or_ge j sz with hh | hh
    ·exact hh
    ·rw [List.getElem?_take, if_neg (by omega)] at hu; cases hu
   rw [List.getElem?_take_of_lt hj, List.getElem?_drop] at hu
   have := q5 _ u hu
   rwa [Nat.add_assoc]
  ·have hj : j < sz := by
    rcases Nat.lt_or_ge j sz with hh | hh
    ·exact hh
    ·rw [List.getElem?_take, if_neg (by omega)] at hu; cases hu
   rw [List.getElem?_take_of_lt hj, List.getElem?_drop] at hu
   rw [hpart j hj] at hx
   exact q6 _ x u hx hu

theorem own_cells {c : Ctx} {n nx : Nat} {ρ : Rho} {S : Nat → Prop} {a : Act} {w : World} (hr : Rep c n ⟨tm, h, nx⟩ ρ S a w) {b : Nat} {sz : Nat} {xs : List AV} (hb : hget h b = some (.cells sz xs)) {i : Nat} {e : AV} (he : xs[i]? = some e) :
  ∃ r cur el, ρ b = some r ∧ r.sz = sz ∧ e.cells.length = sz ∧ w.heap[r.blk]? = some (.cells cur el (0, 0)) ∧ cur.size = r.cap * sz ∧ xs.length ≤ r.cap ∧ (i * sz + sz ≤ cur.size) ∧ (∀ (j : Nat) (u : Value), cur[j]? = some u → u.oneCell' = true) ∧
   ∀ (j : Nat), j < sz → ∃ x u, e.cells[j]? = some x ∧ cur[i * sz + j]? = some u ∧ VR S w ρ x u := by
 rcases hr.sim.blk b _ hb with ⟨r, h1, ⟨h2, h3, h4, h5, cur, el, h6, h7, h8, h9⟩, _, _⟩ | ⟨_, sz', hv⟩
 case inr =>
  simp only [Blk.cells.injEq] at hv
  rw [hv.2] at he
  simp at he
 have hi : i < xs.length := (List.getElem?_eq_some_iff.1 he).1
 have hel : e.cells.length = sz := h3 e (List.mem_of_getElem? he)
 have hm : (i + 1) * sz ≤ cur.size := by rw [h7]; exact Nat.mul_le_mul_right _ (by omega)
 rw [Nat.add_mul, Nat.one_mul] at hm
 refine ⟨r, cur, el, h1, h2, hel, h6, h7, h4, hm, h8, fun j hj => ?_⟩
 have hj2 : i * sz + j < cur.size := by omega
 have e1 : e.cells[j]? = some (e.cells[j]'(by omega)) := List.getElem?_eq_getElem _
 have e2 : cur[i * sz + j]? = some cur[i * sz + j] := by simp [hj2]
 refine ⟨_, _, e1, e2, h9 (i * sz + j) _ _ ?_ e2⟩
 have := flat_get h3 i 1 j (by omega) (by omega)
 rw [← this, ← e1]
 have e3 : (xs.drop i).take 1 = [e] := by
  rw [List.getElem?_eq_some_iff] at he
  obtain ⟨_, he⟩ := he
  rw [List.drop_eq_getElem_cons hi, he, List.take_succ_cons, List.take_zero]
 rw [e3]
 simp [flat]

theorem run_loadVar_one {t : TypeId} {d : TypeDesc} (hu : P.underlying t = some d) (hd : isAggD d = false) {b o : Nat} {u : Value} {w : World} (hc : w.cell? ⟨b, o, none⟩ = some u) : (loadVar t ⟨b, o, none⟩).run P w = .ok u w := by
 simp only [loadVar, Sem.run_bind, run_isAgg hu, Result.andThen_ok, hd]
 simp [hc]

theorem run_loadVar_agg {t : TypeId} {d : TypeDesc} {m : Nat} (hu : P.underlying t = some d) (hd : isAggD d = true) (hz : (P.info? t).map (·.size) = some m) {b o : Nat} {us : List Value} {w : World} (hl : us.length = m) (hc : ∀ (j : Nat) (u : Value), us[j]? = some u → w.cell? ⟨b, o + j, none⟩ = some u) :
  (loadVar t ⟨b, o, none⟩).run P w = .ok (.agg us.toArray) w := by
 simp only [loadVar, Sem.run_bind, run_isAgg hu, Result.andThen_ok, hd]
 have := run_loadCells_list (P := P) w ⟨b, o, none⟩ us (fun j u hu => by rw [Addr.add_lit]; exact hc j u hu)
 rw [hl] at this
 simp [run_sizeOf hz, this]

def part (l : List AV) : Nat → Nat → Option (List AV)
 | 0, 0 => some []
 | 0, m + 1 => match l with
  | [] => none
  | x :: t => match part t 0 m with
   | some r => some (x :: r)
   | none => none
 | o + 1, m => match l with
  | [] => none
  | _ :: t => part t o m

theorem part_spec : ∀ (l : List AV) (o m : Nat) (cs : List AV), part l o m = some cs → cs.length = m ∧ o + m ≤ l.length ∧ ∀ j, j < m → cs[j]? = l[o + j]? := by
 intro l
 induction l with
 | nil =>
  intro o m cs hp
  cases o with
  | zero =>
   cases m with
   | zero => simp [part] at hp; subst hp; exact ⟨rfl, Nat.le_refl _, fun j hj => by omega⟩
   | succ m => simp [part] at hp
  | succ o => simp [part] at hp
 | cons x t ih =>
  intro o m cs hp
  cases o with
  | zero =>
   cases m with
   | zero => simp [part] at hp; subst hp; exact ⟨rfl, Nat.zero_le _, fun j hj => by omega⟩
   | succ m =>
    simp only [part] at hp
    cases hq : part t 0 m with
    | none => rw [hq] at hp; cases hp
    | some r =>
     rw [hq] at hp
     obtain rfl := Option.some.inj hp
     obtain ⟨h1, h2, h3⟩ := ih 0 m r hq
     refine ⟨by simp [h1], by simp; omega, fun j hj => ?_⟩
     cases j with
     | zero => simp
     | succ j =>
      have := h3 j (by omega)
      rw [Nat.zero_add] at this
      rw [List.getElem?_cons_succ, this, Nat.zero_add, List.getElem?_cons_succ]
  | succ o =>
   simp only [part] at hp
   obtain ⟨h1, h2, h3⟩ := ih o m cs hp
   refine ⟨h1, by simp; omega, fun j hj => ?_⟩
   rw [h3 j hj, show o + 1 + j = (o + j) + 1 from by omega, List.getElem?_cons_succ]

theorem op_load1 {t : TypeId} {d : TypeDesc} {x : Operand} {b i o sz : Nat} {xs : List AV} {e v : AV} (hu : P.underlying t = some d) (hd : isAggD d = false) (hx : oev tm x = .ptr b i o) (hb : hget h b = some (.cells sz xs)) (he : xs[i]? = some e) (hv : e.cells[o]? = some v) :
  OpP P (.load t x) tm h v := fun c n nx ρ S a w hr => by
 have hh := ev_vr hr hx
 obtain ⟨r, cur, el, h1, h2, h3, h4, h5, h6, h7, h8, h9⟩ := own_cells hr hb he
 generalize hev : a.eval x = u at hh
 cases hh with
 | ptr q =>
  obtain rfl := Option.some.inj (h1.symm.trans q)
  have ho : o < sz := by rw [← h3]; exact (List.getElem?_eq_some_iff.1 hv).1
  obtain ⟨y, u, f1, f2, f3⟩ := h9 o ho
  obtain rfl := Option.some.inj (f1.symm.trans hv)
  exact ⟨u, fun oo hoo => by
   unfold execOp; rw [hoo]
   simp only [hev, Instr.loadAt, Instr.sureAddr, Sem.run_bind, Sem.run_pure, Result.andThen_ok, run_loadVar_one hu hd (show w.cell? ⟨r.blk, i * r.sz + o, none⟩ = some u by rw [cell_of h4, h2]; exact f2)], f3⟩

theorem op_loadA {t : TypeId} {d : TypeDesc} {x : Operand} {b i o m sz : Nat} {xs : List AV} {e : AV} {cs : List AV} (hu : P.underlying t = some d) (hd : isAggD d = true) (hz : (P.info? t).map (·.size) = some m) (hx : oev tm x = .ptr b i o) (hb : hget h b = some (.cells sz xs)) (he : xs[i]? = some e)
  (hp : part e.cells o m = some cs) : OpP P (.load t x) tm h (.agg cs) := fun c n nx ρ S a w hr => by
 have hh := ev_vr hr hx
 obtain ⟨r, cur, el, h1, h2, h3, h4, h5, h6, h7, h8, h9⟩ := own_cells hr hb he
 obtain ⟨p1, p2, p3⟩ := part_spec _ _ _ _ hp
 generalize hev : a.eval x = u at hh
 cases hh with
 | ptr q =>
  obtain rfl := Option.some.inj (h1.symm.trans q)
  have hl : ((cur.toList.drop (i * sz + o)).take m).length = m := by rw [List.length_take, List.length_drop, Array.length_toList]; omega
  refine ⟨.agg ((cur.toList.drop (i * sz + o)).take m).toArray, fun oo hoo => ?_, .agg _ (by simpa [hl] using p1) (fun j y u hy hu => ?_)⟩
  ·unfold execOp; rw [hoo]
   simp only [hev, Instr.loadAt, Instr.sureAddr, Sem.run_bind, Sem.run_pure, Result.andThen_ok, run_loadVar_agg hu hd hz hl (b := r.blk) (o := i * r.sz + o) (fun j u hu => by
    have hj : j < m := by
     rcases Nat.lt_or_ge j m with hh | hh
     ·exact hh
     ·rw [List.getElem?_take, if_neg (by omega)] at hu; cases hu
    rw [List.getElem?_take_of_lt hj, List.getElem?_drop, Array.getElem?_toList] at hu
    rw [cell_of h4, h2]; exact hu)]
  ·have hj : j < m := by rw [← p1]; exact (List.getElem?_eq_some_iff.1 hy).1
   rw [List.getElem?_toArray, List.getElem?_take_of_lt hj, List.getElem?_drop, Array.getElem?_toList] at hu
   obtain ⟨y', u', f1, f2, f3⟩ := h9 (o + j) (by omega)
   rw [p3 j hj, f1] at hy
   obtain rfl := Option.some.inj hy
   rw [← Nat.add_assoc, hu] at f2
   obtain rfl := Option.some.inj f2
   exact f3

theorem op_load1L {t : TypeId} {d : TypeDesc} {x : Operand} {cs : List AV} {v : AV} (hu : P.underlying t = some d) (hd : isAggD d = false) (hx : oev tm x = .lp cs) (hv : cs[0]? = some v) : OpP P (.load t x) tm h v := fun c n nx ρ S a w hr => by
 have hh := ev_vr hr hx
 generalize hev : a.eval x = u at hh
 cases hh with
 | @lp _ _ blk off vs q1 q2 q3 q4 =>
  have h0 : 0 < vs.length := by rw [← q2]; exact (List.getElem?_eq_some_iff.1 hv).1
  have e : vs[0]? = some vs[0] := List.getElem?_eq_getElem h0
  have hc := (q3 0 _ e).1
  rw [Nat.add_zero] at hc
  refine ⟨vs[0], fun oo hoo => ?_, (q4 0 _ _ hv e).mono (fun _ h => ⟨h, rfl⟩) (fun _ _ h => by cases h)⟩
  unfold execOp; rw [hoo]
  simp only [hev, Instr.loadAt, Instr.sureAddr, Sem.run_bind, Sem.run_pure, Result.andThen_ok, run_loadVar_one hu hd hc]

theorem op_loadAL {t : TypeId} {d : TypeDesc} {x : Operand} {m : Nat} {cs ds : List AV} (hu : P.underlying t = some d) (hd : isAggD d = true) (hz : (P.info? t).map (·.size) = some m) (hx : oev tm x = .lp cs) (hp : part cs 0 m = some ds) : OpP P (.load t x) tm h (.agg ds) := fun c n nx ρ S a w hr => by
 have hh := ev_vr hr hx
 obtain ⟨p1, p2, p3⟩ := part_spec _ _ _ _ hp
 generalize hev : a.eval x = u at hh
 cases hh with
 | @lp _ _ blk off vs q1 q2 q3 q4 =>
  have hl : (vs.take m).length = m := by rw [List.length_take]; omega
  refine ⟨.agg (vs.take m).toArray, fun oo hoo => ?_, .agg _ (by simpa [hl] using p1) (fun j y u hy hu => ?_)⟩
  ·unfold execOp; rw [hoo]
   simp only [hev, Instr.loadAt, Instr.sureAddr, Sem.run_bind, Sem.run_pure, Result.andThen_ok, run_loadVar_agg hu hd hz hl (b := blk) (o := off) (fun j u hu => by
    have hj : j < m := by
     rcases Nat.lt_or_ge j m with hh | hh
     ·exact hh
     ·rw [List.getElem?_take, if_neg (by omega)] at hu; cases hu
    rw [List.getElem?_take_of_lt hj] at hu
    exact (q3 j u hu).1)]
  ·have hj : j < m := by rw [← p1]; exact (List.getElem?_eq_some_iff.1 hy).1
   rw [List.getElem?_toArray, List.getElem?_take_of_lt hj] at hu
   rw [p3 j hj, Nat.zero_add] at hy
   exact (q4 j y u hy hu).mono (fun _ h => ⟨h, rfl⟩) (fun _ _ h => by cases h)

end
end Go.Proofs.Ytpggknkhldecaaa.Abs
end
section
namespace Go.Proofs.Ytpggknkhldecaaa.Abs

def AV.one : AV → Bool
 | .top => false
 | .agg _ => false
 | .tup _ => false
 | _ => true

theorem VR.one {S : Nat → Prop} {w : World} {ρ : Rho} {x : AV} {v : Value} (h : VR S w ρ x v) (h1 : x.one = true) : v.oneCell' = true := by
 cases h <;> first | rfl | cases h1

def AV.known : AV → Bool
 | .top => false
 | .tup _ => false
 | .agg xs => xs.all AV.one
 | _ => true

theorem VR.cells {S : Nat → Prop} {w : World} {ρ : Rho} {x : AV} {v : Value} (h : VR S w ρ x v) (hk : x.known = true) :
  v.cells.size = x.cells.length ∧ (∀ (i : Nat) (u : Value), v.cells[i]? = some u → u.oneCell' = true) ∧ ∀ (i : Nat) (y : AV) (u : Value), x.cells[i]? = some y → v.cells[i]? = some u → VR S w ρ y u := by
 have one : ∀ {x : AV} {v : Value}, VR S w ρ x v → x.one = true → x.cells = [x] → v.cells = #[v] →
   v.cells.size = x.cells.length ∧ (∀ (i : Nat) (u : Value), v.cells[i]? = some u → u.oneCell' = true) ∧ ∀ (i : Nat) (y : AV) (u : Value), x.cells[i]? = some y → v.cells[i]? = some u → VR S w ρ y u := by
  intro x v h h1 e1 e2
  rw [e1, e2]
  refine ⟨rfl, fun i u hu => ?_, fun i y u hy hu => ?_⟩
  ·cases i with
   | zero => simp at hu; subst hu; exact h.one h1
   | succ i => simp at hu
  ·cases i with
   | zero => simp at hy hu; subst hy; subst hu; exact h
   | succ i => simp at hu
 cases h with
 | top => cases hk
 | tup => cases hk
 | @agg _ xs vs h1 h2 =>
  refine ⟨h1.symm, fun i u hu => ?_, fun i y u hy hu => h2 i y u hy hu⟩
  have hi : i < vs.size := (Array.getElem?_eq_some_iff.1 hu).1
  obtain ⟨y, hy⟩ : ∃ y, xs[i]? = some y := ⟨_, List.getElem?_eq_getElem (by rw [h1]; exact hi)⟩
  exact (h2 i _ u hy hu).one (all_get (by simpa [AV.known] using hk) hy)
 | bool => exact one .bool rfl rfl rfl
 | int => exact one .int rfl rfl rfl
 | str => exact one .str rfl rfl rfl
 | nilp => exact one .nilp rfl rfl rfl
 | ptr h => exact one (.ptr h) rfl rfl rfl
 | lp vs h hl hc hv => exact one (.lp vs h hl hc hv) rfl rfl rfl
 | nils => exact one .nils rfl rfl rfl
 | sl0 => exact one .sl0 rfl rfl rfl
 | sl vs a b c d e f => exact one (.sl vs a b c d e f) rfl rfl rfl
 | own a b c => exact one (.own a b c) rfl rfl rfl
 | ownz a b => exact one (.ownz a b) rfl rfl rfl
 | own0 => exact one .own0 rfl rfl rfl
 | nilm => exact one .nilm rfl rfl rfl
 | omap h => exact one (.omap h) rfl rfl rfl
 | fn us vs a b c d => exact one (.fn us vs a b c d) rfl rfl rfl
 | nilf => exact one .nilf rfl rfl rfl
 | ifc h => exact one (.ifc h) rfl rfl rfl
 | nili => exact one .nili rfl rfl rfl

def upd (ρ : Rho) (b : Nat) (r : R) : Rho := fun k => if k = b then some r else ρ k

theorem Rep.newBlk {c : Ctx} {n : Nat} {tm : List (Nat × AV)} {h h2 : Heap} {nx : Nat} {ρ : Rho} {S : Nat → Prop} {a : Act} {w w1 : World} (hr : Rep c n ⟨tm, h, nx⟩ ρ S a w) (hw : Same w w1) (cs : Array Value) (e : TypeId) (cap sz : Nat) (xs : List AV)
  (hsz : ∀ x ∈ xs, x.cells.length = sz) (hlen : xs.length ≤ cap) (hcap : cap ≤ maxLen) (hcs : cs.size = cap * sz) (h1 : ∀ (i : Nat) (u : Value), cs[i]? = some u → u.oneCell' = true)
  (hv : ∀ (i : Nat) (x : AV) (u : Value), (flat xs)[i]? = some x → cs[i]? = some u → VR S w ρ x u) (hh2 : ∀ k X, hget h2 k = some X → hget h k = some X) :
  Rep c n ⟨tm, (nx, .cells sz xs) :: h2, nx + 1⟩ (upd ρ nx ⟨w1.heap.size, cap, sz⟩) S a (w1.alloc (.cells cs e)) := by
 have hr1 := hr.same hw
 have hS : ∀ k, S k → S k ∧ (w1.alloc (.cells cs e)).heap[k]? = w.heap[k]? := fun k hk =>
  ⟨hk, (heap_alloc_old w1 (.cells cs e) (hr1.sim.lt k hk)).trans (hw.block k (hr.sim.lt k hk))⟩
 have hsame := Same.alloc w1 (.cells cs e)
 have hup : ∀ k q, ρ k = some q → upd ρ nx ⟨w1.heap.size, cap, sz⟩ k = some q := fun k q hk => by
  unfold upd
  rw [if_neg (by have := hr.known hk; exact Nat.ne_of_lt this)]
  exact hk
 refine hr1.turn nx ⟨w1.heap.size, cap, sz⟩ (.cells sz xs) _ _ _ hsame.os hsame.tape hsame.output hsame.size (fun k hk _ => hsame.block k hk) (fun k hk => by unfold upd; rw [if_neg (Nat.ne_of_lt hk)]) (Nat.le_succ _) (by unfold upd; rw [if_pos rfl]) ?_ (by simp) (fun hs => Nat.lt_irrefl _ (hr1.sim.lt _ hs)) (.inr hr1.post.size) ?_ ?_ ?_ (Nat.lt_succ_self _)
 ·exact ⟨rfl, hsz, hlen, hcap, cs, e, heap_alloc_new w1 _, hcs, h1, fun i x u hx hu => (hv i x u hx hu).mono hS hup⟩
 ·intro k X hk
  by_cases e : nx = k
  ·subst e; simp only [hget, if_true] at hk; exact .inl ⟨rfl, (Option.some.inj hk).symm⟩
  ·simp only [hget, e, if_false] at hk; exact .inr ⟨fun e' => e e'.symm, hh2 k X hk⟩
 ·intro k X q hk hX hq
  have hX' : hget h k = some X := by
   simp only [hget] at hX
   rw [if_neg (fun e => hk e.symm)] at hX
   exact hh2 k X hX
  have := (blk_of hr1 (b := k) hX' hq).2.1
  exact Nat.ne_of_lt this
 ·intro k hk
  unfold upd
  rw [if_neg (by omega)]
  exact hr.fresh k (by show nx ≤ k; omega)

theorem upd_ext {c : Ctx} {n : Nat} {tm : List (Nat × AV)} {h : Heap} {nx : Nat} {ρ : Rho} {S : Nat → Prop} {a : Act} {w : World} (hr : Rep c n ⟨tm, h, nx⟩ ρ S a w) (r : R) : ∀ b q, ρ b = some q → upd ρ nx r b = some q := fun k q hk => by
 unfold upd
 rw [if_neg (by have := hr.known hk; exact Nat.ne_of_lt this)]
 exact hk
theorem alloc_ext {c : Ctx} {n : Nat} {st : St} {ρ : Rho} {S : Nat → Prop} {a : Act} {w w1 : World} (hr : Rep c n st ρ S a w) (hw : Same w w1) (o : Obj) : ∀ b, S b → S b ∧ (w1.alloc o).heap[b]? = w.heap[b]? := fun b hb =>
 ⟨hb, (heap_alloc_old w1 o (Nat.lt_of_lt_of_le (hr.sim.lt b hb) hw.size)).trans (hw.block b (hr.sim.lt b hb))⟩
theorem upd_self (ρ : Rho) (b : Nat) (r : R) : upd ρ b r b = some r := by unfold upd; rw [if_pos rfl]

theorem VR.ptr0 {S : Nat → Prop} {w : World} {ρ : Rho} {b : Nat} {r : R} (h : ρ b = some r) : VR S w ρ (.ptr b 0 0) (.pointer (some ⟨r.blk, 0, none⟩)) := by
 have := VR.ptr (S := S) (w := w) (i := 0) (o := 0) h
 rwa [Nat.zero_mul] at this

theorem VR.own_at0 {S : Nat → Prop} {w : World} {ρ : Rho} {b len c : Nat} {r : R} (h : ρ b = some r) (h1 : len ≤ c) (h2 : c = r.cap) : VR S w ρ (.own b 0 len) (.slice (some ⟨r.blk, 0, none⟩) len c) := by
 have := VR.own (S := S) (w := w) (st := 0) h h1 (by rw [Nat.zero_add]; exact h2)
 rwa [Nat.zero_mul] at this

section
variable {P : Program} {tm : List (Nat × AV)} {h : Heap} {nx : Nat}

theorem op_box {t : TypeId} {x : Operand} {v : AV} (hx : oev tm x = v) (hk : v.known = true) : OpOK P (.box t x) ⟨tm, h, nx⟩ (.ptr nx 0 0) ((nx, .cells v.cells.length [v]) :: h) (nx + 1) := OpOK.of fun c n ρ S a w hr => by
 have hv := ev_vr hr hx
 obtain ⟨h1, h2, h3⟩ := hv.cells hk
 refine ⟨_, .pointer (some ⟨w.heap.size, 0, none⟩), w.alloc (.cells (a.eval x).cells t), _, S, fun o ho => ?_, .inl rfl, hr.newBlk (Same.refl w) (a.eval x).cells t 1 v.cells.length [v] (by simp) (by simp) (by unfold maxLen; omega) (by rw [h1, Nat.one_mul]) h2 (fun i y u hy hu => h3 i y u (by simpa [flat] using hy) hu) (fun _ _ h => h), .ptr0 (upd_self _ _ _), upd_ext hr _, alloc_ext hr (Same.refl w) _⟩
 unfold execOp; rw [ho]
 simp [Instr.box, newVar, newRow]

theorem op_alloc {t : TypeId} {z : Value} {v : AV} (hz : (P.info? t).map (·.zero) = some (some z)) (hv : ofConst z = v) (hk : v.known = true) : OpOK P (.alloc t) ⟨tm, h, nx⟩ (.ptr nx 0 0) ((nx, .cells v.cells.length [v]) :: h) (nx + 1) := OpOK.of fun c n ρ S a w hr => by
 have hvr : VR S w ρ v z := hv ▸ ofConst_VR S w ρ z
 obtain ⟨h1, h2, h3⟩ := hvr.cells hk
 obtain ⟨i, e1, e2⟩ := Option.map_eq_some_iff.1 hz
 refine ⟨_, .pointer (some ⟨w.heap.size, 0, none⟩), w.alloc (.cells z.cells t), _, S, fun o ho => ?_, .inl rfl, hr.newBlk (Same.refl w) z.cells t 1 v.cells.length [v] (by simp) (by simp) (by unfold maxLen; omega) (by rw [h1, Nat.one_mul]) h2 (fun i y u hy hu => h3 i y u (by simpa [flat] using hy) hu) (fun _ _ h => h), .ptr0 (upd_self _ _ _), upd_ext hr _, alloc_ext hr (Same.refl w) _⟩
 unfold execOp; rw [ho]
 simp [Instr.alloc, zeroValue, typeInfo, e1, e2, newVar, newRow]

theorem madeCells_get {z : Array Value} {n sz : Nat} (hz : z.size = sz) (hs : 0 < sz) {i : Nat} (hi : i < n * sz) : (madeCells z (n * sz))[i]? = z[i % sz]? := by
 have hm : i % sz < z.size := by rw [hz]; exact Nat.mod_lt _ hs
 simp only [madeCells, Array.getElem?_map, Array.getElem?_range, hi, if_true, Option.map_some]
 rw [hz, getElem!_pos z (i % sz) hm]
 simp [hm]

theorem flat_replicate {v : AV} {sz n i : Nat} (hv : v.cells.length = sz) (hs : 0 < sz) (hi : i < n * sz) : (flat (List.replicate n v))[i]? = v.cells[i % sz]? := by
 have hq : i / sz < n := by rw [Nat.div_lt_iff_lt_mul hs]; exact hi
 have hm := Nat.mod_lt i hs
 have := flat_get (sz := sz) (xs := List.replicate n v) (fun x hx => by rw [(List.mem_replicate.1 hx).2]; exact hv) (i / sz) 1 (i % sz) (by simp; omega) (by omega)
 have e : i / sz * sz + i % sz = i := by rw [Nat.mul_comm]; exact Nat.div_add_mod i sz
 rw [e] at this
 rw [← this]
 have : ((List.replicate n v).drop (i / sz)).take 1 = [v] := by
  rw [List.drop_replicate, List.take_replicate, Nat.min_eq_left (by omega)]
  rfl
 rw [this]
 simp [flat]

theorem op_make {t e : TypeId} {x y : Operand} {z : Value} {v : AV} {sz bytes : Nat} {k k' : IntKind} {m : Int} (hu : P.underlying t = some (.slice e)) (hi : (P.info? e).map (fun i => (i.zero, i.size, i.bytes)) = some (some z, sz, bytes)) (hv : ofConst z = v) (hk : v.known = true) (hvs : v.cells.length = sz) (hs : 0 < sz)
  (hx : oev tm x = .int k m) (hy : oev tm y = .int k' m) (h0 : 0 ≤ m) (hb : (bytes : Int) * m ≤ 281474976710656) (hm : m ≤ 9223372036854775807) : OpOK P (.makeSlice t x y) ⟨tm, h, nx⟩ (.own nx 0 m.toNat) ((nx, .cells sz (List.replicate m.toNat v)) :: h) (nx + 1) := OpOK.of fun c n ρ S a w hr => by
 obtain ⟨i, e1, e2⟩ := Option.map_eq_some_iff.1 hi
 obtain ⟨e3, e4, e5⟩ : i.zero = some z ∧ i.size = sz ∧ i.bytes = bytes := by
  have := e2; simp only [Prod.mk.injEq] at this; exact this
 have hvr : VR S w ρ v z := hv ▸ ofConst_VR S w ρ z
 obtain ⟨h1, h2, h3⟩ := hvr.cells hk
 have hzs : z.cells.size = sz := h1.trans hvs
 have hrun := run_make (P := P) w t e i z hu e1 e3 k k' m m h0 (Int.le_refl _) (by rw [e5]; exact hb) hm
 rw [e4] at hrun
 refine ⟨_, .slice (some ⟨w.heap.size, 0, none⟩) m.toNat m.toNat, _, _, S, fun o ho => ?_, .inl rfl, hr.newBlk (Same.refl w) (madeCells z.cells (m.toNat * sz)) e m.toNat sz (List.replicate m.toNat v) (fun x hx => by rw [(List.mem_replicate.1 hx).2]; exact hvs) (by simp) (by unfold maxLen; omega) (size_madeCells _ _) (fun j u hu => ?_) (fun j y u hy hu => ?_) (fun _ _ h => h), .own_at0 (upd_self _ _ _) (Nat.le_refl _) rfl, upd_ext hr _, alloc_ext hr (Same.refl w) _⟩
 ·unfold execOp; rw [ho]; simp only [ev_int hr hx, ev_int hr hy, Sem.run_bind, hrun, Result.andThen_ok, Sem.run_pure]
 ·have hj : j < m.toNat * sz := by
   have := (Array.getElem?_eq_some_iff.1 hu).1
   rwa [size_madeCells] at this
  rw [madeCells_get hzs hs hj] at hu
  exact h2 _ u hu
 ·have hj : j < m.toNat * sz := by
   have := (Array.getElem?_eq_some_iff.1 hu).1
   rwa [size_madeCells] at this
  rw [madeCells_get hzs hs hj] at hu
  rw [flat_replicate hvs hs hj] at hy
  exact h3 _ y u hy hu

end
end Go.Proofs.Ytpggknkhldecaaa.Abs
end
section
namespace Go.Proofs.Ytpggknkhldecaaa.Abs

theorem flat_at {sz : Nat} {xs : List AV} (h : ∀ x ∈ xs, x.cells.length = sz) {q r : Nat} {y : AV} (hq : xs[q]? = some y) (hr : r < sz) : (flat xs)[q * sz + r]? = y.cells[r]? := by
 have hl : q < xs.length := (List.getElem?_eq_some_iff.1 hq).1
 have := flat_get h q 1 r (by omega) (by omega)
 rw [← this]
 have e : (xs.drop q).take 1 = [y] := by
  rw [List.getElem?_eq_some_iff] at hq
  obtain ⟨_, hq⟩ := hq
  rw [List.drop_eq_getElem_cons hl, hq, List.take_succ_cons, List.take_zero]
 rw [e]
 simp [flat]

theorem flat_split {sz : Nat} {xs : List AV} (h : ∀ x ∈ xs, x.cells.length = sz) {j : Nat} {x : AV} (hx : (flat xs)[j]? = some x) : 0 < sz ∧ ∃ y, xs[j / sz]? = some y ∧ y.cells[j % sz]? = some x ∧ j = j / sz * sz + j % sz := by
 have hj : j < xs.length * sz := by rw [← flat_len h]; exact (List.getElem?_eq_some_iff.1 hx).1
 have hs : 0 < sz := by
  rcases Nat.eq_zero_or_pos sz with rfl | h
  ·simp at hj
  ·exact h
 have hq : j / sz < xs.length := by rw [Nat.div_lt_iff_lt_mul hs]; exact hj
 have e : j = j / sz * sz + j % sz := by rw [Nat.mul_comm]; exact (Nat.div_add_mod j sz).symm
 have hy : xs[j / sz]? = some xs[j / sz] := List.getElem?_eq_getElem hq
 refine ⟨hs, _, hy, ?_, e⟩
 have := flat_at h hy (Nat.mod_lt j hs)
 rw [← this, ← e]
 exact hx

def spl (l : List AV) : Nat → List AV → Option (List AV)
 | 0, [] => some l
 | 0, v :: vs => match l with
  | [] => none
  | _ :: t => match spl t 0 vs with
   | some r => some (v :: r)
   | none => none
 | o + 1, vs => match l with
  | [] => none
  | x :: t => match spl t o vs with
   | some r => some (x :: r)
   | none => none

theorem spl_spec : ∀ (l : List AV) (o : Nat) (vs cs : List AV), spl l o vs = some cs → cs.length = l.length ∧ o + vs.length ≤ l.length ∧ ∀ j, cs[j]? = if o ≤ j ∧ j < o + vs.length then vs[j - o]? else l[j]? := by
 intro l
 induction l with
 | nil =>
  intro o vs cs hp
  cases o with
  | zero =>
   cases vs with
   | nil => simp [spl] at hp; subst hp; exact ⟨rfl, Nat.le_refl _, fun j => by rw [if_neg (by simp)]⟩
   | cons v vs => simp [spl] at hp
  | succ o => cases vs <;> simp [spl] at hp
 | cons x t ih =>
  intro o vs cs hp
  cases o with
  | zero =>
   cases vs with
   | nil => simp [spl] at hp; subst hp; exact ⟨rfl, Nat.zero_le _, fun j => by rw [if_neg (by simp)]⟩
   | cons v vs =>
    simp only [spl] at hp
    cases hq : spl t 0 vs with
    | none => rw [hq] at hp; cases hp
    | some r =>
     rw [hq] at hp
     obtain rfl := Option.some.inj hp
     obtain ⟨h1, h2, h3⟩ := ih 0 vs r hq
     refine ⟨by simp [h1], by simp at h2 ⊢; omega, fun j => ?_⟩
     cases j with
     | zero => simp
     | succ j =>
      rw [List.getElem?_cons_succ, h3 j]
      simp only [List.length_cons, List.getElem?_cons_succ, Nat.sub_zero, Nat.zero_add]
      by_cases hj : j < vs.length
      ·rw [if_pos ⟨Nat.zero_le _, hj⟩, if_pos ⟨Nat.zero_le _, by omega⟩]
      ·rw [if_neg (fun e => hj e.2), if_neg (fun e => hj (by omega))]
  | succ o =>
   have hp' : (match spl t o vs with | some r => some (x :: r) | none => none) = some cs := by
    cases vs <;> exact hp
   cases hq : spl t o vs with
   | none => rw [hq] at hp'; cases hp'
   | some r =>
    rw [hq] at hp'
    obtain rfl := Option.some.inj hp'
    obtain ⟨h1, h2, h3⟩ := ih o vs r hq
    refine ⟨by simp [h1], by simp; omega, fun j => ?_⟩
    cases j with
    | zero => rw [if_neg (by omega)]; simp
    | succ j =>
     rw [List.getElem?_cons_succ, h3 j, List.getElem?_cons_succ]
     by_cases hj : o ≤ j ∧ j < o + vs.length
     ·rw [if_pos hj, if_pos (by omega), show j + 1 - (o + 1) = j - o from by omega]
     ·rw [if_neg hj, if_neg (by omega)]

def setS (l : List AV) : Nat → AV → Option (List AV)
 | 0, v => match l with
  | [] => none
  | _ :: t => some (v :: t)
 | i + 1, v => match l with
  | [] => none
  | x :: t => match setS t i v with
   | some r => some (x :: r)
   | none => none

theorem setS_spec : ∀ (l : List AV) (i : Nat) (v : AV) (l' : List AV), setS l i v = some l' → l.set i v = l' := by
 intro l
 induction l with
 | nil => intro i v l' hp; cases i <;> simp [setS] at hp
 | cons x t ih =>
  intro i v l' hp
  cases i with
  | zero => simp only [setS] at hp; obtain rfl := Option.some.inj hp; rfl
  | succ i =>
   simp only [setS] at hp
   cases hq : setS t i v with
   | none => rw [hq] at hp; cases hp
   | some r =>
    rw [hq] at hp
    obtain rfl := Option.some.inj hp
    rw [List.set_cons_succ, ih i v r hq]

def hsetS : Heap → Nat → Blk → Option Heap
 | [], _, _ => none
 | (i, x) :: t, j, b => if i = j then some ((j, b) :: t) else match hsetS t j b with
  | some r => some ((i, x) :: r)
  | none => none

theorem hsetS_spec : ∀ (h : Heap) (j : Nat) (b : Blk) (h' : Heap), hsetS h j b = some h' → hset h j b = h' := by
 intro h
 induction h with
 | nil => intro j b h' hp; cases hp
 | cons q t ih =>
  intro j b h' hp
  obtain ⟨i, x⟩ := q
  simp only [hsetS] at hp
  by_cases e : i = j
  ·rw [if_pos e] at hp; obtain rfl := Option.some.inj hp; simp [hset, e]
  ·rw [if_neg e] at hp
   cases hq : hsetS t j b with
   | none => rw [hq] at hp; cases hp
   | some r =>
    rw [hq] at hp
    obtain rfl := Option.some.inj hp
    simp [hset, e, ih j b r hq]

theorem Rep.write {c : Ctx} {n : Nat} {tm : List (Nat × AV)} {h : Heap} {nx : Nat} {ρ : Rho} {S : Nat → Prop} {a : Act} {w : World} (hr : Rep c n ⟨tm, h, nx⟩ ρ S a w) {b : Nat} {B : Blk} {r : R} (hb : hget h b = some B) (hq : ρ b = some r) {cur cs : Array Value} {e : TypeId} (hcur : w.heap[r.blk]? = some (.cells cur e (0, 0)))
  (sz : Nat) (xs : List AV) (h1 : r.sz = sz) (h2 : ∀ x ∈ xs, x.cells.length = sz) (h3 : xs.length ≤ r.cap) (h4 : r.cap ≤ maxLen) (h5 : cs.size = r.cap * sz) (h6 : ∀ (i : Nat) (u : Value), cs[i]? = some u → u.oneCell' = true)
  (h7 : ∀ (i : Nat) (x : AV) (u : Value), (flat xs)[i]? = some x → cs[i]? = some u → VR S w ρ x u) : Rep c n ⟨tm, hset h b (.cells sz xs), nx⟩ ρ S a (w.setRow r.blk cs) := by
 obtain ⟨g1, g2, g3⟩ := blk_of hr hb hq
 have hS : ∀ k, S k → S k ∧ (w.setRow r.blk cs).heap[k]? = w.heap[k]? := fun k hk => ⟨hk, setRow_other w r.blk k cs (fun e => g1 (e ▸ hk))⟩
 have hsz : (w.setRow r.blk cs).heap.size = w.heap.size := by simp [World.setRow]
 refine hr.turn b r (.cells sz xs) ρ _ nx rfl rfl rfl (Nat.le_of_eq hsz.symm) (fun k _ hk => setRow_other w r.blk k cs hk) (fun _ _ => rfl) (Nat.le_refl _) hq ⟨h1, h2, h3, h4, cs, e, setRow_heap w r.blk cur cs e _ hcur, h5, h6, fun i x u hx hu => (h7 i x u hx hu).mono hS (fun _ _ h => h)⟩ (by rw [hsz]; exact g2) g1
  (hr.post.own b B r hb hq) (fun k X hk => ?_) (fun k X q hk hX hq' => ?_) hr.fresh (hr.dom b B hb)
 ·rw [hget_set] at hk
  by_cases e : b = k
  ·rw [if_pos e] at hk; exact .inl ⟨e.symm, (Option.some.inj hk).symm⟩
  ·rw [if_neg e] at hk; exact .inr ⟨fun e' => e e'.symm, hk⟩
 ·rw [hget_set, if_neg (fun e => hk e.symm)] at hX
  exact hr.sim.inj k b X B q r hX hb hq' hq hk

section
variable {P : Program} {tm : List (Nat × AV)} {h : Heap} {nx : Nat}

theorem store_gen {t : TypeId} {x y : Operand} {b i o m sz : Nat} {xs : List AV} {e e' v : AV} (hz : (P.info? t).map (·.size) = some m) (hx : oev tm x = .ptr b i o) (hy : oev tm y = v) (hb : hget h b = some (.cells sz xs)) (he : xs[i]? = some e) (hk : v.known = true) (hm : v.cells.length = m)
  (hfit : o + m ≤ sz) (he' : e'.cells.length = sz) (hc : ∀ j, e'.cells[j]? = if o ≤ j ∧ j < o + m then v.cells[j - o]? else e.cells[j]?) : OpOK P (.store t x y) ⟨tm, h, nx⟩ .top (hset h b (.cells sz (xs.set i e'))) nx := OpOK.of fun c n ρ S a w hr => by
 have hh := ev_vr hr hx
 have hv := ev_vr hr hy
 obtain ⟨v1, v2, v3⟩ := hv.cells hk
 obtain ⟨r, cur, el, f1, f2, f3, f4, f5, f6, f7, f8, f9⟩ := own_cells hr hb he
 obtain ⟨g1, g2, g3⟩ := blk_of hr hb f1
 obtain ⟨k1, k2, k3, k4, cur', el', k5, k6, k7, k8⟩ := g3
 obtain ⟨rfl, rfl⟩ : cur' = cur ∧ el' = el := by
  have := k5.symm.trans f4
  simp only [Option.some.injEq, Obj.cells.injEq] at this
  exact ⟨this.1, this.2.1⟩
 have hil : i < xs.length := (List.getElem?_eq_some_iff.1 he).1
 generalize hev : a.eval x = u at hh
 cases hh with
 | ptr q =>
 obtain rfl := Option.some.inj (f1.symm.trans q)
 have hvl : (a.eval y).cells.toList.length = m := by rw [Array.length_toList, v1, hm]
 have hst := run_storeCells_at P r.blk (i * r.sz + o) el' (a.eval y).cells.toList 0 cur' w f4 (by rw [hvl, f2]; omega) (fun u hu => by
  obtain ⟨j, hj⟩ := List.getElem?_of_mem hu
  rw [Array.getElem?_toList] at hj
  exact v2 j u hj)
 rw [Nat.add_zero, hvl, f2] at hst
 have hO : i * sz + o + m ≤ cur'.size := by omega
 generalize hcs : (cur'.toList.take (i * sz + o) ++ (a.eval y).cells.toList ++ cur'.toList.drop (i * sz + o + m)).toArray = cs at hst
 have hget : ∀ j, cs[j]? = if i * sz + o ≤ j ∧ j < i * sz + o + m then (a.eval y).cells[j - (i * sz + o)]? else cur'[j]? := by
  intro j
  rw [← hcs, List.getElem?_toArray, List.append_assoc]
  rcases Nat.lt_or_ge j (i * sz + o) with h1 | h1
  ·rw [List.getElem?_append_left (by rw [List.length_take, Array.length_toList]; omega), List.getElem?_take_of_lt h1, Array.getElem?_toList, if_neg (by omega)]
  ·rw [List.getElem?_append_right (by rw [List.length_take, Array.length_toList]; omega), List.length_take, Array.length_toList, Nat.min_eq_left (by omega)]
   rcases Nat.lt_or_ge j (i * sz + o + m) with h2 | h2
   ·rw [List.getElem?_append_left (by rw [hvl]; omega), Array.getElem?_toList, if_pos ⟨h1, h2⟩]
   ·rw [List.getElem?_append_right (by rw [hvl]; omega), hvl, List.getElem?_drop, Array.getElem?_toList, if_neg (by omega), show i * sz + o + m + (j - (i * sz + o) - m) = j from by omega]
 have hsz' : ∀ z ∈ xs.set i e', z.cells.length = sz := fun z hz => by
  rcases List.mem_or_eq_of_mem_set hz with h | rfl
  ·exact k2 z h
  ·exact he'
 have hrep := hr.write hb f1 (cs := cs) f4 sz (xs.set i e') f2 hsz' (by rw [List.length_set]; exact k3) k4 (by
   rw [← hcs, List.size_toArray, List.length_append, List.length_append, List.length_take, List.length_drop, Array.length_toList, hvl, ← f5]; omega) (fun j u hu => by
   rw [hget j] at hu
   split at hu
   ·exact v2 _ u hu
   ·exact f8 j u hu) (fun j z u hz hu => by
   obtain ⟨hs, y', q1, q2, q3⟩ := flat_split hsz' hz
   have hmod := Nat.mod_lt j hs
   rw [hget j] at hu
   by_cases hi : j / sz = i
   ·rw [hi, List.getElem?_set_self hil] at q1
    obtain rfl := Option.some.inj q1
    rw [hc] at q2
    rw [hi] at q3
    by_cases hin : o ≤ j % sz ∧ j % sz < o + m
    ·rw [if_pos hin] at q2
     rw [if_pos (by omega)] at hu
     exact v3 _ z u (by rw [show j - (i * sz + o) = j % sz - o from by omega]; exact q2) hu
    ·rw [if_neg hin] at q2
     rw [if_neg (by omega)] at hu
     obtain ⟨x', u', w1, w2, w3⟩ := f9 (j % sz) hmod
     rw [← q3, hu] at w2
     obtain rfl := Option.some.inj w2
     rw [q2] at w1
     obtain rfl := Option.some.inj w1
     exact w3
   ·rw [List.getElem?_set_ne (fun e => hi e.symm)] at q1
    have hne : ¬ (i * sz + o ≤ j ∧ j < i * sz + o + m) := fun hc' => hi (by
     have h1 : i * sz ≤ j := by omega
     have h2 : j < (i + 1) * sz := by rw [Nat.add_mul, Nat.one_mul]; omega
     have h3 : i ≤ j / sz := (Nat.le_div_iff_mul_le hs).2 h1
     have h4 : j / sz < i + 1 := (Nat.div_lt_iff_lt_mul hs).2 h2
     omega)
    rw [if_neg hne] at hu
    refine k8 j z u ?_ hu
    rw [q3, flat_at k2 q1 hmod]
    exact q2)
 refine ⟨.skip, undef, w.setRow r.blk cs, ρ, S, fun oo hoo => ?_, .inr ⟨rfl, rfl⟩, hrep, .top, fun _ _ h => h, fun k hk => ⟨hk, setRow_other w r.blk k cs (fun e => g1 (e ▸ hk))⟩⟩
 unfold execOp; rw [hoo]
 simp only [hev, Instr.storeAt, Instr.sureAddr, Sem.run_bind, Sem.run_pure, Result.andThen_ok, storeVar, run_sizeOf hz, ne_eq]
 rw [if_neg (by rw [v1, hm]; simp)]
 rw [f2, hst]
 rfl

theorem op_storeA {t : TypeId} {x y : Operand} {b i o m sz : Nat} {xs xs' cs : List AV} {e v : AV} {h' : Heap} (hz : (P.info? t).map (·.size) = some m) (hx : oev tm x = .ptr b i o) (hy : oev tm y = v) (hb : hget h b = some (.cells sz xs)) (he : xs[i]? = some e) (hel : e.cells.length = sz) (hk : v.known = true) (hm : v.cells.length = m)
  (hs : spl e.cells o v.cells = some cs) (hx' : setS xs i (.agg cs) = some xs') (hh : hsetS h b (.cells sz xs') = some h') : OpOK P (.store t x y) ⟨tm, h, nx⟩ .top h' nx := by
 obtain ⟨s1, s2, s3⟩ := spl_spec _ _ _ _ hs
 have := store_gen (nx := nx) (e' := .agg cs) hz hx hy hb he hk hm (by omega) (by show cs.length = sz; omega) (fun j => by rw [← hm]; exact s3 j)
 rw [setS_spec _ _ _ _ hx', hsetS_spec _ _ _ _ hh] at this
 exact this
theorem op_storeAs {t : TypeId} {x y : Operand} {b i o m sz : Nat} {xs cs : List AV} {e v : AV} {h' : Heap} (hz : (P.info? t).map (·.size) = some m) (hx : oev tm x = .ptr b i o) (hy : oev tm y = v) (hb : hget h b = some (.cells sz xs)) (he : xs[i]? = some e) (hel : e.cells.length = sz) (hk : v.known = true) (hm : v.cells.length = m)
  (hs : spl e.cells o v.cells = some cs) (hh : hsetS h b (.cells sz (xs.set i (.agg cs))) = some h') : OpOK P (.store t x y) ⟨tm, h, nx⟩ .top h' nx := by
 obtain ⟨s1, s2, s3⟩ := spl_spec _ _ _ _ hs
 have := store_gen (nx := nx) (e' := .agg cs) hz hx hy hb he hk hm (by omega) (by show cs.length = sz; omega) (fun j => by rw [← hm]; exact s3 j)
 rw [hsetS_spec _ _ _ _ hh] at this
 exact this
theorem op_store1 {t : TypeId} {x y : Operand} {b i : Nat} {xs xs' : List AV} {e v : AV} {h' : Heap} (hz : (P.info? t).map (·.size) = some 1) (hx : oev tm x = .ptr b i 0) (hy : oev tm y = v) (hb : hget h b = some (.cells 1 xs)) (he : xs[i]? = some e) (hk : v.one = true)
  (hx' : setS xs i v = some xs') (hh : hsetS h b (.cells 1 xs') = some h') : OpOK P (.store t x y) ⟨tm, h, nx⟩ .top h' nx := by
 have hc : v.cells = [v] := by cases v <;> first | rfl | cases hk
 have hkn : v.known = true := by cases v <;> first | rfl | cases hk
 have hoth : ∀ j, 1 ≤ j → e.cells.length = 1 → e.cells[j]? = none := fun j hj hl => List.getElem?_eq_none (by omega)
 have := fun (hl : e.cells.length = 1) => store_gen (nx := nx) (e' := v) hz hx hy hb he hkn (by rw [hc]; rfl) (Nat.le_refl _) (by rw [hc]; rfl) (fun j => by
  by_cases hj : j < 1
  ·rw [if_pos ⟨Nat.zero_le _, by omega⟩, Nat.sub_zero]
  ·rw [if_neg (by omega), hc, hoth j (by omega) hl]; exact List.getElem?_eq_none (by simp; omega))
 rw [setS_spec _ _ _ _ hx', hsetS_spec _ _ _ _ hh] at this
 exact fun c n ρ S a w hr => by
  obtain ⟨r, cur, el, f1, f2, f3, _⟩ := own_cells hr hb he
  exact this f3 c n ρ S a w hr
theorem op_store1s {t : TypeId} {x y : Operand} {b i : Nat} {xs : List AV} {e v : AV} {h' : Heap} (hz : (P.info? t).map (·.size) = some 1) (hx : oev tm x = .ptr b i 0) (hy : oev tm y = v) (hb : hget h b = some (.cells 1 xs)) (he : xs[i]? = some e) (hk : v.one = true)
  (hh : hsetS h b (.cells 1 (xs.set i v)) = some h') : OpOK P (.store t x y) ⟨tm, h, nx⟩ .top h' nx := by
 have hc : v.cells = [v] := by cases v <;> first | rfl | cases hk
 have hkn : v.known = true := by cases v <;> first | rfl | cases hk
 have hoth : ∀ j, 1 ≤ j → e.cells.length = 1 → e.cells[j]? = none := fun j hj hl => List.getElem?_eq_none (by omega)
 have := fun (hl : e.cells.length = 1) => store_gen (nx := nx) (e' := v) hz hx hy hb he hkn (by rw [hc]; rfl) (Nat.le_refl _) (by rw [hc]; rfl) (fun j => by
  by_cases hj : j < 1
  ·rw [if_pos ⟨Nat.zero_le _, by omega⟩, Nat.sub_zero]
  ·rw [if_neg (by omega), hc, hoth j (by omega) hl]; exact List.getElem?_eq_none (by simp; omega))
 rw [hsetS_spec _ _ _ _ hh] at this
 exact fun c n ρ S a w hr => by
  obtain ⟨r, cur, el, f1, f2, f3, _⟩ := own_cells hr hb he
  exact this f3 c n ρ S a w hr

end
end Go.Proofs.Ytpggknkhldecaaa.Abs
end
section
namespace Go.Proofs.Ytpggknkhldecaaa.Abs

inductive SrcA (h : Heap) : AV → Nat → List AV → Prop
 | sl {sz ys} (hs : ys ≠ [] ∨ True) : SrcA h (.sl sz ys) sz ys
 | own {b st len sz zs} (hb : hget h b = some (.cells sz zs)) (hl : st + len ≤ zs.length) : SrcA h (.own b st len) sz ((zs.drop st).take len)
 | nils {sz} : SrcA h .nils sz []
 | ownz {b st sz} : SrcA h (.ownz b st) sz []

theorem SrcA.read {c : Ctx} {n : Nat} {tm : List (Nat × AV)} {h : Heap} {nx : Nat} {ρ : Rho} {S : Nat → Prop} {a : Act} {w : World} (hr : Rep c n ⟨tm, h, nx⟩ ρ S a w) {x : AV} {sz : Nat} {ys : List AV} (hs : SrcA h x sz ys) {v : Value} (hv : VR S w ρ x v) :
  ∃ (A : Option Addr) (cp : Nat) (news : List Value), v = .slice A ys.length cp ∧ ys.length ≤ cp ∧ news.length = ys.length * sz ∧ (∀ y ∈ ys, y.cells.length = sz) ∧ (ys ≠ [] → ∃ blk off, A = some ⟨blk, off, none⟩ ∧ ∀ (j : Nat) (u : Value), news[j]? = some u → w.cell? ⟨blk, off + j, none⟩ = some u) ∧
   (∀ u ∈ news, u.oneCell' = true) ∧ ∀ (j : Nat) (y : AV) (u : Value), (flat ys)[j]? = some y → news[j]? = some u → VR S w ρ y u := by
 cases hs with
 | sl _ =>
  cases hv with
  | sl0 => exact ⟨_, _, [], rfl, Nat.zero_le _, by simp, fun y hy => by simp at hy, fun e => absurd rfl e, fun u hu => by simp at hu, fun j y u hy hu => by simp at hu⟩
  | sl vs q1 q2 q3 q4 q5 q6 =>
   exact ⟨_, _, vs, rfl, q4, by rw [← q2, flat_len q3], q3, fun _ => ⟨_, _, rfl, fun j u hu => (q5 j u hu).1⟩, fun u hu => by
    obtain ⟨j, hj⟩ := List.getElem?_of_mem hu
    exact (q5 j u hj).2, fun j y u hy hu => (q6 j y u hy hu).mono (fun _ h => ⟨h, rfl⟩) (fun _ _ h => by cases h)⟩
 | ownz => cases hv; exact ⟨_, _, [], rfl, Nat.zero_le _, by simp, fun y hy => by simp at hy, fun e => absurd rfl e, fun u hu => by simp at hu, fun j y u hy hu => by simp at hu⟩
 | nils => cases hv; exact ⟨_, _, [], rfl, Nat.le_refl _, by simp, fun y hy => by simp at hy, fun e => absurd rfl e, fun u hu => by simp at hu, fun j y u hy hu => by simp at hu⟩
 | @own b st len _ zs hb hl =>
  have hle : ((zs.drop st).take len).length = len := by rw [List.length_take, List.length_drop, Nat.min_eq_left (by omega)]
  cases hv with
  | own0 =>
   refine ⟨_, _, [], rfl, Nat.zero_le _, by simp, fun y hy => by simp at hy, fun e => absurd (by simp) e, fun u hu => by simp at hu, fun j y u hy hu => by simp at hu⟩
  | @own _ _ _ _ r cp q1 q2 q3 =>
   obtain ⟨g1, g2, k1, k2, k3, k4, cur, el, k5, k6, k7, k8⟩ := blk_of hr hb q1
   have hsz : ∀ y ∈ (zs.drop st).take len, y.cells.length = sz := fun y hy => k2 y (List.mem_of_mem_drop (List.mem_of_mem_take hy))
   have hm : (st + len) * sz ≤ cur.size := by rw [k6]; exact Nat.mul_le_mul_right _ (by omega)
   rw [Nat.add_mul] at hm
   refine ⟨_, cp, (cur.toList.drop (st * sz)).take (len * sz), by rw [hle], by rw [hle]; exact q2, by rw [hle, List.length_take, List.length_drop, Array.length_toList]; omega, hsz, fun _ => ⟨r.blk, st * r.sz, rfl, fun j u hu => ?_⟩, fun u hu => ?_, fun j y u hy hu => ?_⟩
   ·have hj : j < len * sz := by
     rcases Nat.lt_or_ge j (len * sz) with hh | hh
     ·exact hh
     ·rw [List.getElem?_take, if_neg (by omega)] at hu; cases hu
    rw [List.getElem?_take_of_lt hj, List.getElem?_drop, Array.getElem?_toList] at hu
    rw [cell_of k5, k1]
    exact hu
   ·obtain ⟨j, hj⟩ := List.getElem?_of_mem (List.mem_of_mem_drop (List.mem_of_mem_take hu))
    rw [Array.getElem?_toList] at hj
    exact k7 j u hj
   ·have hj : j < len * sz := by
     rcases Nat.lt_or_ge j (len * sz) with hh | hh
     ·exact hh
     ·rw [List.getElem?_take, if_neg (by omega)] at hu; cases hu
    rw [List.getElem?_take_of_lt hj, List.getElem?_drop, Array.getElem?_toList] at hu
    rw [flat_get k2 st len j hl hj] at hy
    exact k8 _ y u hy hu

section
variable {P : Program}

theorem run_app_room {t tx ty e : TypeId} {dx : TypeDesc} {i : TypeInfo} (ht : P.underlying t = some (.slice e)) (htx : P.underlying tx = some dx) (hdx : (∃ e', dx = .slice e') ∨ dx = .string) (hi : P.info? e = some i)
  {w : World} {g sLen sCap : Nat} {cur : Array Value} {el : TypeId} (hg : w.heap[g]? = some (.cells cur el (0, 0))) {x : Value} {m : Nat} {news : List Value} (hl : (Builtin.lenOf x).run P w = .ok m w) (hf : (Builtin.firstCells i.size m x).run P w = .ok news.toArray w)
  (h1 : ∀ u ∈ news, u.oneCell' = true) (hroom : sLen + m ≤ sCap) (hfit : sLen * i.size + news.length ≤ cur.size) :
  (Builtin.append_ #[t, tx] ty #[.slice (some ⟨g, 0, none⟩) sLen sCap, x]).run P w = .ok (.slice (some ⟨g, 0, none⟩) (sLen + m) sCap) (w.setRow g (cur.toList.take (sLen * i.size) ++ news ++ cur.toList.drop (sLen * i.size + news.length)).toArray) := by
 have hst := run_storeCells_at P g (sLen * i.size) el news 0 cur w hg (by simpa using hfit) h1
 simp only [Nat.add_zero] at hst
 rcases hdx with ⟨e', rfl⟩ | rfl <;> simp [Builtin.append_, run_underlying ht, run_underlying htx, sizeOf, typeInfo, hi, hl, hf, hroom, Addr.add_lit, hst]

theorem run_app_none {t tx ty e : TypeId} {dx : TypeDesc} {i : TypeInfo} (ht : P.underlying t = some (.slice e)) (htx : P.underlying tx = some dx) (hdx : (∃ e', dx = .slice e') ∨ dx = .string) (hi : P.info? e = some i)
  {w : World} {A : Option Addr} {sLen sCap : Nat} {x : Value} (hl : (Builtin.lenOf x).run P w = .ok 0 w) (hf : (Builtin.firstCells i.size 0 x).run P w = .ok #[] w) (hc : sLen ≤ sCap) :
  (Builtin.append_ #[t, tx] ty #[.slice A sLen sCap, x]).run P w = .ok (.slice A sLen sCap) w := by
 rcases hdx with ⟨e', rfl⟩ | rfl <;> cases A <;> simp [Builtin.append_, run_underlying ht, run_underlying htx, sizeOf, typeInfo, hi, hl, hf, hc, storeCells]

theorem run_app_grow {t tx ty e : TypeId} {dx : TypeDesc} {i : TypeInfo} {z : Value} (ht : P.underlying t = some (.slice e)) (htx : P.underlying tx = some dx) (hdx : (∃ e', dx = .slice e') ∨ dx = .string) (hi : P.info? e = some i) (hz : i.zero = some z)
  {w : World} {A : Option Addr} {sLen sCap : Nat} {x : Value} {m : Nat} {olds news : List Value} (hl : (Builtin.lenOf x).run P w = .ok m w) (ho : (Builtin.firstCells i.size sLen (.slice A sLen sCap)).run P w.drew = .ok olds.toArray w.drew) (hf : (Builtin.firstCells i.size m x).run P w.drew = .ok news.toArray w.drew)
  (hg : sCap < sLen + m) (h63 : ((sLen + m : Nat) : Int) ≤ 9223372036854775807) (hfit : Builtin.nextslicecap (sLen + m) sCap * i.bytes ≤ 281474976710656) :
  (Builtin.append_ #[t, tx] ty #[.slice A sLen sCap, x]).run P w =
   .ok (.slice (some ⟨w.heap.size, 0, none⟩) (sLen + m) (grownCap w (sLen + m) sCap e)) (w.drew.alloc (.cells (olds.toArray ++ news.toArray ++ Builtin.zeroCells z.cells (grownCap w (sLen + m) sCap e - (sLen + m))) e)) := by
 have h1 : ¬ (sLen + m ≤ sCap) := by omega
 have h2 : ¬ (9223372036854775807 < ((sLen + m : Nat) : Int)) := by omega
 have h3 : ¬ (281474976710656 < Builtin.nextslicecap (sLen + m) sCap * i.bytes) := by omega
 have h2' : ¬ (9223372036854775807 < (sLen : Int) + (m : Int)) := by omega
 have hq : (Question.appendCap (sLen + m) sCap e).forced = false := rfl
 rcases hdx with ⟨e', rfl⟩ | rfl
 all_goals
  simp [Builtin.append_, run_underlying ht, run_underlying htx, sizeOf, typeInfo, zeroValue, hi, hz, hl, h1, h2', h3, Question.forced, hf, ho, newRow, grownCap]
  congr 2
  apply Array.ext'
  simp [List.append_assoc]
end
end Go.Proofs.Ytpggknkhldecaaa.Abs
end
section
namespace Go.Proofs.Ytpggknkhldecaaa.Abs

section
variable {P : Program} {tm : List (Nat × AV)} {h : Heap} {nx : Nat}

def SrcOK (P : Program) (tm : List (Nat × AV)) (h : Heap) (nx : Nat) (y : Operand) (sz : Nat) (ys : List AV) : Prop :=
 (∀ z ∈ ys, z.cells.length = sz) ∧ ∀ (c : Ctx) (n : Nat) (ρ : Rho) (S : Nat → Prop) (a : Act) (w : World), Rep c n ⟨tm, h, nx⟩ ρ S a w → ∃ news : List Value, (Builtin.lenOf (a.eval y)).run P w = .ok ys.length w ∧
  (Builtin.firstCells sz ys.length (a.eval y)).run P w = .ok news.toArray w ∧ (Builtin.firstCells sz ys.length (a.eval y)).run P w.drew = .ok news.toArray w.drew ∧
  news.length = ys.length * sz ∧ (∀ u ∈ news, u.oneCell' = true) ∧ ∀ (j : Nat) (x : AV) (u : Value), (flat ys)[j]? = some x → news[j]? = some u → VR S w ρ x u

theorem SrcA.ok {y : Operand} {x : AV} {sz : Nat} {ys : List AV} (hs : SrcA h x sz ys) (hy : oev tm y = x) (hz : ∀ z ∈ ys, z.cells.length = sz) : SrcOK P tm h nx y sz ys := ⟨hz, fun c n ρ S a w hr => by
 obtain ⟨A, cp, news, h1, h2, h3, h4, h5, h6, h7⟩ := hs.read hr (ev_vr hr hy)
 refine ⟨news, by rw [h1]; rfl, ?_, ?_, h3, h6, h7⟩
 ·rw [h1]
  cases ys with
  | nil =>
   have : news = [] := List.eq_nil_of_length_eq_zero (by simpa using h3)
   subst this
   cases A <;> simp [Builtin.firstCells, loadCells, loadCellsFrom]
  | cons z zs =>
   obtain ⟨blk, off, rfl, hc⟩ := h5 (by simp)
   exact run_firstCells_some w sz _ _ _ _ news h3 (fun j v hj => by rw [Addr.add_lit]; exact hc j v hj)
 ·rw [h1]
  cases ys with
  | nil =>
   have : news = [] := List.eq_nil_of_length_eq_zero (by simpa using h3)
   subst this
   cases A <;> simp [Builtin.firstCells, loadCells, loadCellsFrom]
  | cons z zs =>
   obtain ⟨blk, off, rfl, hc⟩ := h5 (by simp)
   exact run_firstCells_some w.drew sz _ _ _ _ news h3 (fun j v hj => by rw [Addr.add_lit]; exact hc j v hj)⟩

abbrev bl (l : List UInt8) : List AV := l.map fun b => .int .u8 b.toNat

theorem flat_bl (l : List UInt8) : flat (bl l) = bl l := by
 unfold flat bl
 induction l with
 | nil => rfl
 | cons b l ih => rw [List.map_cons, List.flatMap_cons, ih]; rfl

theorem SrcStr.ok {y : Operand} {l : List UInt8} (hy : oev tm y = sb l) : SrcOK P tm h nx y 1 (bl l) := ⟨fun z hz => by
  obtain ⟨b, _, rfl⟩ := List.mem_map.1 hz
  rfl, fun c n ρ S a w hr => by
 have e := ev_str hr hy
 have hext : (ByteArray.mk l.toArray).extract 0 l.length = ⟨l.toArray⟩ := by
  apply ByteArray.ext
  rw [ByteArray.data_extract]
  simp
 refine ⟨l.map (fun b => Value.int .u8 b.toNat), ?_, ?_, ?_, by simp, fun u hu => ?_, fun j x u hx hu => ?_⟩
 ·rw [e, List.length_map]; show Result.ok l.toArray.size w = _; rw [List.size_toArray]
 ·rw [e]; simp only [Builtin.firstCells, List.length_map, hext]; simp
 ·rw [e]; simp only [Builtin.firstCells, List.length_map, hext]; simp
 ·obtain ⟨b, _, rfl⟩ := List.mem_map.1 hu; rfl
 ·rw [flat_bl, List.getElem?_map] at hx
  rw [List.getElem?_map] at hu
  obtain ⟨b, hb, rfl⟩ := Option.map_eq_some_iff.1 hx
  rw [hb] at hu
  obtain rfl := Option.some.inj hu
  exact .int⟩

theorem zeroCells_one {z : Array Value} {n : Nat} (hz : ∀ (i : Nat) (u : Value), z[i]? = some u → u.oneCell' = true) {j : Nat} {u : Value} (hu : (Builtin.zeroCells z n)[j]? = some u) : u.oneCell' = true := by
 have hj : j < n * z.size := by
  have := (Array.getElem?_eq_some_iff.1 hu).1
  rwa [size_zeroCells] at this
 have hs : 0 < z.size := by
  rcases Nat.eq_zero_or_pos z.size with h | h
  ·rw [h] at hj; omega
  ·exact h
 have hm : j % z.size < z.size := Nat.mod_lt _ hs
 simp only [Builtin.zeroCells, Array.getElem?_map, Array.getElem?_range, hj, if_true, Option.map_some, Option.some.injEq] at hu
 rw [getElem!_pos z (j % z.size) hm] at hu
 exact hz (j % z.size) u (by rw [← hu]; simp [hm])

theorem app_gen {t tx e : TypeId} {dx : TypeDesc} {z : Value} {bytes : Nat} {x y : Operand} {T : AV} {len sz : Nat} {xs ys : List AV} {h2 : Heap} (ht : P.underlying t = some (.slice e)) (htx : P.underlying tx = some dx) (hdx : (∃ e', dx = .slice e') ∨ dx = .string)
  (hi : (P.info? e).map (fun i => (i.zero, i.size, i.bytes)) = some (some z, sz, bytes)) (hzs : z.cells.size = sz) (hz1 : ∀ (i : Nat) (u : Value), z.cells[i]? = some u → u.oneCell' = true)
  (hx : oev tm x = T) (hT : (T = .nils ∧ xs = [] ∧ len = 0 ∧ ∀ k X, hget h2 k = some X → hget h k = some X) ∨ ∃ b, T = .own b 0 len ∧ hget h b = some (.cells sz xs) ∧ len ≤ xs.length ∧ ∀ k X, hget h2 k = some X → k ≠ b ∧ hget h k = some X)
  (hy : SrcOK P tm h nx y sz ys) (hb1 : (len + ys.length) * bytes ≤ 140737488355328) (hb2 : len + ys.length ≤ 9223372036854775807) :
  OpOK P (.call { callee := .builtin .append, args := #[x, y], argTypes := #[t, tx] }) ⟨tm, h, nx⟩ (.own nx 0 (len + ys.length)) ((nx, .cells sz (xs.take len ++ ys)) :: h2) (nx + 1) := OpOK.of fun c n ρ S a w hr => by
 obtain ⟨i, e1, e2⟩ := Option.map_eq_some_iff.1 hi
 obtain ⟨e3, e4, e5⟩ : i.zero = some z ∧ i.size = sz ∧ i.bytes = bytes := by
  have := e2; simp only [Prod.mk.injEq] at this; exact this
 obtain ⟨hsz, hyy⟩ := hy
 obtain ⟨news, n1, n2, n3, n4, n5, n6⟩ := hyy c n ρ S a w hr
 have hv := ev_vr hr hx
 have hh2 : ∀ k X, hget h2 k = some X → hget h k = some X := by
  rcases hT with ⟨_, _, _, h⟩ | ⟨b, _, _, _, h⟩
  ·exact h
  ·exact fun k X hk => (h k X hk).2
 obtain ⟨A, cp, olds, t1, t2, t3, t4, t5, t6, t7, t8⟩ : ∃ (A : Option Addr) (cp : Nat) (olds : List Value), a.eval x = .slice A len cp ∧ len ≤ cp ∧ olds.length = len * sz ∧ (∀ u ∈ olds, u.oneCell' = true) ∧
   (Builtin.firstCells sz len (.slice A len cp)).run P w.drew = .ok olds.toArray w.drew ∧ (∀ (j : Nat) (y : AV) (u : Value), (flat (xs.take len))[j]? = some y → olds[j]? = some u → VR S w ρ y u) ∧ (∀ q ∈ xs.take len, q.cells.length = sz) ∧
   ((len = 0 ∧ cp = 0) ∨ ∃ b r cur el, hget h b = some (.cells sz xs) ∧ (∀ k X, hget h2 k = some X → k ≠ b ∧ hget h k = some X) ∧ ρ b = some r ∧ A = some ⟨r.blk, 0, none⟩ ∧ w.heap[r.blk]? = some (.cells cur el (0, 0)) ∧ cur.size = r.cap * sz ∧ cp = r.cap ∧ r.cap ≤ maxLen ∧ r.sz = sz ∧ olds = cur.toList.take (len * sz) ∧ (∀ (i : Nat) (u : Value), cur[i]? = some u → u.oneCell' = true)) := by
  rcases hT with ⟨rfl, rfl, rfl, _⟩ | ⟨b, rfl, hb, hl, hd⟩
  ·generalize a.eval x = v at hv
   cases hv with
   | nils => exact ⟨_, _, [], rfl, Nat.le_refl _, by simp, fun u hu => by simp at hu, by simp [Builtin.firstCells], fun j y u hy hu => by simp at hu, fun q hq => by simp at hq, .inl ⟨rfl, rfl⟩⟩
  ·generalize a.eval x = v at hv
   cases hv with
   | @own0 _ _ _ A =>
    exact ⟨A, 0, [], rfl, Nat.le_refl _, by simp, fun u hu => by simp at hu, by cases A <;> simp [Builtin.firstCells, loadCells, loadCellsFrom], fun j y u hy hu => by simp at hu, fun q hq => by simp at hq, .inl ⟨rfl, rfl⟩⟩
   | @own _ _ _ _ r cp q1 q2 q3 =>
    rw [Nat.zero_add] at q3
    obtain ⟨g1, g2, k1, k2, k3, k4, cur, el, k5, k6, k7, k8⟩ := blk_of hr hb q1
    have hm : len * sz ≤ cur.size := by rw [k6]; exact Nat.mul_le_mul_right _ (by omega)
    have hol : (cur.toList.take (len * sz)).length = len * sz := by rw [List.length_take, Array.length_toList]; omega
    refine ⟨some ⟨r.blk, 0, none⟩, cp, cur.toList.take (len * sz), by rw [Nat.zero_mul], q2, hol, fun u hu => ?_, ?_, fun j y u hy hu => ?_, fun q hq => k2 q (List.mem_of_mem_take hq), .inr ⟨b, r, cur, el, hb, hd, q1, rfl, k5, k6, q3, k4, k1, rfl, k7⟩⟩
    ·obtain ⟨j, hj⟩ := List.getElem?_of_mem (List.mem_of_mem_take hu)
     rw [Array.getElem?_toList] at hj
     exact k7 j u hj
    ·refine run_firstCells_some w.drew sz len ⟨r.blk, 0, none⟩ len cp _ hol (fun j v hj => ?_)
     have hjl : j < len * sz := by
      rcases Nat.lt_or_ge j (len * sz) with hh | hh
      ·exact hh
      ·rw [List.getElem?_take, if_neg (by omega)] at hj; cases hj
     rw [List.getElem?_take_of_lt hjl, Array.getElem?_toList] at hj
     rw [Addr.add_lit, Nat.zero_add]
     show w.cell? ⟨r.blk, j, none⟩ = some v
     rw [cell_of k5]
     exact hj
    ·have hjl : j < len * sz := by
      rcases Nat.lt_or_ge j (len * sz) with hh | hh
      ·exact hh
      ·rw [List.getElem?_take, if_neg (by omega)] at hu; cases hu
     rw [List.getElem?_take_of_lt hjl, Array.getElem?_toList] at hu
     have := flat_get k2 0 len j (by omega) hjl
     rw [List.drop_zero, Nat.zero_mul, Nat.zero_add] at this
     rw [this] at hy
     exact k8 j y u hy hu
 have hxl : (xs.take len).length = len := by
  rcases hT with ⟨_, rfl, rfl, _⟩ | ⟨b, _, _, hl, _⟩
  ·rfl
  ·rw [List.length_take]; omega
 have hall : ∀ q ∈ xs.take len ++ ys, q.cells.length = sz := fun q hq => (List.mem_append.1 hq).elim (t7 q) (hsz q)
 have hlen : (xs.take len ++ ys).length = len + ys.length := by rw [List.length_append, hxl]
 have hfl : (flat (xs.take len)).length = len * sz := by rw [flat_len t7, hxl]
 have hcells : ∀ (cs : Array Value), (∀ j, j < (len + ys.length) * sz → cs[j]? = (olds ++ news)[j]?) → ∀ (j : Nat) (q : AV) (u : Value), (flat (xs.take len ++ ys))[j]? = some q → cs[j]? = some u → VR S w ρ q u := by
  intro cs hcs j q u hq hu
  have hj : j < (len + ys.length) * sz := by
   have := (List.getElem?_eq_some_iff.1 hq).1
   rwa [flat_len hall, hlen] at this
  rw [hcs j hj] at hu
  rw [flat_append] at hq
  rcases Nat.lt_or_ge j (len * sz) with h1 | h1
  ·rw [List.getElem?_append_left (by omega)] at hq hu
   exact t6 j q u hq hu
  ·rw [List.getElem?_append_right (by omega)] at hq hu
   rw [hfl] at hq
   rw [t3] at hu
   exact n6 _ q u hq hu
 have hexec : ∀ (v : Value) (w' : World), (Builtin.append_ #[t, tx] 0 #[.slice A len cp, a.eval y]).run P w = .ok v w' → ∀ o : Oper, o.op = .call { callee := .builtin .append, args := #[x, y], argTypes := #[t, tx] } → (execOp a.eval o).run P w = .ok (.value v) w' := by
  intro v w' hrun o ho
  unfold execOp; rw [ho]
  simp only [resolve, invoke, builtin, Sem.run_bind, Sem.run_pure, Result.andThen_ok, List.map_toArray, List.map_cons, List.map_nil, t1]
  have : Builtin.append_ #[t, tx] o.type #[.slice A len cp, a.eval y] = Builtin.append_ #[t, tx] 0 #[.slice A len cp, a.eval y] := rfl
  rw [this, hrun]
  rfl
 rw [← e4] at n2 n3 t5
 have grow : cp < len + ys.length → ∃ nxt u w' ρ' S', (∀ o : Oper, o.op = .call { callee := .builtin .append, args := #[x, y], argTypes := #[t, tx] } → (execOp a.eval o).run P w = .ok nxt w') ∧ (nxt = .value u ∨ nxt = .skip ∧ u = undef) ∧
   Rep c n ⟨tm, (nx, .cells sz (xs.take len ++ ys)) :: h2, nx + 1⟩ ρ' S' a w' ∧ VR S' w' ρ' (.own nx 0 (len + ys.length)) u ∧ (∀ b r, ρ b = some r → ρ' b = some r) ∧ ∀ b, S b → S' b ∧ w'.heap[b]? = w.heap[b]? := by
  intro hg
  have hge := grownCap_ge w (len + ys.length) cp e
  have hcm := grownCap_le_maxLen w (len + ys.length) cp e (by unfold maxLen; omega)
  have hrun := run_app_grow (ty := 0) ht htx hdx e1 e3 n1 t5 n3 hg (by omega) (growslice_fits hg (by rw [e5]; exact hb1))
  have hcs : (olds.toArray ++ news.toArray ++ Builtin.zeroCells z.cells (grownCap w (len + ys.length) cp e - (len + ys.length))).size = grownCap w (len + ys.length) cp e * sz := by
   simp only [Array.size_append, List.size_toArray, size_zeroCells, hzs, t3, n4, ← Nat.add_mul]
   congr 1
   omega
  have hgt : ∀ j, j < (len + ys.length) * sz → (olds.toArray ++ news.toArray ++ Builtin.zeroCells z.cells (grownCap w (len + ys.length) cp e - (len + ys.length)))[j]? = (olds ++ news)[j]? := by
   intro j hj
   rw [Array.getElem?_append_left (by simp only [Array.size_append, List.size_toArray, t3, n4, ← Nat.add_mul]; exact hj)]
   simp
  refine ⟨_, _, _, _, S, hexec _ _ hrun, .inl rfl, hr.newBlk (Same.drew w) _ e (grownCap w (len + ys.length) cp e) sz (xs.take len ++ ys) hall (by rw [hlen]; exact hge) hcm hcs (fun j u hu => ?_) (hcells _ hgt) hh2, .own_at0 (upd_self _ _ _) hge rfl, upd_ext hr _, alloc_ext hr (Same.drew w) _⟩
  rcases Nat.lt_or_ge j ((len + ys.length) * sz) with h1 | h1
  ·rw [hgt j h1] at hu
   exact (List.mem_append.1 (List.mem_of_getElem? hu)).elim (t4 u) (n5 u)
  ·rw [Array.getElem?_append_right (by simp only [Array.size_append, List.size_toArray, t3, n4, ← Nat.add_mul]; exact h1)] at hu
   exact zeroCells_one hz1 hu
 by_cases hm : cp < len + ys.length
 ·exact grow hm
 have hroom : len + ys.length ≤ cp := by omega
 rcases t8 with ⟨rfl, rfl⟩ | ⟨b, r, cur, el, hb, hd, hq, rfl, k5, k6, k3, k4, k1, holds, k7⟩
 ·-- nothing was there and nothing comes
  have hye : ys.length = 0 := by omega
  have hys : ys = [] := List.eq_nil_of_length_eq_zero hye
  subst hys
  have hnn : news = [] := List.eq_nil_of_length_eq_zero (by simpa using n4)
  subst hnn
  have hrun := run_app_none (ty := 0) ht htx hdx e1 (A := A) (sLen := 0) (sCap := 0) n1 n2 (Nat.le_refl _)
  refine ⟨_, _, w, ρ, S, hexec _ _ hrun, .inl rfl, ?_, .own0, fun _ _ h => h, fun _ h => ⟨h, rfl⟩⟩
  simp only [List.take_zero, List.append_nil]
  refine ⟨hr.size, hr.defers, hr.tmps, ⟨fun k X hk => ?_, fun k k' X X' q q' hk hk' hq hq' hne => ?_, hr.sim.lt⟩, ?_, fun k hk => hr.fresh k (by have : nx + 1 ≤ k := hk; show nx ≤ k; omega), Nat.le_succ_of_le hr.le, fun k X hk => ?_⟩
  ·simp only [hget] at hk
   by_cases e : nx = k
   ·subst e
    rw [if_pos rfl] at hk
    obtain rfl := Option.some.inj hk
    exact .inr ⟨hr.fresh nx (Nat.le_refl _), sz, rfl⟩
   ·rw [if_neg e] at hk
    exact hr.sim.blk k X (hh2 k X hk)
  ·simp only [hget] at hk hk'
   by_cases e : nx = k
   ·subst e; rw [hr.fresh nx (Nat.le_refl _)] at hq; cases hq
   ·by_cases e' : nx = k'
    ·subst e'; rw [hr.fresh nx (Nat.le_refl _)] at hq'; cases hq'
    ·rw [if_neg e] at hk
     rw [if_neg e'] at hk'
     exact hr.sim.inj k k' X X' q q' (hh2 k X hk) (hh2 k' X' hk') hq hq' hne
  ·refine ⟨hr.post.os, hr.post.tape, hr.post.output, hr.post.size, hr.post.keep, hr.post.sIn, hr.post.sNew, fun k X q hk hq => ?_, hr.post.ids⟩
   simp only [hget] at hk
   by_cases e : nx = k
   ·subst e; rw [hr.fresh nx (Nat.le_refl _)] at hq; cases hq
   ·rw [if_neg e] at hk; exact hr.post.own k X q (hh2 k X hk) hq
  ·simp only [hget] at hk
   by_cases e : nx = k
   ·show k < nx + 1; omega
   ·rw [if_neg e] at hk
    exact Nat.lt_succ_of_lt (hr.dom k X (hh2 k X hk))
 ·-- it fits where it is
  obtain ⟨g1, g2, _⟩ := blk_of hr hb hq
  have hcap : (len + ys.length) * sz ≤ cur.size := by rw [k6]; exact Nat.mul_le_mul_right _ (by omega)
  have hsum : (len + ys.length) * sz = len * sz + ys.length * sz := Nat.add_mul _ _ _
  have hrun := run_app_room (ty := 0) ht htx hdx e1 k5 n1 n2 n5 hroom (by rw [e4, n4]; omega)
  rw [e4] at hrun
  generalize hcs : (cur.toList.take (len * sz) ++ news ++ cur.toList.drop (len * sz + news.length)).toArray = cs at hrun
  have hcsz : cs.size = r.cap * sz := by
   rw [← hcs, List.size_toArray, List.length_append, List.length_append, List.length_take, List.length_drop, Array.length_toList, n4]; omega
  have hgt : ∀ j, j < (len + ys.length) * sz → cs[j]? = (olds ++ news)[j]? := by
   intro j hj
   rw [← hcs, List.getElem?_toArray, List.getElem?_append_left (by rw [List.length_append, List.length_take, Array.length_toList, n4]; omega), ← holds]
  have hgone : ∀ (j : Nat) (u : Value), cs[j]? = some u → u.oneCell' = true := by
   intro j u hu
   rw [← hcs, List.getElem?_toArray] at hu
   rcases List.mem_append.1 (List.mem_of_getElem? hu) with h1 | h1
   ·rcases List.mem_append.1 h1 with h2 | h2
    ·exact t4 u (holds ▸ h2)
    ·exact n5 u h2
   ·obtain ⟨i, hi⟩ := List.getElem?_of_mem (List.mem_of_mem_drop h1)
    rw [Array.getElem?_toList] at hi
    exact k7 i u hi
  have hS : ∀ k, S k → S k ∧ (w.setRow r.blk cs).heap[k]? = w.heap[k]? := fun k hk => ⟨hk, setRow_other w r.blk k cs (fun e => g1 (e ▸ hk))⟩
  have hwsz : (w.setRow r.blk cs).heap.size = w.heap.size := by simp [World.setRow]
  have hup : ∀ k q, ρ k = some q → upd ρ nx r k = some q := fun k q hk => by
   unfold upd
   rw [if_neg (by have := hr.known hk; exact Nat.ne_of_lt this)]
   exact hk
  refine ⟨_, .slice (some ⟨r.blk, 0, none⟩) (len + ys.length) cp, w.setRow r.blk cs, upd ρ nx r, S, hexec _ _ hrun, .inl rfl, ?_, .own_at0 (upd_self _ _ _) hroom k3, hup, hS⟩
  refine hr.turn nx r (.cells sz (xs.take len ++ ys)) (upd ρ nx r) ((nx, .cells sz (xs.take len ++ ys)) :: h2) (nx + 1) rfl rfl rfl (Nat.le_of_eq hwsz.symm) (fun k _ hk => setRow_other w r.blk k cs hk) (fun k hk => by unfold upd; rw [if_neg (Nat.ne_of_lt hk)]) (Nat.le_succ _) (upd_self _ _ _)
   ⟨k1, hall, by rw [hlen]; omega, k4, cs, el, setRow_heap w r.blk cur cs el _ k5, hcsz, hgone, fun j q u hq hu => (hcells cs hgt j q u hq hu).mono hS hup⟩ (by rw [hwsz]; exact g2) g1 (hr.post.own b _ r hb hq) ?_ ?_ ?_ (Nat.lt_succ_self _)
  ·intro k X hk
   simp only [hget] at hk
   by_cases e : nx = k
   ·subst e; rw [if_pos rfl] at hk; exact .inl ⟨rfl, (Option.some.inj hk).symm⟩
   ·rw [if_neg e] at hk; exact .inr ⟨fun e' => e e'.symm, hh2 k X hk⟩
  ·intro k X q hk hX hq'
   simp only [hget] at hX
   rw [if_neg (fun e => hk e.symm)] at hX
   exact hr.sim.inj k b X _ q r (hd k X hX).2 hb hq' hq (hd k X hX).1
  ·intro k hk
   unfold upd
   rw [if_neg (by omega)]
   exact hr.fresh k (by show nx ≤ k; omega)

end
end Go.Proofs.Ytpggknkhldecaaa.Abs
end
section
namespace Go.Proofs.Ytpggknkhldecaaa.Abs

def Cs (S : Nat → Prop) (w : World) (ρ : Rho) (cs : List AV) (us : Array Value) : Prop :=
 cs.length = us.size ∧ (∀ (i : Nat) (u : Value), us[i]? = some u → u.oneCell' = true) ∧ ∀ (i : Nat) (x : AV) (u : Value), cs[i]? = some x → us[i]? = some u → VR S w ρ x u

theorem foldl_set (off : Nat) : ∀ (l : List Value) (k : Nat) (cs : Array Value), off + k + l.length ≤ cs.size →
  ((l.zipIdx k).foldl (fun cs (c, j) => cs.setIfInBounds (off + j) c) cs).size = cs.size ∧
  ∀ i, ((l.zipIdx k).foldl (fun cs (c, j) => cs.setIfInBounds (off + j) c) cs)[i]? = if off + k ≤ i ∧ i < off + k + l.length then l[i - (off + k)]? else cs[i]? := by
 intro l
 induction l with
 | nil => intro k cs _; exact ⟨rfl, fun i => by rw [if_neg (by simp)]; rfl⟩
 | cons v l ih =>
  intro k cs hk
  rw [List.length_cons] at hk
  obtain ⟨h1, h2⟩ := ih (k + 1) (cs.setIfInBounds (off + k) v) (by simp; omega)
  simp only [List.zipIdx_cons, List.foldl_cons]
  refine ⟨by rw [h1]; simp, fun i => ?_⟩
  rw [h2 i, List.length_cons]
  by_cases e1 : i = off + k
  ·subst e1
   rw [if_neg (by omega), if_pos (by omega), Nat.sub_self, List.getElem?_cons_zero]
   simp [show off + k < cs.size from by omega]
  ·by_cases e2 : off + (k + 1) ≤ i ∧ i < off + (k + 1) + l.length
   ·rw [if_pos e2, if_pos (by omega), show i - (off + k) = (i - (off + (k + 1))) + 1 from by omega, List.getElem?_cons_succ]
   ·rw [if_neg e2, if_neg (by omega), Array.getElem?_setIfInBounds_ne (fun e => e1 e.symm)]

theorem fill_step {S : Nat → Prop} {w : World} {ρ : Rho} {cs cs' : List AV} {us : Array Value} (h : Cs S w ρ cs us) {off : Nat} {x : AV} {v : Value} (hv : VR S w ρ x v) (hk : x.known = true) (hs : spl cs off x.cells = some cs') :
  ¬ (off + v.cells.size > us.size) ∧ v.cells.size = x.cells.length ∧ Cs S w ρ cs' (v.cells.zipIdx.foldl (fun cs (c, j) => cs.setIfInBounds (off + j) c) us) := by
 obtain ⟨v1, v2, v3⟩ := hv.cells hk
 obtain ⟨s1, s2, s3⟩ := spl_spec _ _ _ _ hs
 obtain ⟨h1, h2, h3⟩ := h
 have hfit : off + v.cells.size ≤ us.size := by rw [v1, ← h1]; exact s2
 obtain ⟨f1, f2⟩ := foldl_set off v.cells.toList 0 us (by rw [Array.length_toList]; omega)
 have e : v.cells.zipIdx.foldl (fun cs (c, j) => cs.setIfInBounds (off + j) c) us = (v.cells.toList.zipIdx 0).foldl (fun cs (c, j) => cs.setIfInBounds (off + j) c) us := by
  rw [← Array.foldl_toList, Array.toList_zipIdx]
 rw [e]
 refine ⟨by omega, v1, by rw [s1, h1, f1], fun i u hu => ?_, fun i y u hy hu => ?_⟩
 ·rw [f2 i] at hu
  split at hu
  ·rw [Array.getElem?_toList] at hu; exact v2 _ u hu
  ·exact h2 i u hu
 ·rw [f2 i, Array.length_toList] at hu
  rw [s3 i] at hy
  rw [Nat.add_zero, v1] at hu
  split at hu
  ·rename_i hc
   rw [if_pos hc] at hy
   rw [Array.getElem?_toList] at hu
   exact v3 _ y u hy hu
  ·rename_i hc
   rw [if_neg hc] at hy
   exact h3 i y u hy hu

def fillA : List AV → List (Nat × AV) → Option (List AV)
 | cs, [] => some cs
 | cs, (off, x) :: ps => match spl cs off x.cells with
  | some cs' => fillA cs' ps
  | none => none

theorem fill_run {S : Nat → Prop} {w : World} {ρ : Rho} (place : Nat → Option (Nat × Nat)) : ∀ (ps : List (Nat × AV)) (qs : List (Nat × Value)) (cs cs' : List AV) (us : Array Value), Cs S w ρ cs us → fillA cs ps = some cs' → qs.length = ps.length →
  (∀ (i : Nat) (p : Nat × AV) (q : Nat × Value), ps[i]? = some p → qs[i]? = some q → place q.1 = some (p.1, p.2.cells.length) ∧ VR S w ρ p.2 q.2 ∧ p.2.known = true) → ∃ us', Instr.fill place us qs = some us' ∧ Cs S w ρ cs' us' := by
 intro ps
 induction ps with
 | nil =>
  intro qs cs cs' us h hf hl _
  obtain rfl : qs = [] := List.eq_nil_of_length_eq_zero hl
  simp only [fillA, Option.some.injEq] at hf
  subst hf
  exact ⟨us, rfl, h⟩
 | cons p ps ih =>
  intro qs cs cs' us h hf hl hp
  cases qs with
  | nil => simp at hl
  | cons q qs =>
   obtain ⟨off, x⟩ := p
   obtain ⟨i, v⟩ := q
   obtain ⟨p1, p2, p3⟩ := hp 0 _ _ rfl rfl
   dsimp only at p1 p2 p3
   simp only [fillA] at hf
   cases hs : spl cs off x.cells with
   | none => rw [hs] at hf; cases hf
   | some c1 =>
    rw [hs] at hf
    obtain ⟨g1, g2, g3⟩ := fill_step h p2 p3 hs
    obtain ⟨us', e1, e2⟩ := ih qs c1 cs' _ g3 hf (by simpa using hl) (fun j p q a b => hp (j + 1) p q a b)
    refine ⟨us', ?_, e2⟩
    simp only [Instr.fill, p1]
    have g2' : v.cells.size = x.cells.length := g2
    rw [if_neg (by simp only [g2']; simp; omega)]
    exact e1

section
variable {P : Program} {tm : List (Nat × AV)} {h : Heap} {nx : Nat}

inductive Parts (P : Program) (tm : List (Nat × AV)) (fs : Array Field) : List (Nat × Operand) → List (Nat × AV) → Prop
 | nil : Parts P tm fs [] []
 | cons {i : Nat} {x : Operand} {f : Field} {v : AV} {l : List (Nat × Operand)} {ps : List (Nat × AV)} (hf : fs[i]? = some f) (hx : oev tm x = v) (hz : (P.info? f.type).map (·.size) = some v.cells.length) (hk : v.known = true) (ht : Parts P tm fs l ps) : Parts P tm fs ((i, x) :: l) ((f.offset, v) :: ps)

theorem Parts.spec {fs : Array Field} {l : List (Nat × Operand)} {ps : List (Nat × AV)} (hp : Parts P tm fs l ps) : l.length = ps.length ∧ ∀ (j : Nat) (q : Nat × Operand) (p : Nat × AV), l[j]? = some q → ps[j]? = some p → ∃ f, fs[q.1]? = some f ∧ oev tm q.2 = p.2 ∧ f.offset = p.1 ∧ (P.info? f.type).map (·.size) = some p.2.cells.length ∧ p.2.known = true := by
 induction hp with
 | nil => exact ⟨rfl, fun j q p hq => by simp at hq⟩
 | cons hf hx hz hk ht ih =>
  refine ⟨by simp [ih.1], fun j q p hq hp => ?_⟩
  cases j with
  | zero =>
   simp only [List.getElem?_cons_zero, Option.some.injEq] at hq hp
   subst hq; subst hp
   exact ⟨_, hf, hx, rfl, hz, hk⟩
  | succ j => simp only [List.getElem?_cons_succ] at hq hp; exact ih.2 j q p hq hp

theorem run_mapM_places (P : Program) (w : World) : ∀ (fs : List Field), (∀ f ∈ fs, ∃ n, (P.info? f.type).map (·.size) = some n) → ∃ pl : List (Nat × Nat), (fs.mapM fun (f : Field) => do pure (f.offset, ← sizeOf f.type) : Sem (List (Nat × Nat))).run P w = .ok pl w ∧ pl.length = fs.length ∧
  ∀ (i : Nat) (f : Field), fs[i]? = some f → ∃ n, (P.info? f.type).map (·.size) = some n ∧ pl[i]? = some (f.offset, n) := by
 intro fs
 induction fs with
 | nil => intro _; exact ⟨[], by simp, rfl, fun i f hf => by simp at hf⟩
 | cons f fs ih =>
  intro hall
  obtain ⟨n, hn⟩ := hall f List.mem_cons_self
  obtain ⟨pl, h1, h2, h3⟩ := ih (fun g hg => hall g (List.mem_cons_of_mem _ hg))
  refine ⟨(f.offset, n) :: pl, ?_, by simp [h2], fun i g hg => ?_⟩
  ·simp only [List.mapM_cons, Sem.run_bind, run_sizeOf hn, Result.andThen_ok, Sem.run_pure, h1]
  ·cases i with
   | zero => simp only [List.getElem?_cons_zero, Option.some.injEq] at hg; subst hg; exact ⟨n, hn, rfl⟩
   | succ i => simp only [List.getElem?_cons_succ] at hg ⊢; exact h3 i g hg

theorem op_build {t : TypeId} {parts : Array (Nat × Operand)} {fs : Array Field} {z : Array Value} {zs : List AV} {ps : List (Nat × AV)} {cs : List AV} (hu : P.underlying t = some (.struct fs)) (hz : (P.info? t).map (·.zero) = some (some (.agg z))) (hz1 : ofConst (.agg z) = .agg zs) (hzk : zs.all AV.one = true)
  (hall : ∀ f ∈ fs.toList, ∃ n, (P.info? f.type).map (·.size) = some n) (hp : Parts P tm fs parts.toList ps) (hf : fillA zs ps = some cs) : OpP P (.build t parts) tm h (.agg cs) := fun c n nx ρ S a w hr => by
 obtain ⟨i, e1, e2⟩ := Option.map_eq_some_iff.1 hz
 have hzv : VR S w ρ (.agg zs) (.agg z) := hz1 ▸ ofConst_VR S w ρ _
 obtain ⟨g1, g2, g3⟩ := hzv.cells (by simpa [AV.known] using hzk)
 have hcs : Cs S w ρ zs z := ⟨g1.symm, g2, g3⟩
 obtain ⟨q1, q2⟩ := hp.spec
 obtain ⟨pl, p1, p2, p3⟩ := run_mapM_places P w fs.toList hall
 obtain ⟨us, u1, u2⟩ := fill_run (S := S) (w := w) (ρ := ρ) (fun i => pl.toArray[i]?) ps (parts.toList.map fun p => (p.1, a.eval p.2)) zs cs z hcs hf (by simp [q1]) (fun j p q hj hq => by
  rw [List.getElem?_map] at hq
  obtain ⟨o, ho, rfl⟩ := Option.map_eq_some_iff.1 hq
  obtain ⟨f, f1, f2, f3, f4, f5⟩ := q2 j o p ho hj
  obtain ⟨m, m1, m2⟩ := p3 o.1 f (by rw [Array.getElem?_toList]; exact f1)
  rw [f4] at m1
  obtain rfl := Option.some.inj m1
  refine ⟨by show pl.toArray[o.1]? = _; rw [List.getElem?_toArray, m2, f3], ?_, f5⟩
  rw [← f2]
  exact hr.oev o.2)
 refine ⟨.agg us, fun o ho => ?_, .agg us u2.1 u2.2.2⟩
 unfold execOp; rw [ho]
 have hm : (fs.mapM fun (f : Field) => do pure (f.offset, ← sizeOf f.type) : Sem (Array (Nat × Nat))).run P w = .ok pl.toArray w := by
  rw [Array.mapM_eq_mapM_toList]
  simp only [Sem.run_map, p1, Result.andThen_ok]
 simp only [Instr.build, Sem.run_bind, zeroValue, typeInfo, run_program, Result.andThen_ok, e1, Sem.run_pure, e2, run_underlying hu, hm]
 have hl : (parts.map fun x => (x.fst, a.eval x.snd)).toList = parts.toList.map fun p => (p.1, a.eval p.2) := by simp
 rw [hl]
 simp only [Value.cells, u1, Sem.run_pure, Result.andThen_ok]

theorem spl_nil (l : List AV) : spl l 0 [] = some l := by cases l <;> rfl

theorem fillA_rows {sz : Nat} : ∀ (vs : List AV) (k : Nat) (pre : List AV), pre.length = k * sz → (∀ v ∈ vs, v.cells.length = sz) →
  fillA (pre ++ List.replicate (vs.length * sz) .top) ((vs.zipIdx k).map fun p => (p.2 * sz, p.1)) = some (pre ++ flat vs) := by
 intro vs
 induction vs with
 | nil => intro k pre _ _; simp [fillA, flat]
 | cons v vs ih =>
  intro k pre hpre hall
  have hv := hall v List.mem_cons_self
  have hspl : ∀ (pre v rest : List AV), spl (pre ++ List.replicate v.length .top ++ rest) pre.length v = some (pre ++ v ++ rest) := by
   intro pre v rest
   induction pre with
   | nil =>
    induction v with
    | nil => exact spl_nil _
    | cons x v ih => simp only [List.nil_append, List.length_nil, List.length_cons, List.replicate_succ, List.cons_append, spl] at ih ⊢; rw [ih]
   | cons p pre ih => simp only [List.cons_append, List.length_cons, spl] at ih ⊢; cases v <;> simp_all [spl]
  simp only [List.zipIdx_cons, List.map_cons, fillA]
  have e : pre ++ List.replicate ((v :: vs).length * sz) AV.top = pre ++ List.replicate v.cells.length .top ++ List.replicate (vs.length * sz) .top := by
   rw [List.append_assoc, List.replicate_append_replicate, hv, List.length_cons, Nat.add_mul, Nat.one_mul, Nat.add_comm]
  rw [e, ← hpre, hspl pre v.cells]
  simp only []
  have := ih (k + 1) (pre ++ v.cells) (by rw [List.length_append, hpre, hv, Nat.add_mul, Nat.one_mul]) (fun x hx => hall x (List.mem_cons_of_mem _ hx))
  rw [this, List.append_assoc]
  rfl

theorem bsl_raw {t e : TypeId} {len sz bytes : Nat} {parts : Array (Nat × Operand)} {z : Value} {vs : List AV} (hu : P.underlying t = some (.slice e)) (hi : (P.info? e).map (fun i => (i.zero, i.size, i.bytes)) = some (some z, sz, bytes)) (hzs : z.cells.size = sz) (hz1 : ∀ (i : Nat) (u : Value), z.cells[i]? = some u → u.oneCell' = true)
  (hs : 0 < sz) (hl : parts.toList.map (·.1) = List.range len) (hv : parts.toList.map (fun p => oev tm p.2) = vs) (hk : ∀ v ∈ vs, v.known = true ∧ v.cells.length = sz) (hsm : len * sz ≤ 16777216)
  {c : Ctx} {n nx : Nat} {ρ : Rho} {S : Nat → Prop} {a : Act} {w : World} (hr : Rep c n ⟨tm, h, nx⟩ ρ S a w) :
  ∃ us : Array Value, Cs S w ρ (flat vs) us ∧ us.size = len * sz ∧ vs.length = len ∧ ∀ o : Oper, o.op = .buildSlice t len parts → (execOp a.eval o).run P w = .ok (.value (.slice (some ⟨w.heap.size, 0, none⟩) len len)) (w.alloc (.cells us e)) := by
 obtain ⟨i, e1, e2⟩ := Option.map_eq_some_iff.1 hi
 obtain ⟨e3, e4, e5⟩ : i.zero = some z ∧ i.size = sz ∧ i.bytes = bytes := by
  have := e2; simp only [Prod.mk.injEq] at this; exact this
 have hlen : parts.toList.length = len := by
  have := congrArg List.length hl; simpa using this
 have hvl : vs.length = len := by rw [← hv, List.length_map, hlen]
 have hidx : ∀ (j : Nat) (q : Nat × Operand), parts.toList[j]? = some q → q.1 = j ∧ vs[j]? = some (oev tm q.2) := fun j q hq => by
  have h1 := congrArg (fun l => l[j]?) hl
  simp only [List.getElem?_map, hq, Option.map_some] at h1
  have hj : j < len := by rw [← hlen]; exact (List.getElem?_eq_some_iff.1 hq).1
  rw [List.getElem?_range hj] at h1
  refine ⟨Option.some.inj h1, ?_⟩
  rw [← hv, List.getElem?_map, hq]
  rfl
 have hcs : Cs S w ρ (List.replicate (vs.length * sz) .top) (madeCells z.cells (len * sz)) := by
  refine ⟨by rw [List.length_replicate, size_madeCells, hvl], fun j u hu => ?_, fun j x u hx hu => ?_⟩
  ·have hj : j < len * sz := by
    have := (Array.getElem?_eq_some_iff.1 hu).1
    rwa [size_madeCells] at this
   rw [madeCells_get hzs hs hj] at hu
   exact hz1 _ u hu
  ·obtain ⟨_, rfl⟩ := List.mem_replicate.1 (List.mem_of_getElem? hx)
   exact .top
 have hfill := fillA_rows vs 0 [] (by simp) (fun v hv => (hk v hv).2)
 simp only [List.nil_append] at hfill
 obtain ⟨us, u1, u2⟩ := fill_run (S := S) (w := w) (ρ := ρ) (fun i => some (i * sz, sz)) _ (parts.toList.map fun p => (p.1, a.eval p.2)) _ _ _ hcs hfill (by simp [hvl, hlen]) (fun j p q hj hq => by
  rw [List.getElem?_map] at hq
  obtain ⟨o, ho, rfl⟩ := Option.map_eq_some_iff.1 hq
  obtain ⟨d1, d2⟩ := hidx j o ho
  rw [List.getElem?_map, List.getElem?_zipIdx, d2, Nat.zero_add] at hj
  simp only [Option.map_some, Option.some.injEq] at hj
  subst hj
  have hm := List.mem_of_getElem? d2
  refine ⟨by rw [d1, (hk _ hm).2], hr.oev o.2, (hk _ hm).1⟩)
 have husz : us.size = len * sz := by rw [← u2.1, flat_len (fun v hv => (hk v hv).2), hvl]
 refine ⟨us, u2, husz, hvl, fun o ho => ?_⟩
 unfold execOp; rw [ho]
 have hl' : (parts.map fun x => (x.fst, a.eval x.snd)).toList = parts.toList.map fun p => (p.1, a.eval p.2) := by simp
 have hsm' : ¬ (len * sz > 2 ^ 24) := by omega
 have hzv : (zeroValue e).run P w = .ok z w := by simp [zeroValue, typeInfo, e1, e3]
 by_cases h0 : len * sz = 0
 ·have hmade : (Array.range (len * sz)).map (fun x => (#[] : Array Value)[x % (#[] : Array Value).size]!) = madeCells z.cells (len * sz) := by
   rw [h0]; simp [madeCells]
  simp only [Instr.buildSlice, Sem.run_bind, run_underlying hu, Result.andThen_ok, sizeOf, typeInfo, run_program, e1, Sem.run_pure, e4, Sem.run_ite, hsm', if_false, if_pos h0, hmade, hl', u1, newRow, run_newObj_alloc]
 ·have hmade : (Array.range (len * sz)).map (fun x => z.cells[x % z.cells.size]!) = madeCells z.cells (len * sz) := rfl
  simp only [Instr.buildSlice, Sem.run_bind, run_underlying hu, Result.andThen_ok, sizeOf, typeInfo, run_program, e1, Sem.run_pure, e4, Sem.run_ite, hsm', if_false, if_neg h0, hzv, hmade, hl', u1, newRow, run_newObj_alloc]

theorem op_buildSlice {t e : TypeId} {len sz bytes : Nat} {parts : Array (Nat × Operand)} {z : Value} {vs : List AV} (hu : P.underlying t = some (.slice e)) (hi : (P.info? e).map (fun i => (i.zero, i.size, i.bytes)) = some (some z, sz, bytes)) (hzs : z.cells.size = sz) (hz1 : ∀ (i : Nat) (u : Value), z.cells[i]? = some u → u.oneCell' = true)
  (hs : 0 < sz) (hl : parts.toList.map (·.1) = List.range len) (hv : parts.toList.map (fun p => oev tm p.2) = vs) (hk : ∀ v ∈ vs, v.known = true ∧ v.cells.length = sz) (hsm : len * sz ≤ 16777216) :
  OpOK P (.buildSlice t len parts) ⟨tm, h, nx⟩ (.own nx 0 len) ((nx, .cells sz vs) :: h) (nx + 1) := OpOK.of fun c n ρ S a w hr => by
 obtain ⟨us, u2, husz, hvl, hrun⟩ := bsl_raw hu hi hzs hz1 hs hl hv hk hsm hr
 exact ⟨_, .slice (some ⟨w.heap.size, 0, none⟩) len len, _, _, S, hrun, .inl rfl, hr.newBlk (Same.refl w) us e len sz vs (fun v hv => (hk v hv).2) (by omega) (by
  have : len ≤ len * sz := Nat.le_mul_of_pos_right _ hs
  unfold maxLen; omega) husz u2.2.1 u2.2.2 (fun _ _ h => h), .own_at0 (upd_self _ _ _) (Nat.le_refl _) rfl, upd_ext hr _, alloc_ext hr (Same.refl w) _⟩

theorem run_bounds {isSlice : Bool} {len cap : Nat} {lo hi : Option Value} {l m : Int} (hlo : (lo = none ∧ l = 0) ∨ ∃ k, lo = some (.int k l)) (hhi : (hi = none ∧ m = len) ∨ ∃ k, hi = some (.int k m)) (h0 : 0 ≤ l) (h1 : l ≤ m) (h2 : m ≤ cap) (w : World) :
  (Instr.sliceBounds isSlice len cap lo hi none).run P w = .ok (l.toNat, m.toNat, cap) w := by
 have h3 : 0 ≤ m := by omega
 rcases hlo with ⟨rfl, rfl⟩ | ⟨k, rfl⟩
 ·rcases hhi with ⟨rfl, rfl⟩ | ⟨k', rfl⟩
  ·simp [Instr.sliceBounds]
  ·cases isSlice <;> simp [Instr.sliceBounds, Instr.sliceBound, asIntOf, h3, h2]
 ·have h4 : l ≤ (m.toNat : Int) := by omega
  rcases hhi with ⟨rfl, rfl⟩ | ⟨k', rfl⟩
  ·simp [Instr.sliceBounds, Instr.sliceBound, asIntOf, h0, h1]
  ·cases isSlice <;> simp [Instr.sliceBounds, Instr.sliceBound, asIntOf, h0, h3, h2, h4] <;> omega

def Bd (tm : List (Nat × AV)) (o : Option Operand) (dflt l : Int) : Prop := match o with
 | none => l = dflt
 | some x => ∃ k, oev tm x = .int k l

theorem bd_eval {c : Ctx} {n nx : Nat} {ρ : Rho} {S : Nat → Prop} {a : Act} {w : World} (hr : Rep c n ⟨tm, h, nx⟩ ρ S a w) {o : Option Operand} {d l : Int} (hb : Bd tm o d l) : (o.map a.eval = none ∧ l = d) ∨ ∃ k, o.map a.eval = some (.int k l) := by
 cases o with
 | none => exact .inl ⟨rfl, hb⟩
 | some x => obtain ⟨k, hk⟩ := hb; exact .inr ⟨k, by rw [Option.map_some, ev_int hr hk]⟩

theorem op_sliceL {t e : TypeId} {x : Operand} {lo hi : Option Operand} {sz : Nat} {xs : List AV} {l m : Int} (hu : P.underlying t = some (.slice e)) (hz : (P.info? e).map (·.size) = some sz) (hx : oev tm x = .sl sz xs) (hl : Bd tm lo 0 l) (hm : Bd tm hi xs.length m) (h0 : 0 ≤ l) (h1 : l ≤ m) (h2 : m ≤ xs.length) :
  OpP P (.slice t x lo hi none) tm h (.sl sz ((xs.drop l.toNat).take (m.toNat - l.toNat))) := fun c n nx ρ S a w hr => by
 have hv := ev_vr hr hx
 generalize he : a.eval x = v at hv
 have hlen : ((xs.drop l.toNat).take (m.toNat - l.toNat)).length = m.toNat - l.toNat := by rw [List.length_take, List.length_drop]; omega
 have key : ∀ (A : Option Addr) (cp : Nat), a.eval x = .slice A xs.length cp → xs.length ≤ cp → ∀ o : Oper, o.op = .slice t x lo hi none → (execOp a.eval o).run P w = .ok (.value (.slice (if cp = l.toNat then A else A.map (·.add (l.toNat * sz))) (m.toNat - l.toNat) (cp - l.toNat))) w := by
  intro A cp hA hcp o ho
  have hb := run_bounds (P := P) (isSlice := true) (len := xs.length) (cap := cp) (bd_eval hr hl) (bd_eval hr hm) h0 h1 (by omega) w
  unfold execOp; rw [ho]
  simp only [Instr.sliceAt, Sem.run_bind, run_underlying hu, Result.andThen_ok, Instr.slice, hA, hb, run_sizeOf hz, Sem.run_pure, Option.map_none]
 cases hv with
 | sl0 => exact ⟨_, key _ _ he (Nat.zero_le _), by
   have : (([] : List AV).drop l.toNat).take (m.toNat - l.toNat) = [] := by simp
   have e0 : m.toNat - l.toNat = 0 := by simp at h2; omega
   rw [this, e0]
   exact .sl0⟩
 | @sl _ _ _ blk off cp vs q1 q2 q3 q4 q5 q6 =>
  refine ⟨_, key _ _ he q4, ?_⟩
  by_cases h3 : cp = l.toNat
  ·have e0 : m.toNat - l.toNat = 0 := by omega
   rw [if_pos h3, e0, List.take_zero]
   exact .sl0
  ·rw [if_neg h3, Option.map_some, Addr.add_lit]
   have hsub : ∀ y ∈ (xs.drop l.toNat).take (m.toNat - l.toNat), y.cells.length = sz := fun y hy => q3 y (List.mem_of_mem_drop (List.mem_of_mem_take hy))
   have hvl : vs.length = xs.length * sz := by rw [← q2, flat_len q3]
   have hmul : l.toNat * sz + (m.toNat - l.toNat) * sz ≤ xs.length * sz := by rw [← Nat.add_mul]; exact Nat.mul_le_mul_right _ (by omega)
   have hfl : (flat ((xs.drop l.toNat).take (m.toNat - l.toNat))).length = (m.toNat - l.toNat) * sz := by rw [flat_len hsub, hlen]
   have := @VR.sl S w ρ sz ((xs.drop l.toNat).take (m.toNat - l.toNat)) blk (off + l.toNat * sz) (cp - l.toNat) ((vs.drop (l.toNat * sz)).take ((m.toNat - l.toNat) * sz)) q1 (by rw [hfl, List.length_take, List.length_drop, hvl]; omega) hsub (by omega) (fun i u hu => ?_) (fun i y u hy hu => ?_)
   ·rw [hlen] at this; exact this
   ·have hi : i < (m.toNat - l.toNat) * sz := by
     rcases Nat.lt_or_ge i ((m.toNat - l.toNat) * sz) with hh | hh
     ·exact hh
     ·rw [List.getElem?_take, if_neg (by omega)] at hu; cases hu
    rw [List.getElem?_take_of_lt hi, List.getElem?_drop] at hu
    have := q5 _ u hu
    rwa [← Nat.add_assoc] at this
   ·have hi : i < (m.toNat - l.toNat) * sz := by
     rcases Nat.lt_or_ge i ((m.toNat - l.toNat) * sz) with hh | hh
     ·exact hh
     ·rw [List.getElem?_take, if_neg (by omega)] at hu; cases hu
    rw [List.getElem?_take_of_lt hi, List.getElem?_drop] at hu
    rw [flat_get q3 l.toNat (m.toNat - l.toNat) i (by omega) hi] at hy
    exact q6 _ y u hy hu

theorem op_slice {t e : TypeId} {x : Operand} {lo hi : Option Operand} {sz b st len : Nat} {xs : List AV} {l m : Int} (hu : P.underlying t = some (.slice e)) (hz : (P.info? e).map (·.size) = some sz) (hx : oev tm x = .own b st len) (hb : hget h b = some (.cells sz xs)) (hl : Bd tm lo 0 l) (hm : Bd tm hi len m) (h0 : 0 ≤ l) (h1 : l ≤ m) (h2 : m ≤ len) :
  OpP P (.slice t x lo hi none) tm h (.own b (st + l.toNat) (m.toNat - l.toNat)) := fun c n nx ρ S a w hr => by
 have hv := ev_vr hr hx
 generalize he : a.eval x = v at hv
 have key : ∀ (A : Option Addr) (cp : Nat), a.eval x = .slice A len cp → len ≤ cp → ∀ o : Oper, o.op = .slice t x lo hi none → (execOp a.eval o).run P w = .ok (.value (.slice (if cp = l.toNat then A else A.map (·.add (l.toNat * sz))) (m.toNat - l.toNat) (cp - l.toNat))) w := by
  intro A cp hA hcp o ho
  have hb := run_bounds (P := P) (isSlice := true) (len := len) (cap := cp) (bd_eval hr hl) (bd_eval hr hm) h0 h1 (by omega) w
  unfold execOp; rw [ho]
  simp only [Instr.sliceAt, Sem.run_bind, run_underlying hu, Result.andThen_ok, Instr.slice, hA, hb, run_sizeOf hz, Sem.run_pure, Option.map_none]
 cases hv with
 | own0 => exact ⟨_, key _ _ he (Nat.le_refl _), by
   have e0 : m.toNat - l.toNat = 0 := by omega
   rw [e0, Nat.zero_sub]
   exact .own0⟩
 | @own _ _ _ _ r cp q1 q2 q3 =>
  refine ⟨_, key _ _ he q2, ?_⟩
  obtain ⟨_, _, k1, _⟩ := blk_of hr hb q1
  by_cases h3 : cp = l.toNat
  ·have e0 : m.toNat - l.toNat = 0 := by omega
   rw [if_pos h3, e0, h3, Nat.sub_self]
   exact .own0
  ·rw [if_neg h3, Option.map_some, Addr.add_lit]
   have := VR.own (S := S) (w := w) (ρ := ρ) (b := b) (st := st + l.toNat) (len := m.toNat - l.toNat) (c := cp - l.toNat) q1 (by omega) (by omega)
   rw [Nat.add_mul, k1] at this
   rw [k1]
   exact this

theorem res1 {fn : Func} {t : Nat} {st : St} (hf : fn.results = #[.tmp t]) : ResOK P fn st (tget st.tm t) := fun c n ρ S a w hr =>
 ⟨a.tmps.getD t undef, results_tmp hf a.tmps P w, hr.tmps t⟩
theorem res0 {fn : Func} {st : St} (hf : fn.results = #[]) : ResOK P fn st (.tup []) := fun c n ρ S a w hr =>
 ⟨.tuple #[], results_none hf a.tmps P w, .tup #[] rfl (fun i x u hx _ => by simp at hx)⟩
theorem res2 {fn : Func} {t u : Nat} {st : St} (hf : fn.results = #[.tmp t, .tmp u]) : ResOK P fn st (.tup [tget st.tm t, tget st.tm u]) := fun c n ρ S a w hr =>
 ⟨_, results_tmp2 hf a.tmps P w, .tup _ rfl (fun i x v hx hv => by
  match i, hx, hv with
  | 0, hx, hv => simp at hx hv; subst hx; subst hv; have := hr.tmps t; rwa [Array.getD_eq_getD_getElem?] at this
  | 1, hx, hv => simp at hx hv; subst hx; subst hv; have := hr.tmps u; rwa [Array.getD_eq_getD_getElem?] at this
  | i + 2, hx, hv => simp at hx)⟩
theorem res3 {fn : Func} {t u q : Nat} {st : St} (hf : fn.results = #[.tmp t, .tmp u, .tmp q]) : ResOK P fn st (.tup [tget st.tm t, tget st.tm u, tget st.tm q]) := fun c n ρ S a w hr =>
 ⟨.tuple #[a.tmps.getD t undef, a.tmps.getD u undef, a.tmps.getD q undef], by simp [results, hf], .tup _ rfl (fun i x v hx hv => by
  match i, hx, hv with
  | 0, hx, hv => simp at hx hv; subst hx; subst hv; have := hr.tmps t; rwa [Array.getD_eq_getD_getElem?] at this
  | 1, hx, hv => simp at hx hv; subst hx; subst hv; have := hr.tmps u; rwa [Array.getD_eq_getD_getElem?] at this
  | 2, hx, hv => simp at hx hv; subst hx; subst hv; have := hr.tmps q; rwa [Array.getD_eq_getD_getElem?] at this
  | i + 3, hx, hv => simp at hx)⟩

end
end Go.Proofs.Ytpggknkhldecaaa.Abs
end
section
namespace Go.Proofs.Ytpggknkhldecaaa.Abs

section
variable {P : Program} {c : Ctx} {n : Nat} {Q : Exit → St → Prop} {st : St}

theorem nm {next : St → Prop} (h : next st) : thenA next Q .normal st := h
theorem nmb {id : Nat} (h : Q .normal st) : inBlockA id Q .normal st := h
theorem xs {next : St → Prop} {id : Nat} (h : Q (.exit id) st) : thenA next Q (.exit id) st := h
theorem xb {id : Nat} (h : Q .normal st) : inBlockA id Q (.exit id) st := by show (if id = id then Q .normal st else Q (.exit id) st); rw [if_pos rfl]; exact h
theorem rs {next : St → Prop} (h : Q .ret st) : thenA next Q .ret st := h
theorem rb {id : Nat} (h : Q .ret st) : inBlockA id Q .ret st := h

theorem blt_of {d n : Nat} (h : Nat.blt d n = true) : ∀ k, some d = some k → k < n := fun k e => by
 obtain rfl := Option.some.inj e
 exact Nat.le_of_ble_eq_true h

theorem st_o {tm : List (Nat × AV)} {hp : Heap} {nx : Nat} {ops : Array Oper} {d : Nat} {op : Op} {ty : TypeId} {pos : String} {after : Array Edge} {rst : List Oper} {v : AV} {h' : Heap} {nx' : Nat} (h : OpOK P op ⟨tm, hp, nx⟩ v h' nx') (hd : Nat.blt d n = true) (k : AL P c n ops Q rst ⟨(d, v) :: tm, h', nx'⟩) :
  AL P c n ops Q (⟨some d, op, ty, pos, after, none⟩ :: rst) ⟨tm, hp, nx⟩ := al_op rfl (blt_of hd) h k
theorem st_n {tm : List (Nat × AV)} {hp : Heap} {nx : Nat} {ops : Array Oper} {op : Op} {ty : TypeId} {pos : String} {after : Array Edge} {rst : List Oper} {v : AV} {h' : Heap} {nx' : Nat} (h : OpOK P op ⟨tm, hp, nx⟩ v h' nx') (k : AL P c n ops Q rst ⟨tm, h', nx'⟩) :
  AL P c n ops Q (⟨none, op, ty, pos, after, none⟩ :: rst) ⟨tm, hp, nx⟩ := al_op rfl (fun k e => by cases e) h k
theorem st_p {tm : List (Nat × AV)} {hp : Heap} {nx : Nat} {ops : Array Oper} {d : Nat} {op : Op} {ty : TypeId} {pos : String} {after : Array Edge} {rst : List Oper} {v : AV} (h : OpP P op tm hp v) (hd : Nat.blt d n = true) (k : AL P c n ops Q rst ⟨(d, v) :: tm, hp, nx⟩) :
  AL P c n ops Q (⟨some d, op, ty, pos, after, none⟩ :: rst) ⟨tm, hp, nx⟩ := al_op rfl (blt_of hd) h.ok k
theorem st_pg {tm : List (Nat × AV)} {hp : Heap} {nx : Nat} {ops : Array Oper} {d j d' : Nat} {b : Bool} {op : Op} {ty : TypeId} {pos : String} {after : Array Edge} {rst : List Oper} {v : AV} (hj : (ops[j]?).bind (·.dst) = some d') (hdn : Nat.blt d' n = true) (hb : tget tm d' = .bool b)
  (h : OpP P op tm hp v) (hd : Nat.blt d n = true) (k : AL P c n ops Q rst ⟨(d, v) :: tm, hp, nx⟩) : AL P c n ops Q (⟨some d, op, ty, pos, after, some (j, b)⟩ :: rst) ⟨tm, hp, nx⟩ := al_opg rfl hj (Nat.le_of_ble_eq_true hdn) hb (blt_of hd) h.ok k
theorem st_og {tm : List (Nat × AV)} {hp : Heap} {nx : Nat} {ops : Array Oper} {d j d' : Nat} {b : Bool} {op : Op} {ty : TypeId} {pos : String} {after : Array Edge} {rst : List Oper} {v : AV} {h' : Heap} {nx' : Nat} (hj : (ops[j]?).bind (·.dst) = some d') (hdn : Nat.blt d' n = true) (hb : tget tm d' = .bool b)
  (h : OpOK P op ⟨tm, hp, nx⟩ v h' nx') (hd : Nat.blt d n = true) (k : AL P c n ops Q rst ⟨(d, v) :: tm, h', nx'⟩) : AL P c n ops Q (⟨some d, op, ty, pos, after, some (j, b)⟩ :: rst) ⟨tm, hp, nx⟩ := al_opg rfl hj (Nat.le_of_ble_eq_true hdn) hb (blt_of hd) h k
theorem st_s {tm : List (Nat × AV)} {hp : Heap} {nx : Nat} {ops : Array Oper} {d j d' : Nat} {b : Bool} {g : Option Bool} {op : Op} {ty : TypeId} {pos : String} {after : Array Edge} {rst : List Oper} (hj : (ops[j]?).bind (·.dst) = some d') (hdn : Nat.blt d' n = true) (hb : gv (tget tm d') = some g) (hne : (g == some b) = false)
  (hd : Nat.blt d n = true) (k : AL P c n ops Q rst ⟨(d, .tup []) :: tm, hp, nx⟩) : AL P c n ops Q (⟨some d, op, ty, pos, after, some (j, b)⟩ :: rst) ⟨tm, hp, nx⟩ :=
 al_pass rfl hj (Nat.le_of_ble_eq_true hdn) hb (fun e => by rw [e] at hne; simp at hne) (blt_of hd) k

theorem ac_fn {f : FuncId} {fn : Func} {body : Code} {args : List AV} {h : Heap} {nx m : Nat} {al : Bool} {Q : AV → Heap → Nat → Prop} (hf : P.funcs[f]? = some fn) (hn : fn.ntmps = m) (hb : fn.body = some body) (hlen : Nat.ble args.length m = true) (hdom : h.all (fun p => p.1 < nx) = true)
  (hbody : ∀ w0 S0 r0, AW P ⟨w0, Own r0 h, S0, r0, nx⟩ m body (RetA P ⟨w0, Own r0 h, S0, r0, nx⟩ m fn al Q) ⟨argTm args, h, nx⟩) : AC P f args h nx al Q := by
 subst hn
 exact ac_body hf hb (Nat.le_of_ble_eq_true hlen) hdom hbody

theorem ret_a {fn : Func} {al : Bool} {Qr : AV → Heap → Nat → Prop} {r : AV} (st' : St) (hle : Le c n st st') (hres : ResOK P fn st' r) (hal : al = true ∨ (r.nosl = true ∧ st'.h.all (fun p => p.2.nosl) = true)) (hq : Qr r st'.h st'.nx) : RetA P c n fn al Qr .ret st := ⟨st', r, hle, hres, hal, hq⟩
theorem ret_v {fn : Func} {al : Bool} {Qr : AV → Heap → Nat → Prop} {r : AV} (hres : ResOK P fn st r) (hal : al = true ∨ (r.nosl = true ∧ st.h.all (fun p => p.2.nosl) = true)) (hq : Qr r st.h st.nx) : RetA P c n fn al Qr .ret st := ⟨st, r, Le.refl _ _ _, hres, hal, hq⟩
theorem ret_n {fn : Func} {al : Bool} {Qr : AV → Heap → Nat → Prop} {r : AV} (st' : St) (hle : Le c n st st') (hres : ResOK P fn st' r) (hal : al = true ∨ (r.nosl = true ∧ st'.h.all (fun p => p.2.nosl) = true)) (hq : Qr r st'.h st'.nx) : RetA P c n fn al Qr .normal st := ⟨st', r, hle, hres, hal, hq⟩

def KeepT (tm : List (Nat × AV)) (τ : Nat → Nat) : List (Nat × AV) → Prop
 | [] => True
 | (i, v) :: t => tget tm i = v.ren τ ∧ KeepT tm τ t
def KeepH (h : Heap) (τ : Nat → Nat) : Heap → Prop
 | [] => True
 | (i, B) :: t => hget h (τ i) = some (B.ren τ) ∧ KeepH h τ t

theorem KeepT.get {tm : List (Nat × AV)} {τ : Nat → Nat} : ∀ {l : List (Nat × AV)}, KeepT tm τ l → ∀ i, tget l i = .top ∨ tget tm i = (tget l i).ren τ := by
 intro l
 induction l with
 | nil => intro _ i; exact .inl rfl
 | cons q t ih =>
  obtain ⟨j, v⟩ := q
  intro hk i
  by_cases e : j = i
  ·subst e; simp only [tget, if_true]; exact .inr hk.1
  ·simp only [tget, e, if_false]; exact ih hk.2 i
theorem KeepH.get {h : Heap} {τ : Nat → Nat} : ∀ {l : Heap}, KeepH h τ l → ∀ i B, hget l i = some B → hget h (τ i) = some (B.ren τ) := by
 intro l
 induction l with
 | nil => intro _ i B e; cases e
 | cons q t ih =>
  obtain ⟨j, X⟩ := q
  intro hk i B e
  by_cases e1 : j = i
  ·subst e1; simp only [hget, if_true] at e; obtain rfl := Option.some.inj e; exact hk.1
  ·simp only [hget, e1, if_false] at e; exact ih hk.2 i B e

def apart (l : List Nat) (τ : Nat → Nat) : Bool := l.all fun b => l.all fun b' => Nat.beq b b' || !(Nat.beq (τ b) (τ b'))

theorem le_to {st' : St} (l : List (Nat × Nat)) (h1 : l.all (fun p => Nat.blt p.1 st'.nx) = true) (h2 : l.all (fun p => Nat.ble c.nx0 p.1) = true) (h3 : Nat.ble c.nx0 st'.nx = true) (h4 : st'.h.all (fun p => Nat.blt p.1 st'.nx) = true)
  (hi : apart (st'.h.map (fun p => p.1)) (swp l st'.nx st.nx) = true) (ht : KeepT st.tm (swp l st'.nx st.nx) st'.tm) (hh : KeepH st.h (swp l st'.nx st.nx) st'.h) : Le c n st st' := by
 have e1 : ∀ a b : Nat, Nat.blt a b = decide (a < b) := fun a b => by
  by_cases hab : a < b
  ·rw [decide_eq_true hab]; exact Nat.ble_eq_true_of_le hab
  ·rw [decide_eq_false hab]; exact Bool.eq_false_iff.2 fun e => hab (Nat.le_of_ble_eq_true e)
 have e2 : ∀ a b : Nat, Nat.ble a b = decide (a ≤ b) := fun a b => by
  by_cases hab : a ≤ b
  ·rw [decide_eq_true hab]; exact Nat.ble_eq_true_of_le hab
  ·rw [decide_eq_false hab]; exact Bool.eq_false_iff.2 fun e => hab (Nat.le_of_ble_eq_true e)
 refine le_of l (by simpa only [e1] using h1) (by simpa only [e2] using h2) (Nat.le_of_ble_eq_true h3) (by simpa only [e1] using h4) (fun p _ => ht.get p.1) (fun p hp => ?_) ?_
 ·have : ∀ (h : Heap) (i : Nat), (∃ q ∈ h, q.1 = i) → ∃ B, hget h i = some B := by
   intro h i
   induction h with
   | nil => rintro ⟨q, hq, _⟩; cases hq
   | cons q t ih =>
    rintro ⟨q', hq', e⟩
    obtain ⟨j, X⟩ := q
    by_cases e1 : j = i
    ·exact ⟨X, by simp [hget, e1]⟩
    ·rcases List.mem_cons.1 hq' with rfl | hm
     ·exact absurd e e1
     ·obtain ⟨B, hB⟩ := ih ⟨q', hm, e⟩
      exact ⟨B, by simp only [hget, e1, if_false]; exact hB⟩
  obtain ⟨B, hB⟩ := this st'.h p.1 ⟨p, hp, rfl⟩
  rw [hB, hh.get p.1 B hB]
  rfl
 ·unfold apart at hi
  rw [List.all_eq_true] at hi ⊢
  intro b hb
  have := hi b hb
  rw [List.all_eq_true] at this ⊢
  intro b' hb'
  have := this b' hb'
  simp only [Bool.or_eq_true, Bool.not_eq_true', beq_iff_eq, bne_iff_ne] at this ⊢
  rcases this with h | h
  ·exact .inl (Nat.eq_of_beq_eq_true h)
  ·exact .inr (fun e => by rw [e, Nat.beq_refl] at h; cases h)

theorem Rep.virt {tm : List (Nat × AV)} {h : Heap} {nx : Nat} {ρ : Rho} {S : Nat → Prop} {a : Act} {w : World} (hr : Rep c n ⟨tm, h, nx⟩ ρ S a w) (sz : Nat) : Rep c n ⟨tm, (nx, .cells sz []) :: h, nx + 1⟩ ρ S a w := by
 refine ⟨hr.size, hr.defers, hr.tmps, ⟨fun b X hk => ?_, fun b b' X X' q q' hk hk' hq hq' hne => ?_, hr.sim.lt⟩, ?_, fun b hk => hr.fresh b (by have : nx + 1 ≤ b := hk; show nx ≤ b; omega), Nat.le_succ_of_le hr.le, fun b X hk => ?_⟩
 ·simp only [hget] at hk
  by_cases e : nx = b
  ·subst e
   rw [if_pos rfl] at hk
   obtain rfl := Option.some.inj hk
   exact .inr ⟨hr.fresh nx (Nat.le_refl _), sz, rfl⟩
  ·rw [if_neg e] at hk
   exact hr.sim.blk b X hk
 ·simp only [hget] at hk hk'
  by_cases e : nx = b
  ·subst e; rw [hr.fresh nx (Nat.le_refl _)] at hq; cases hq
  ·by_cases e' : nx = b'
   ·subst e'; rw [hr.fresh nx (Nat.le_refl _)] at hq'; cases hq'
   ·rw [if_neg e] at hk
    rw [if_neg e'] at hk'
    exact hr.sim.inj b b' X X' q q' hk hk' hq hq' hne
 ·refine ⟨hr.post.os, hr.post.tape, hr.post.output, hr.post.size, hr.post.keep, hr.post.sIn, hr.post.sNew, fun b X q hk hq => ?_, hr.post.ids⟩
  simp only [hget] at hk
  by_cases e : nx = b
  ·subst e; rw [hr.fresh nx (Nat.le_refl _)] at hq; cases hq
  ·rw [if_neg e] at hk; exact hr.post.own b X q hk hq
 ·simp only [hget] at hk
  by_cases e : nx = b
  ·show b < nx + 1; omega
  ·rw [if_neg e] at hk
   exact Nat.lt_succ_of_lt (hr.dom b X hk)

theorem aw_virt {code : Code} {tm : List (Nat × AV)} {h : Heap} {nx : Nat} (i sz : Nat) (hi : tget tm i = .nils) (k : AW P c n code Q ⟨(i, .own nx 0 0) :: tm, (nx, .cells sz []) :: h, nx + 1⟩) : AW P c n code Q ⟨tm, h, nx⟩ := fun ρ S a w hr => by
 have hv := hr.virt sz
 refine k ρ S a w ⟨hv.size, hv.defers, fun j => ?_, hv.sim, hv.post, hv.fresh, hv.le, hv.dom⟩
 by_cases e : i = j
 ·subst e
  simp only [tget, if_true]
  have := hr.tmps i
  rw [show tget (St.mk tm h nx).tm i = .nils from hi] at this
  generalize a.tmps.getD i undef = u at this
  cases this
  exact .own0
 ·simp only [tget, e, if_false]; exact hr.tmps j

end

def hdelS : Heap → Nat → Option Heap
 | [], _ => some []
 | (i, x) :: t, j => match hdelS t j with
  | some r => if i = j then some r else some ((i, x) :: r)
  | none => none

theorem hdelS_spec : ∀ (h : Heap) (j : Nat) (h' : Heap), hdelS h j = some h' → hdel h j = h' := by
 intro h
 induction h with
 | nil => intro j h' e; exact Option.some.inj e
 | cons q t ih =>
  obtain ⟨i, x⟩ := q
  intro j h' e
  simp only [hdelS] at e
  cases hq : hdelS t j with
  | none => rw [hq] at e; cases e
  | some r =>
   rw [hq] at e
   by_cases hi : i = j
   ·simp only [hi, if_true, Option.some.injEq] at e; simp [hdel, hi, ih j r hq, e]
   ·simp only [hi, if_false, Option.some.injEq] at e; simp [hdel, hi, ih j r hq, e]

theorem SrcA.whole {h : Heap} {b len sz : Nat} {zs : List AV} (hb : hget h b = some (.cells sz zs)) (hl : len = zs.length) : SrcA h (.own b 0 len) sz zs := by
 have := SrcA.own (st := 0) (len := len) hb (by omega)
 rw [List.drop_zero, hl, List.take_length] at this
 rw [hl]
 exact this

theorem op_app {P : Program} {tm : List (Nat × AV)} {h h2 : Heap} {nx : Nat} {t tx e : TypeId} {dx : TypeDesc} {z : Value} {bytes : Nat} {x y : Operand} {b len sz : Nat} {xs ys zs : List AV} (ht : P.underlying t = some (.slice e)) (htx : P.underlying tx = some dx) (hdx : (∃ e', dx = .slice e') ∨ dx = .string)
  (hi : (P.info? e).map (fun i => (i.zero, i.size, i.bytes)) = some (some z, sz, bytes)) (hzs : z.cells.size = sz ∧ ∀ (i : Nat) (u : Value), z.cells[i]? = some u → u.oneCell' = true)
  (hx : oev tm x = .own b 0 len) (hb : hget h b = some (.cells sz xs)) (hd : hdelS h b = some h2) (hl : len = xs.length) (hy : SrcOK P tm h nx y sz ys) (hbd : (len + ys.length) * bytes ≤ 140737488355328 ∧ len + ys.length ≤ 9223372036854775807) (hz : xs ++ ys = zs) :
  OpOK P (.call { callee := .builtin .append, args := #[x, y], argTypes := #[t, tx] }) ⟨tm, h, nx⟩ (.own nx 0 zs.length) ((nx, .cells sz zs) :: h2) (nx + 1) := by
 have := app_gen (h2 := h2) ht htx hdx hi hzs.1 hzs.2 hx (.inr ⟨b, rfl, hb, Nat.le_of_eq hl, fun k X hk => by
  rw [← hdelS_spec _ _ _ hd, hget_del] at hk
  split at hk
  ·cases hk
  ·rename_i hne; exact ⟨fun e => hne e.symm, hk⟩⟩) hy hbd.1 hbd.2
 rw [hl, List.take_length, hz, ← List.length_append, hz] at this
 exact this
section
variable {P : Program} {tm : List (Nat × AV)} {h : Heap}
theorem op_notT {t : TypeId} {x : Operand} (hx : oev tm x = .bool true) : OpP P (.unOp .not t x) tm h (.bool false) := op_not hx
theorem op_notF {t : TypeId} {x : Operand} (hx : oev tm x = .bool false) : OpP P (.unOp .not t x) tm h (.bool true) := op_not hx
theorem op_toStr {s d e : TypeId} {x : Operand} {v : AV} {l : List UInt8} (hs : P.underlying s = some (.slice e)) (he : P.underlying e = some (.int .u8)) (hd : P.underlying d = some .string) (hx : oev tm x = v) {ys : List AV} (hv : SrcA h v 1 ys) (hl : ys = bl l) : OpP P (.convert s d x) tm h (sb l) := fun c n nx ρ S a w hr => by
 obtain ⟨A, cp, news, h1, h2, h3, h4, h5, h6, h7⟩ := hv.read hr (ev_vr hr hx)
 have hll : ys.length = l.length := by rw [hl, List.length_map]
 refine ⟨.string ⟨l.toArray⟩, fun o ho => ?_, .str⟩
 unfold execOp; rw [ho]
 simp only [h1, Sem.run_bind]
 cases hys : ys with
 | nil =>
  have hl0 : l = [] := List.eq_nil_of_length_eq_zero (by rw [← hll, hys]; rfl)
  subst hl0
  cases A with
  | none => simp only [List.length_nil]; rw [run_convert_bytes_nil w s e hs he 0 cp d hd]; rfl
  | some ad =>
   have := run_convert_bytes_back (P := P) w s d e ad cp [] hs he hd (fun j hj => by simp at hj)
   simp only [List.length_nil] at this ⊢
   rw [this]
   rfl
 | cons z zs =>
  obtain ⟨blk, off, rfl, hc⟩ := h5 (by rw [hys]; simp)
  rw [← hys, hll]
  rw [run_convert_bytes_back (P := P) w s d e ⟨blk, off, none⟩ cp l hs he hd (fun j hj => by
   have hj2 : j < news.length := by rw [h3, Nat.mul_one]; omega
   have e1 : news[j]? = some news[j] := List.getElem?_eq_getElem hj2
   have e2 : (flat ys)[j]? = some (.int .u8 l[j].toNat) := by
    rw [hl, flat_bl, List.getElem?_map, List.getElem?_eq_getElem hj]; rfl
   have := (h7 j _ _ e2 e1).int_inv
   rw [Addr.add_lit, hc j _ e1, this])]
  rfl

theorem ren_bl (σ : Nat → Nat) (l : List UInt8) : (bl l).map (AV.ren σ) = bl l := by
 rw [List.map_map]; rfl
theorem bl_take (l : List UInt8) (k : Nat) : (bl l).take k = bl (l.take k) := by simp [bl, List.map_take]
theorem bl_drop (l : List UInt8) (k : Nat) : (bl l).drop k = bl (l.drop k) := by simp [bl, List.map_drop]
theorem bl_app (l l' : List UInt8) : bl l ++ bl l' = bl (l ++ l') := by simp [bl]
theorem bl_len (l : List UInt8) : (bl l).length = l.length := by simp [bl]

theorem st_call {c : Ctx} {n : Nat} {nx : Nat} {Qe : Exit → St → Prop} {ops : Array Oper} {d : Nat} {fo : Operand} {xs : Array Operand} {ts : Array TypeId} {ty : TypeId} {pos : String} {aft : Array Edge} {rst : List Oper} {f : FuncId} {fn : Func} {first caps args largs : List AV} {al : Bool} {Q : AV → Heap → Nat → Prop}
  (hac : AC P f largs [] 0 al Q) (hf : P.funcs[f]? = some fn) (hn : (fn.name == "runtime.NumGoroutine") = false ∧ fn.body.isNone = false)
  (hfo : oev tm fo = .fn (.func f) first caps) (hargs : first ++ (xs.toList.map (oev tm) ++ caps) = args) (hlend : Lends al h (swp [] 0 nx) [] args largs) (hd : Nat.blt d n = true)
  (hk : ∀ r h' nx', Q r h' nx' → ∀ r2 h2 n2, r.ren (swp [] 0 nx) = r2 → h ++ h'.map (fun p => (swp [] 0 nx p.1, p.2.ren (swp [] 0 nx))) = h2 → nx + nx' = n2 → AL P c n ops Qe rst ⟨(d, r2) :: tm, h2, n2⟩) :
  AL P c n ops Qe (⟨some d, .call { callee := .value fo, args := xs, argTypes := ts }, ty, pos, aft, none⟩ :: rst) ⟨tm, h, nx⟩ :=
 al_call f first caps [] 0 al [] [] args largs Q rfl (blt_of hd) rfl hfo hargs.symm (fun vs w => callFunc_enter hf hn.1 hn.2 vs w) rfl rfl (Nat.zero_le _) (fun p hp => by cases hp) rfl hlend hac (fun r h' nx' hq => hk r h' nx' hq _ _ _ rfl rfl rfl)
end


def tgetS : List (Nat × AV) → Nat → Option AV
 | [], _ => none
 | (i, v) :: t, j => if i = j then some v else tgetS t j

theorem tgetS_spec : ∀ (tm : List (Nat × AV)) (i : Nat) (v : AV), tgetS tm i = some v → tget tm i = v := by
 intro tm
 induction tm with
 | nil => intro i v h; cases h
 | cons q t ih =>
  obtain ⟨j, x⟩ := q
  intro i v h
  simp only [tgetS] at h
  by_cases e : j = i
  ·rw [if_pos e] at h; simp [tget, e, Option.some.inj h]
  ·rw [if_neg e] at h; simp [tget, e, ih i v h]

def constS : Value → Option AV
 | .bool b => some (.bool b)
 | .int k n => some (.int k n)
 | .string s => some (.str s)
 | .pointer none => some .nilp
 | .slice none 0 0 => some .nils
 | .map none => some .nilm
 | .nilFunc => some .nilf
 | .nilIface => some .nili
 | .agg cs => some (.agg (cs.toList.map ofConst1))
 | _ => none

theorem constS_spec (v : Value) (x : AV) (h : constS v = some x) : ofConst v = x := by
 unfold constS at h
 split at h <;> first | (obtain rfl := Option.some.inj h; rfl) | cases h

def oevS (tm : List (Nat × AV)) : Operand → Option AV
 | .tmp t => tgetS tm t
 | .const v => constS v
 | .global _ => none
 | .func f => some (.fn (.func f) [] [])

theorem oevS_spec {tm : List (Nat × AV)} {x : Operand} {v : AV} (h : oevS tm x = some v) : oev tm x = v := by
 cases x with
 | tmp t => exact tgetS_spec tm t v h
 | const c => exact constS_spec c v h
 | global g => cases h
 | func f => exact Option.some.inj h

def selS (tm : List (Nat × AV)) : List Nat → Option (List (Nat × AV))
 | [] => some []
 | k :: ks => match tgetS tm k, selS tm ks with
  | some v, some r => some ((k, v) :: r)
  | _, _ => none

def oevsS (tm : List (Nat × AV)) : List Operand → Option (List AV)
 | [] => some []
 | x :: t => match oevS tm x with
  | some v => match oevsS tm t with
   | some r => some (v :: r)
   | none => none
  | none => none

theorem oevsS_spec {tm : List (Nat × AV)} : ∀ (l : List Operand) (vs : List AV), oevsS tm l = some vs → l.map (oev tm) = vs := by
 intro l
 induction l with
 | nil => intro vs h; exact Option.some.inj h
 | cons x t ih =>
  intro vs h
  simp only [oevsS] at h
  cases h1 : oevS tm x with
  | none => rw [h1] at h; cases h
  | some v =>
   rw [h1] at h
   cases h2 : oevsS tm t with
   | none => rw [h2] at h; cases h
   | some r =>
    rw [h2] at h
    rw [List.map_cons, oevS_spec h1, ih r h2]
    exact Option.some.inj h

section
variable {P : Program} {tm : List (Nat × AV)} {h : Heap} {nx : Nat}
theorem mv {x : Operand} {v : AV} (hx : oevS tm x = some v) : OpP P (.move x) tm h v := op_move (oevS_spec hx)
theorem mva {x : Operand} {v : AV} (hx : oevS tm x = some v) : OpP P (.assign x) tm h v := op_assign (oevS_spec hx)
theorem pkT {q x y : Operand} {v : AV} (hq : oev tm q = .bool true) (hx : oevS tm x = some v) : OpP P (.pick q x y) tm h v := op_pickT hq (oevS_spec hx)
theorem pkF {q x y : Operand} {v : AV} (hq : oev tm q = .bool false) (hx : oevS tm y = some v) : OpP P (.pick q x y) tm h v := op_pickF hq (oevS_spec hx)
theorem bx {t : TypeId} {x : Operand} {v : AV} (hx : oevS tm x = some v) (hk : v.known = true) : OpOK P (.box t x) ⟨tm, h, nx⟩ (.ptr nx 0 0) ((nx, .cells v.cells.length [v]) :: h) (nx + 1) := op_box (oevS_spec hx) hk
theorem mkf {fn : Fn} {fs cs : Array Operand} {xs ys : List AV} (h1 : oevsS tm fs.toList = some xs) (h2 : oevsS tm cs.toList = some ys) : OpP P (.makeFunc fn fs cs) tm h (.fn fn xs ys) := op_makeFunc (oevsS_spec _ _ h1) (oevsS_spec _ _ h2)
theorem bsl {t e : TypeId} {len sz bytes : Nat} {parts : Array (Nat × Operand)} {z : Value} {vs : List AV} (hu : P.underlying t = some (.slice e)) (hi : (P.info? e).map (fun i => (i.zero, i.size, i.bytes)) = some (some z, sz, bytes)) (hzs : z.cells.size = sz ∧ ∀ (i : Nat) (u : Value), z.cells[i]? = some u → u.oneCell' = true)
  (hs : 0 < sz) (hl : parts.toList.map (·.1) = List.range len) (hv : oevsS tm (parts.toList.map (·.2)) = some vs) (hk : (vs.all fun v => v.known && Nat.beq v.cells.length sz) = true) (hsm : len * sz ≤ 16777216) :
  OpOK P (.buildSlice t len parts) ⟨tm, h, nx⟩ (.own nx 0 len) ((nx, .cells sz vs) :: h) (nx + 1) :=
 op_buildSlice hu hi hzs.1 hzs.2 hs hl (by rw [← oevsS_spec _ _ hv, List.map_map]; rfl) (fun v hv => by
  have := List.all_eq_true.1 hk v hv
  simp only [Bool.and_eq_true] at this
  exact ⟨this.1, Nat.eq_of_beq_eq_true this.2⟩) hsm
theorem stA {t : TypeId} {x y : Operand} {b i o m sz : Nat} {xs xs' cs : List AV} {e v : AV} {h' : Heap} (hz : (P.info? t).map (·.size) = some m) (hx : oev tm x = .ptr b i o) (hy : oevS tm y = some v) (hb : hget h b = some (.cells sz xs)) (he : xs[i]? = some e) (hel : e.cells.length = sz) (hk : v.known = true) (hm : v.cells.length = m)
  (hs : spl e.cells o v.cells = some cs) (hx' : setS xs i (.agg cs) = some xs') (hh : hsetS h b (.cells sz xs') = some h') : OpOK P (.store t x y) ⟨tm, h, nx⟩ .top h' nx := op_storeA hz hx (oevS_spec hy) hb he hel hk hm hs hx' hh
theorem stAs {t : TypeId} {x y : Operand} {b i o m sz : Nat} {xs cs : List AV} {e v : AV} {h' : Heap} (hz : (P.info? t).map (·.size) = some m) (hx : oev tm x = .ptr b i o) (hy : oevS tm y = some v) (hb : hget h b = some (.cells sz xs)) (he : xs[i]? = some e) (hel : e.cells.length = sz) (hk : v.known = true) (hm : v.cells.length = m)
  (hs : spl e.cells o v.cells = some cs) (hh : hsetS h b (.cells sz (xs.set i (.agg cs))) = some h') : OpOK P (.store t x y) ⟨tm, h, nx⟩ .top h' nx := op_storeAs hz hx (oevS_spec hy) hb he hel hk hm hs hh
theorem st1 {t : TypeId} {x y : Operand} {b i : Nat} {xs xs' : List AV} {e v : AV} {h' : Heap} (hz : (P.info? t).map (·.size) = some 1) (hx : oev tm x = .ptr b i 0) (hy : oevS tm y = some v) (hb : hget h b = some (.cells 1 xs)) (he : xs[i]? = some e) (hna : e.one = true) (hk : v.one = true)
  (hx' : setS xs i v = some xs') (hh : hsetS h b (.cells 1 xs') = some h') : OpOK P (.store t x y) ⟨tm, h, nx⟩ .top h' nx := op_store1 hz hx (oevS_spec hy) hb he hk hx' hh
theorem st1s {t : TypeId} {x y : Operand} {b i : Nat} {xs : List AV} {e v : AV} {h' : Heap} (hz : (P.info? t).map (·.size) = some 1) (hx : oev tm x = .ptr b i 0) (hy : oevS tm y = some v) (hb : hget h b = some (.cells 1 xs)) (he : xs[i]? = some e) (hna : e.one = true) (hk : v.one = true)
  (hh : hsetS h b (.cells 1 (xs.set i v)) = some h') : OpOK P (.store t x y) ⟨tm, h, nx⟩ .top h' nx := op_store1s hz hx (oevS_spec hy) hb he hk hh

theorem st_call0 {c : Ctx} {n : Nat} {Qe : Exit → St → Prop} {ops : Array Oper} {d : Nat} {xs : Array Operand} {ts : Array TypeId} {ty : TypeId} {pos : String} {aft : Array Edge} {rst : List Oper} {f : FuncId} {fn : Func} {args largs : List AV} {al : Bool} {Q : AV → Heap → Nat → Prop}
  (hac : AC P f largs [] 0 al Q) (hf : P.funcs[f]? = some fn) (hn : (fn.name == "runtime.NumGoroutine") = false ∧ fn.body.isNone = false)
  (hargs : oevsS tm xs.toList = some args) (hlend : Lends al h (swp [] 0 nx) [] args largs) (hd : Nat.blt d n = true)
  (hk : ∀ r h' nx', Q r h' nx' → ∀ r2 h2 n2, r.ren (swp [] 0 nx) = r2 → h ++ h'.map (fun p => (swp [] 0 nx p.1, p.2.ren (swp [] 0 nx))) = h2 → nx + nx' = n2 → AL P c n ops Qe rst ⟨(d, r2) :: tm, h2, n2⟩) :
  AL P c n ops Qe (⟨some d, .call { callee := .value (.func f), args := xs, argTypes := ts }, ty, pos, aft, none⟩ :: rst) ⟨tm, h, nx⟩ :=
 st_call (first := []) (caps := []) hac hf hn rfl (by rw [oevsS_spec _ _ hargs, List.append_nil, List.nil_append]) hlend hd hk
end

theorem pcons {P : Program} {tm : List (Nat × AV)} {fs : Array Field} {i : Nat} {x : Operand} {f : Field} {v : AV} {l : List (Nat × Operand)} {ps : List (Nat × AV)} (hf : fs[i]? = some f) (hx : oevS tm x = some v) (hz : (P.info? f.type).map (·.size) = some v.cells.length) (hk : v.known = true) (ht : Parts P tm fs l ps) : Parts P tm fs ((i, x) :: l) ((f.offset, v) :: ps) := .cons hf (oevS_spec hx) hz hk ht

end Go.Proofs.Ytpggknkhldecaaa.Abs
end
section
namespace Go.Proofs.Ytpggknkhldecaaa.Abs

def OpQ (P : Program) (op : Op) (tm : List (Nat × AV)) (h : Heap) (v : AV) : Prop := ∀ nx, OpOK P op ⟨tm, h, nx⟩ v h nx

theorem OpP.q {P : Program} {op : Op} {tm : List (Nat × AV)} {h : Heap} {v : AV} (hp : OpP P op tm h v) : OpQ P op tm h v := fun _ => hp.ok

theorem Rep.grow {c : Ctx} {n : Nat} {st : St} {ρ : Rho} {S S' : Nat → Prop} {a : Act} {w w' : World} (h : Rep c n st ρ S a w) (h1 : ∀ b, S b → S' b) (h2 : ∀ b, S' b → S b ∨ w.heap.size ≤ b) (h3 : ∀ b, S' b → b < w'.heap.size) (hw : Same w w') : Rep c n st ρ S' a w' := by
 have hr := h.same hw
 have hS : ∀ b, S b → S' b ∧ w'.heap[b]? = w'.heap[b]? := fun b hb => ⟨h1 b hb, rfl⟩
 refine ⟨hr.size, hr.defers, fun i => (hr.tmps i).mono hS (fun _ _ h => h), ⟨fun b B hb => ?_, hr.sim.inj, h3⟩, ⟨hr.post.os, hr.post.tape, hr.post.output, hr.post.size, hr.post.keep, fun b hb => h1 b (hr.post.sIn b hb), fun b hb => ?_, hr.post.own, hr.post.ids⟩, hr.fresh, hr.le, hr.dom⟩
 ·rcases hr.sim.blk b B hb with ⟨r, q1, q2, q3, q4⟩ | hv
  ·refine .inl ⟨r, q1, q2.mono hS (fun _ _ h => h) rfl, fun hs => ?_, q4⟩
   rcases h2 _ hs with h' | h'
   ·exact q3 h'
   ·have := (blk_of h hb q1).2.1; omega
  ·exact .inr hv
 ·rcases h2 b hb with h' | h'
  ·exact hr.post.sNew b h'
  ·exact .inr (Nat.le_trans h.post.size h')

structure It where
 v : AV
 ef : Bool
 lo : Nat
 hi : Nat
 ks : List Nat

def sel (ks : List Nat) (tm : List (Nat × AV)) : List (Nat × AV) := ks.map fun k => (k, tget tm k)

theorem tget_sel (ks : List Nat) (tm : List (Nat × AV)) (x : Nat) : tget (sel ks tm) x = if x ∈ ks then tget tm x else .top := by
 induction ks with
 | nil => simp [sel, tget]
 | cons k ks ih =>
  simp only [sel, List.map_cons, tget]
  by_cases e : k = x
  ·subst e; simp
  ·rw [if_neg e]
   unfold sel at ih
   rw [ih]
   simp [Ne.symm e]

def rank (its : List It) (i : Nat) : Nat := (its.take i).countP (fun it => it.ef)

def edges (o : Oper) : List Nat := (o.after.toList.filter fun e => Region.binds .any e).map (·.on)

theorem mem_edges {o : Oper} {p : Nat} : p ∈ edges o ↔ ∃ e ∈ o.after, Region.binds .any e = true ∧ e.on = p := by
 unfold edges
 simp only [List.mem_map, List.mem_filter, Array.mem_toList_iff]
 constructor
 ·rintro ⟨e, ⟨h1, h2⟩, h3⟩; exact ⟨e, h1, h2, h3⟩
 ·rintro ⟨e, h1, h2, h3⟩; exact ⟨e, ⟨h1, h2⟩, h3⟩

def ent : List Oper → List It → List (Nat × AV) → Nat → AV
 | o :: l, it :: its, tm, x => if o.dst = some x then it.v else ent l its tm x
 | _, _, tm, x => tget tm x

section
variable (l : List Oper) (its : List It) (m : Nat)

structure Plan : Prop where
 len : l.length = its.length
 up : ∀ (i : Nat) (o : Oper), l[i]? = some o → ∀ p ∈ edges o, p < i
 dist : ∀ (i j : Nat) (o o' : Oper) (d : Nat), l[i]? = some o → l[j]? = some o' → o.dst = some d → o'.dst = some d → i = j
 lo : ∀ (i : Nat) (o : Oper) (it : It), l[i]? = some o → its[i]? = some it → it.lo = 0 ∨ ∃ p ∈ edges o, ∃ q, its[p]? = some q ∧ ((q.ef = true ∧ rank its p + 1 = it.lo) ∨ it.lo ≤ q.lo)
 eff : ∀ (i : Nat) (it : It), its[i]? = some it → it.ef = true → it.lo = rank its i ∧ it.hi = rank its i ∧ rank its i < m
 hi : ∀ (i : Nat) (it : It), its[i]? = some it → m ≤ it.hi ∨ it.ef = true ∨ ∃ j o q, l[j]? = some o ∧ its[j]? = some q ∧ i ∈ edges o ∧ ((q.ef = true ∧ rank its j ≤ it.hi) ∨ q.hi ≤ it.hi)
 slots : ∀ (i : Nat) (o : Oper) (it : It), l[i]? = some o → its[i]? = some it → ∀ k ∈ it.ks, (∃ p ∈ edges o, ∃ o', l[p]? = some o' ∧ o'.dst = some k) ∨ ∀ (j : Nat) (o' : Oper), l[j]? = some o' → o'.dst = some k → i ∈ edges o'
 guard : ∀ (i : Nat) (o : Oper) (j : Nat) (b : Bool), l[i]? = some o → o.guard = some (j, b) → j ∈ edges o ∧ ∃ o' d, l[j]? = some o' ∧ o'.dst = some d

end

def Run (P : Program) (op : Op) (ef : Bool) (v : AV) (tm : List (Nat × AV)) (s : Nat) (hs : List (Heap × Nat)) (H : Heap) (X : Nat) : Prop :=
 if ef then ∃ H' X', hs[s + 1]? = some (H', X') ∧ OpOK P op ⟨tm, H, X⟩ v H' X' else OpQ P op tm H v

def Ob (P : Program) (l : List Oper) (its : List It) (F : Nat → List (Nat × AV)) (hs : List (Heap × Nat)) (i s : Nat) : Prop :=
 ∀ o it H X, l[i]? = some o → its[i]? = some it → hs[s]? = some (H, X) →
  match o.guard with
  | none => Run P o.op it.ef it.v (sel it.ks (F i)) s hs H X
  | some (j, b) => ∃ g, (∃ q, its[j]? = some q ∧ gv q.v = some g) ∧ (g = some b → Run P o.op it.ef it.v (sel it.ks (F i)) s hs H X) ∧ (g ≠ some b → it.v = .tup [] ∧ it.ef = false)

section
variable {P : Program} {c : Ctx} {n : Nat} {Q : Exit → St → Prop} {l : List Oper} {its : List It} {m : Nat} {hs : List (Heap × Nat)} {tm0 : List (Nat × AV)}

def L (t : Array Bool) (i : Nat) : Prop := t.getD i false = true

structure DInv (c : Ctx) (n : Nat) (l : List Oper) (its : List It) (m : Nat) (hs : List (Heap × Nat)) (tm0 : List (Nat × AV)) (t : Array Bool) (a : Act) (w : World) (s : Nat) : Prop where
 size : t.size = l.length
 closed : ∀ (i : Nat) (o : Oper), l[i]? = some o → L t i → ∀ p ∈ edges o, L t p
 st : ∀ (i : Nat) (it : It), its[i]? = some it → it.ef = true → (L t i ↔ rank its i < s)
 sm : s ≤ m
 rep : ∃ tm H X ρ S, hs[s]? = some (H, X) ∧ Rep c n ⟨tm, H, X⟩ ρ S a w ∧ (∀ (i : Nat) (o : Oper) (it : It) (x : Nat), l[i]? = some o → its[i]? = some it → o.dst = some x → L t i → tget tm x = it.v) ∧
  ∀ x, (∀ (i : Nat) (o : Oper), l[i]? = some o → o.dst = some x → ¬ L t i) → tget tm x = tget tm0 x

theorem rank_lt {i j : Nat} {it : It} (hij : i < j) (hi : its[i]? = some it) (he : it.ef = true) : rank its i < rank its j := by
 have hil : i < its.length := (List.getElem?_eq_some_iff.1 hi).1
 unfold rank
 have e : its.take j = its.take i ++ (its.drop i).take (j - i) := by
  rw [← List.take_add, show i + (j - i) = j from by omega]
 rw [e, List.countP_append]
 have e2 : (its.drop i).take (j - i) = it :: ((its.drop (i + 1)).take (j - i - 1)) := by
  rw [List.getElem?_eq_some_iff] at hi
  obtain ⟨_, hi⟩ := hi
  rw [List.drop_eq_getElem_cons hil, hi, show j - i = (j - i - 1) + 1 from by omega, List.take_succ_cons]
  simp
 rw [e2, List.countP_cons, he]
 simp

theorem rank_inj {i j : Nat} {it jt : It} (hi : its[i]? = some it) (hj : its[j]? = some jt) (he : it.ef = true) (he' : jt.ef = true) (h : rank its i = rank its j) : i = j := by
 rcases Nat.lt_trichotomy i j with h1 | h1 | h1
 ·have := rank_lt h1 hi he; omega
 ·exact h1
 ·have := rank_lt h1 hj he'; omega

theorem lo_ok (hp : Plan l its m) {t : Array Bool} {a : Act} {w : World} {s : Nat} (hd : DInv c n l its m hs tm0 t a w s) : ∀ (k i : Nat) (o : Oper) (it : It), i < k → l[i]? = some o → its[i]? = some it → (∀ p ∈ edges o, L t p) → it.lo ≤ s := by
 intro k
 induction k with
 | zero => intro i o it hi; omega
 | succ k ih =>
  intro i o it hi ho hit hall
  rcases hp.lo i o it ho hit with h | ⟨p, hpe, q, hq, h⟩
  ·omega
  ·have hpi := hp.up i o ho p hpe
   have hLp := hall p hpe
   obtain ⟨op, hop⟩ : ∃ op, l[p]? = some op := ⟨_, List.getElem?_eq_getElem (by rw [hp.len]; exact (List.getElem?_eq_some_iff.1 hq).1)⟩
   rcases h with ⟨h1, h2⟩ | h1
   ·have := (hd.st p q hq h1).1 hLp
    omega
   ·have := ih p op q (by omega) hop hq (hd.closed p op hop hLp)
    omega

theorem hi_ok (hp : Plan l its m) {t : Array Bool} {a : Act} {w : World} {s : Nat} (hd : DInv c n l its m hs tm0 t a w s) : ∀ (k i : Nat) (it : It), l.length - i ≤ k → its[i]? = some it → ¬ L t i → s ≤ it.hi := by
 intro k
 induction k with
 | zero =>
  intro i it hk hit _
  have := (List.getElem?_eq_some_iff.1 hit).1
  rw [← hp.len] at this
  omega
 | succ k ih =>
  intro i it hk hit hn
  rcases hp.hi i it hit with h | h | ⟨j, o, q, ho, hq, he, h⟩
  ·have := hd.sm; omega
  ·obtain ⟨h1, h2, h3⟩ := hp.eff i it hit h
   rcases Nat.lt_or_ge (rank its i) s with hlt | hge
   ·exact absurd ((hd.st i it hit h).2 hlt) hn
   ·omega
  ·have hij := hp.up j o ho i he
   have hnj : ¬ L t j := fun hl => hn (hd.closed j o ho hl i he)
   rcases h with ⟨h1, h2⟩ | h1
   ·rcases Nat.lt_or_ge (rank its j) s with hlt | hge
    ·exact absurd ((hd.st j q hq h1).2 hlt) hnj
    ·omega
   ·have := ih j q (by omega) hq hnj
    omega

theorem ent_spec : ∀ (l : List Oper) (its : List It) (tm : List (Nat × AV)) (x : Nat), l.length = its.length → (∀ (i j : Nat) (o o' : Oper) (d : Nat), l[i]? = some o → l[j]? = some o' → o.dst = some d → o'.dst = some d → i = j) →
  (∀ (i : Nat) (o : Oper) (it : It), l[i]? = some o → its[i]? = some it → o.dst = some x → ent l its tm x = it.v) ∧ ((∀ (i : Nat) (o : Oper), l[i]? = some o → o.dst ≠ some x) → ent l its tm x = tget tm x) := by
 intro l
 induction l with
 | nil => intro its tm x hl _; exact ⟨fun i o it h => by simp at h, fun _ => by cases its <;> rfl⟩
 | cons o l ih =>
  intro its tm x hl hd
  cases its with
  | nil => simp at hl
  | cons it its =>
   obtain ⟨h1, h2⟩ := ih its tm x (by simpa using hl) (fun i j o o' d a b e f => by have := hd (i + 1) (j + 1) o o' d a b e f; omega)
   simp only [ent]
   refine ⟨fun i o' it' ho hi hdst => ?_, fun hno => ?_⟩
   ·cases i with
    | zero =>
     simp only [List.getElem?_cons_zero, Option.some.injEq] at ho hi
     subst ho; subst hi
     rw [if_pos hdst]
    | succ i =>
     have : ¬ o.dst = some x := fun e => by have := hd 0 (i + 1) o o' x rfl ho e hdst; omega
     rw [if_neg this]
     exact h1 i o' it' ho hi hdst
   ·rw [if_neg (hno 0 o rfl)]
    exact h2 (fun i o' ho => hno (i + 1) o' ho)

theorem L_set {t : Array Bool} {i j : Nat} (hi : i < t.size) : L (t.setIfInBounds i true) j ↔ i = j ∨ L t j := by
 unfold L
 by_cases e : i = j
 ·subst e; simp [hi]
 ·rw [getD_set_ne false e]; simp [e]

theorem draw_step (hp : Plan l its m) (hdn : ∀ o ∈ l, ∀ d, o.dst = some d → d < n) {F : Nat → List (Nat × AV)} (hF : ∀ (i : Nat) (o : Oper) (it : It) (k : Nat), l[i]? = some o → its[i]? = some it → k ∈ it.ks → (∀ (p : Nat) (o' : Oper) (jt : It), p ∈ edges o → l[p]? = some o' → its[p]? = some jt → o'.dst = some k → tget (F i) k = jt.v) ∧
   ((∀ (j : Nat) (o' : Oper), l[j]? = some o' → o'.dst = some k → i ∈ edges o') → tget (F i) k = tget tm0 k))
  (hob : ∀ (i s : Nat) (it : It), its[i]? = some it → it.lo ≤ s → s ≤ it.hi → s ≤ m → Ob P l its F hs i s)
  {t : Array Bool} {a : Act} {w : World} {s : Nat} (hd : DInv c n l its m hs tm0 t a w s) {i : Nat} {o : Oper} (ho : l[i]? = some o) (hn : ¬ L t i) (hall : ∀ p ∈ edges o, L t p)
  {K : Act → World → Prop} {Qe : Exit → Act → World → Prop} (hK : ∀ a' w' s', DInv c n l its m hs tm0 (t.setIfInBounds i true) a' w' s' → K a' w') : wpOp P l.toArray Qe i K a w := by
 have hil : i < l.length := (List.getElem?_eq_some_iff.1 ho).1
 obtain ⟨it, hit⟩ : ∃ it, its[i]? = some it := ⟨_, List.getElem?_eq_getElem (by rw [← hp.len]; exact hil)⟩
 have hlo := lo_ok hp hd (i + 1) i o it (by omega) ho hit hall
 have hhi := hi_ok hp hd (l.length - i) i it (Nat.le_refl _) hit hn
 obtain ⟨tm, H, X, ρ, S, hHs, hrep, hE1, hE2⟩ := hd.rep
 have hO := hob i s it hit hlo hhi hd.sm o it H X ho hit hHs
 have hmnr : Rep c n ⟨sel it.ks (F i), H, X⟩ ρ S a w := by
  refine ⟨hrep.size, hrep.defers, fun x => ?_, hrep.sim, hrep.post, hrep.fresh, hrep.le, hrep.dom⟩
  show VR S w ρ (tget (sel it.ks (F i)) x) _
  rw [tget_sel]
  split
  ·rename_i hx
   obtain ⟨f1, f2⟩ := hF i o it x ho hit hx
   have hval : tget (F i) x = tget tm x := by
    rcases hp.slots i o it ho hit x hx with ⟨p, hpe, o', ho', hd'⟩ | hno
    ·obtain ⟨jt, hjt⟩ : ∃ jt, its[p]? = some jt := ⟨_, List.getElem?_eq_getElem (by rw [← hp.len]; exact (List.getElem?_eq_some_iff.1 ho').1)⟩
     rw [f1 p o' jt hpe ho' hjt hd', hE1 p o' jt x ho' hjt hd' (hall p hpe)]
    ·rw [f2 hno, hE2 x (fun j o' ho' hd' hL => hn (hd.closed j o' ho' hL i (hno j o' ho' hd')))]
   rw [hval]
   exact hrep.tmps x
  ·exact .top
 have hset : i < t.size := by rw [hd.size]; exact hil
 have next : ∀ (w' : World) (u : Value) (H' : Heap) (X' : Nat) (ρ' : Rho) (S' : Nat → Prop) (s' : Nat), Rep c n ⟨tm, H', X'⟩ ρ' S' a w' → VR S' w' ρ' it.v u → hs[s']? = some (H', X') → s' ≤ m →
   (∀ (j : Nat) (jt : It), its[j]? = some jt → jt.ef = true → (i = j ∨ L t j ↔ rank its j < s')) → DInv c n l its m hs tm0 (t.setIfInBounds i true) (a.put o.dst u) w' s' := by
  intro w' u H' X' ρ' S' s' hr' hv' hh' hs' hst'
  refine ⟨by simp [hd.size], fun j o' ho' hL p hpe => ?_, fun j jt hj he => ?_, hs', ?_⟩
  ·rw [L_set hset] at hL ⊢
   rcases hL with rfl | hL
   ·rw [ho] at ho'
    obtain rfl := Option.some.inj ho'
    exact .inr (hall p hpe)
   ·exact .inr (hd.closed j o' ho' hL p hpe)
  ·rw [L_set hset]; exact hst' j jt hj he
  ·cases hdst : o.dst with
   | none =>
    refine ⟨tm, H', X', ρ', S', hh', hr', fun j o' jt x hj hjt hx hL => ?_, fun x hx => hE2 x (fun j o' hj hxd hL => hx j o' hj hxd ((L_set hset).2 (.inr hL)))⟩
    rcases (L_set hset).1 hL with rfl | hL
    ·rw [ho] at hj; obtain rfl := Option.some.inj hj; rw [hdst] at hx; cases hx
    ·exact hE1 j o' jt x hj hjt hx hL
   | some d =>
    refine ⟨(d, it.v) :: tm, H', X', ρ', S', hh', hr'.put d (hdn o (List.mem_of_getElem? ho) d hdst) it.v u hv', fun j o' jt x hj hjt hx hL => ?_, fun x hx => ?_⟩
    ·by_cases e : d = x
     ·subst e
      have : i = j := hp.dist i j o o' d ho hj hdst hx
      subst this
      rw [hit] at hjt
      obtain rfl := Option.some.inj hjt
      simp [tget]
     ·simp only [tget, e, if_false]
      rcases (L_set hset).1 hL with rfl | hL
      ·rw [ho] at hj; obtain rfl := Option.some.inj hj; rw [hdst] at hx; exact absurd (Option.some.inj hx) e
      ·exact hE1 j o' jt x hj hjt hx hL
    ·have e : d ≠ x := fun e => hx i o ho (by rw [hdst, e]) ((L_set hset).2 (.inl rfl))
     simp only [tget, e, if_false]
     exact hE2 x (fun j o' hj hxd hL => hx j o' hj hxd ((L_set hset).2 (.inr hL)))
 have hquiet : ∀ (j : Nat) (jt : It), it.ef = false → its[j]? = some jt → jt.ef = true → (i = j ∨ L t j ↔ rank its j < s) := by
  intro j jt hef hj he
  rw [← hd.st j jt hj he]
  constructor
  ·rintro (rfl | h)
   ·rw [hit] at hj; obtain rfl := Option.some.inj hj; rw [hef] at he; cases he
   ·exact h
  ·exact .inr
 have hrun : Run P o.op it.ef it.v (sel it.ks (F i)) s hs H X → o.wp P a w K Qe := by
  intro hR
  unfold Run at hR
  cases hef : it.ef with
  | true =>
   rw [hef] at hR
   simp only [if_true] at hR
   obtain ⟨H', X', hh', hop⟩ := hR
   obtain ⟨k1, k2, k3⟩ := hp.eff i it hit hef
   have hs1 : s = rank its i := by omega
   refine (hop c n ρ S a w hmnr o rfl).wp fun u w' ⟨ρ', S', r3, r4, r5, r6⟩ => ?_
   have hr' : Rep c n ⟨tm, H', X'⟩ ρ' S' a w' := ⟨r3.size, r3.defers, fun x => (hrep.tmps x).mono r6 r5, r3.sim, r3.post, r3.fresh, r3.le, r3.dom⟩
   refine hK _ _ _ (next w' u H' X' ρ' S' (s + 1) hr' r4 hh' (by omega) (fun j jt hj he => ?_))
   rw [hd.st j jt hj he]
   constructor
   ·rintro (rfl | h)
    ·omega
    ·omega
   ·intro h
    rcases Nat.lt_or_ge (rank its j) s with h' | h'
    ·exact .inr h'
    ·exact .inl (rank_inj hit hj hef he (by omega))
  | false =>
   rw [hef] at hR
   simp only [Bool.false_eq_true, if_false] at hR
   refine (hR X c n ρ S a w hmnr o rfl).wp fun u w' ⟨ρ', S', r3, r4, r5, r6⟩ => ?_
   have hr' : Rep c n ⟨tm, H, X⟩ ρ' S' a w' := ⟨r3.size, r3.defers, fun x => (hrep.tmps x).mono r6 r5, r3.sim, r3.post, r3.fresh, r3.le, r3.dom⟩
   exact hK _ _ _ (next w' u H X ρ' S' s hr' r4 hHs hd.sm (fun j jt => hquiet j jt hef))
 unfold wpOp
 rw [show l.toArray[i]? = some o from by rw [List.getElem?_toArray]; exact ho]
 simp only []
 cases hg : o.guard with
 | none =>
  rw [hg] at hO
  rw [if_pos (by simp [Region.wanted, hg])]
  exact .inl (hrun hO)
 | some jb =>
  obtain ⟨j, b⟩ := jb
  rw [hg] at hO
  simp only [] at hO
  obtain ⟨b', ⟨q, hq1, hq2⟩, h1, h2⟩ := hO
  obtain ⟨hje, o', d, ho', hd'⟩ := hp.guard i o j b ho hg
  have hval := hE1 j o' q d ho' hq1 hd' (hall j hje)
  have hy : yielded l.toArray a.tmps j = b' := yielded_gv hrep (d := d) (by rw [List.getElem?_toArray, ho']; exact hd') (hdn o' (List.mem_of_getElem? ho') d hd') (by rw [show (St.mk tm H X).tm = tm from rfl, hval]; exact hq2)
  by_cases e : b' = some b
  ·rw [if_pos (by simp [Region.wanted, hg, hy, e])]
   exact .inl (hrun (h1 e))
  ·rw [if_neg (by simp [Region.wanted, hg, hy, e])]
   obtain ⟨e1, e2⟩ := h2 e
   exact hK _ _ _ (next w undef H X ρ S s hrep (by rw [e1]; exact .tup #[] rfl (fun i x u hx _ => by simp at hx)) hHs hd.sm (fun j jt => hquiet j jt e2))

theorem countP_less {p q : Nat → Bool} : ∀ {l : List Nat}, (∀ x ∈ l, p x = true → q x = true) → ∀ {y : Nat}, y ∈ l → q y = true → p y = false → l.countP p + 1 ≤ l.countP q := by
 intro l
 induction l with
 | nil => intro _ y hy; cases hy
 | cons a l ih =>
  intro h y hy hq hp
  simp only [List.countP_cons]
  rcases List.mem_cons.1 hy with rfl | hy
  ·have := List.countP_mono_left (fun x hx => h x (List.mem_cons_of_mem _ hx)) (l := l)
   simp only [hq, hp, if_true, Bool.false_eq_true, if_false]
   omega
  ·have := ih (fun x hx => h x (List.mem_cons_of_mem _ hx)) hy hq hp
   by_cases ha : p a = true
   ·simp only [ha, h a List.mem_cons_self ha, if_true]; omega
   ·simp only [ha, Bool.false_eq_true, if_false]; omega

def left (n : Nat) (t : Array Bool) : Nat := (List.range n).countP fun i => !t.getD i false

theorem getD_tf {t : Array Bool} {i : Nat} (h : i < t.size) : t.getD i true = t.getD i false := by
 simp [Array.getD_eq_getD_getElem?, h]

theorem ready_mem {t : Array Bool} {i : Nat} (hts : t.size = l.length) : i ∈ Region.ready .any l.toArray t ↔ i < l.length ∧ ¬ L t i ∧ ∃ o, l[i]? = some o ∧ ∀ p ∈ edges o, L t p := by
 unfold Region.ready
 rw [List.mem_filter, List.mem_range, List.size_toArray]
 constructor
 ·rintro ⟨h1, h2⟩
  rw [Bool.and_eq_true] at h2
  rw [getD_tf (by omega)] at h2
  refine ⟨h1, by unfold L; have := h2.1; revert this; cases t.getD i false <;> simp, ?_⟩
  have h3 := h2.2
  rw [List.getElem?_toArray] at h3
  cases ho : l[i]? with
  | none => rw [ho] at h3; simp at h3
  | some o =>
   rw [ho] at h3
   refine ⟨o, rfl, fun p hp => ?_⟩
   obtain ⟨e, he, hb, rfl⟩ := mem_edges.1 hp
   simp only [Option.map_some, Option.getD_some, Array.all_eq_true_iff_forall_mem] at h3
   have := h3 e he
   rw [hb] at this
   simpa [L] using this
 ·rintro ⟨h1, h2, o, ho, h3⟩
  refine ⟨h1, ?_⟩
  rw [Bool.and_eq_true, getD_tf (by omega)]
  refine ⟨by unfold L at h2; revert h2; cases t.getD i false <;> simp, ?_⟩
  rw [List.getElem?_toArray, ho]
  simp only [Option.map_some, Option.getD_some, Array.all_eq_true_iff_forall_mem]
  intro e he
  cases hb : Region.binds .any e with
  | false => rfl
  | true =>
   have := h3 e.on (mem_edges.2 ⟨e, he, hb, rfl⟩)
   unfold L at this
   rw [this]; rfl

theorem ready_nil (hp : Plan l its m) {t : Array Bool} (hts : t.size = l.length) (h : Region.ready .any l.toArray t = []) : ∀ i, i < l.length → L t i := by
 intro i
 induction i using Nat.strongRecOn with
 | ind i ih =>
  intro hi
  refine Classical.byContradiction fun hn => ?_
  have : i ∈ Region.ready .any l.toArray t := (ready_mem hts).2 ⟨hi, hn, _, List.getElem?_eq_getElem hi, fun p hpe => by
   have := hp.up i _ (List.getElem?_eq_getElem hi) p hpe
   exact ih p this (by omega)⟩
  rw [h] at this
  cases this

theorem draw_any (hp : Plan l its m) (hdn : ∀ o ∈ l, ∀ d, o.dst = some d → d < n) {F : Nat → List (Nat × AV)} (hF : ∀ (i : Nat) (o : Oper) (it : It) (k : Nat), l[i]? = some o → its[i]? = some it → k ∈ it.ks → (∀ (p : Nat) (o' : Oper) (jt : It), p ∈ edges o → l[p]? = some o' → its[p]? = some jt → o'.dst = some k → tget (F i) k = jt.v) ∧
   ((∀ (j : Nat) (o' : Oper), l[j]? = some o' → o'.dst = some k → i ∈ edges o') → tget (F i) k = tget tm0 k)) {E : List (Nat × AV)} (hE : ∀ x, tget E x = ent l its tm0 x)
  (hob : ∀ (i s : Nat) (it : It), its[i]? = some it → it.lo ≤ s → s ≤ it.hi → s ≤ m → Ob P l its F hs i s) (hm : rank its its.length = m) {H : Heap} {X : Nat} (hH : hs[m]? = some (H, X)) (hQ : Q .normal ⟨E, H, X⟩) :
  ∀ (fuel : Nat) (t : Array Bool) (a : Act) (w : World) (s : Nat), left l.length t ≤ fuel → DInv c n l its m hs tm0 t a w s → wpAny P .any l.toArray (Lift c n Q) fuel t a w := by
 have fin : ∀ (t : Array Bool) (a : Act) (w : World) (s : Nat), DInv c n l its m hs tm0 t a w s → Region.ready .any l.toArray t = [] → Lift c n Q .normal a w := by
  intro t a w s hd hr
  have hall := ready_nil hp hd.size hr
  obtain ⟨tm, H', X', ρ, S, hHs, hrep, hE1, hE2⟩ := hd.rep
  have hs : s = m := by
   refine Nat.le_antisymm hd.sm ?_
   refine Nat.le_of_not_lt fun hlt => ?_
   have find : ∀ (k : Nat), s < rank its k → ∃ i it, its[i]? = some it ∧ it.ef = true ∧ rank its i = s := by
    intro k
    induction k with
    | zero => intro h; simp [rank] at h
    | succ k ih =>
     intro h
     by_cases hk : s < rank its k
     ·exact ih hk
     ·have e : rank its (k + 1) = rank its k + (match its[k]? with | some it => if it.ef then 1 else 0 | none => 0) := by
       unfold rank
       rw [List.take_add_one, List.countP_append]
       cases hk' : its[k]? with
       | none => simp
       | some it => simp [List.countP_cons]
      cases hk' : its[k]? with
      | none => rw [hk'] at e; simp only [Nat.add_zero] at e; omega
      | some it =>
       rw [hk'] at e
       by_cases hef : it.ef = true
       ·simp only [hef, if_true] at e
        exact ⟨k, it, hk', hef, by omega⟩
       ·simp only [hef, Bool.false_eq_true, if_false, Nat.add_zero] at e; omega
   obtain ⟨i, it, h1, h2, h3⟩ := find its.length (by omega)
   have hil : i < l.length := by rw [hp.len]; exact (List.getElem?_eq_some_iff.1 h1).1
   have := (hd.st i it h1 h2).1 (hall i hil)
   omega
  rw [hs, hH] at hHs
  obtain ⟨rfl, rfl⟩ := Prod.mk.inj (Option.some.inj hHs)
  refine ⟨⟨E, H, X⟩, ρ, S, hQ, hrep.size, hrep.defers, fun x => ?_, hrep.sim, hrep.post, hrep.fresh, hrep.le, hrep.dom⟩
  show VR S w ρ (tget E x) _
  obtain ⟨g1, g2⟩ := ent_spec l its tm0 x hp.len hp.dist
  have : tget E x = tget tm x := by
   rw [hE]
   by_cases hx : ∃ (i : Nat) (o : Oper), l[i]? = some o ∧ o.dst = some x
   ·obtain ⟨i, o, ho, hx⟩ := hx
    have hil : i < l.length := (List.getElem?_eq_some_iff.1 ho).1
    obtain ⟨it, hit⟩ : ∃ it, its[i]? = some it := ⟨_, List.getElem?_eq_getElem (by rw [← hp.len]; exact hil)⟩
    rw [g1 i o it ho hit hx, hE1 i o it x ho hit hx (hall i hil)]
   ·rw [g2 (fun i o ho hx' => hx ⟨i, o, ho, hx'⟩), hE2 x (fun i o ho hx' => absurd ⟨i, o, ho, hx'⟩ hx)]
  rw [this]
  exact hrep.tmps x
 intro fuel
 induction fuel with
 | zero =>
  intro t a w s hl hd
  have hr : Region.ready .any l.toArray t = [] := by
   refine List.eq_nil_iff_forall_not_mem.2 fun i hi => ?_
   obtain ⟨h1, h2, _⟩ := (ready_mem hd.size).1 hi
   have : left l.length t = 0 := by omega
   unfold left at this
   rw [List.countP_eq_zero] at this
   have := this i (List.mem_range.2 h1)
   unfold L at h2
   exact this (by revert h2; cases t.getD i false <;> simp)
  exact ⟨hr, fin t a w s hd hr⟩
 | succ fuel ih =>
  intro t a w s hl hd
  refine ⟨fin t a w s hd, fun i hi => ?_⟩
  obtain ⟨h1, h2, o, ho, h3⟩ := (ready_mem hd.size).1 hi
  refine draw_step hp hdn hF hob hd ho h2 h3 fun a' w' s' hd' => ih _ a' w' s' ?_ hd'
  have hts : i < t.size := by rw [hd.size]; exact h1
  have := countP_less (p := fun j => !(t.setIfInBounds i true).getD j false) (q := fun j => !t.getD j false) (l := List.range l.length) (fun x _ hx => ?_) (List.mem_range.2 h1) ?_ ?_
  ·unfold left at hl ⊢; omega
  ·by_cases e : i = x
   ·subst e
    rw [show (t.setIfInBounds i true).getD i false = true from (L_set hts).2 (.inl rfl)] at hx
    cases hx
   ·rw [getD_set_ne false e] at hx; exact hx
  ·unfold L at h2; revert h2; cases t.getD i false <;> simp
  ·show (!(t.setIfInBounds i true).getD i false) = false
   rw [show (t.setIfInBounds i true).getD i false = true from (L_set hts).2 (.inl rfl)]; rfl

end
end Go.Proofs.Ytpggknkhldecaaa.Abs
end
section
namespace Go.Proofs.Ytpggknkhldecaaa.Abs

def Gd (its : List It) (g : Option (Nat × Bool)) (r : Bool) : Prop :=
 match g with
 | none => r = true
 | some (j, b) => ∃ q g, its[j]? = some q ∧ gv q.v = some g ∧ r = (g == some b)

inductive Col (P : Program) (st0 : St) : List Oper → List It → List (Heap × Nat) → List Nat → St → Prop
 | nil : Col P st0 [] [] [(st0.h, st0.nx)] [] st0
 | q {l its hs fr st o it} (k : Col P st0 l its hs fr st) (hg : Gd its o.guard true) (he : it.ef = false) (h : OpQ P o.op (sel it.ks st.tm) st.h it.v) : Col P st0 (l ++ [o]) (its ++ [it]) hs fr (putA o.dst it.v st)
 | f {l its hs fr st o it} (k : Col P st0 l its hs fr st) (hg : Gd its o.guard true) (he : it.ef = false) (h : ∀ H, OpQ P o.op (sel it.ks st.tm) H it.v) : Col P st0 (l ++ [o]) (its ++ [it]) hs (its.length :: fr) (putA o.dst it.v st)
 | e {l its hs fr st o it h' nx'} (k : Col P st0 l its hs fr st) (hg : Gd its o.guard true) (he : it.ef = true) (h : OpOK P o.op ⟨sel it.ks st.tm, st.h, st.nx⟩ it.v h' nx') : Col P st0 (l ++ [o]) (its ++ [it]) (hs ++ [(h', nx')]) fr (putA o.dst it.v ⟨st.tm, h', nx'⟩)
 | s {l its hs fr st o it} (k : Col P st0 l its hs fr st) (hg : Gd its o.guard false) (he : it.ef = false) (hv : it.v = .tup []) : Col P st0 (l ++ [o]) (its ++ [it]) hs (its.length :: fr) (putA o.dst (.tup []) st)

theorem Gd.more {its : List It} {g : Option (Nat × Bool)} {r : Bool} (h : Gd its g r) (it : It) : Gd (its ++ [it]) g r := by
 unfold Gd at *
 split
 ·exact h
 ·obtain ⟨q, b', h1, h2, h3⟩ := h
  exact ⟨q, b', by rw [List.getElem?_append_left (List.getElem?_eq_some_iff.1 h1).1]; exact h1, h2, h3⟩

theorem rank_more (its : List It) (it : It) {i : Nat} (h : i ≤ its.length) : rank (its ++ [it]) i = rank its i := by
 unfold rank
 rw [List.take_append_of_le_length h]

theorem rank_snoc (its : List It) (it : It) : rank (its ++ [it]) (its.length + 1) = rank its its.length + (if it.ef then 1 else 0) := by
 unfold rank
 rw [List.take_of_length_le (by simp), List.take_of_length_le (by simp), List.countP_append, List.countP_cons]
 simp

def Known (P : Program) (its : List It) (hs : List (Heap × Nat)) (free : Bool) (i : Nat) (o : Oper) (it : It) (tm : List (Nat × AV)) : Prop :=
 ∃ r, Gd its o.guard r ∧ (r = true → (∃ H X, hs[rank its i]? = some (H, X) ∧ Run P o.op it.ef it.v (sel it.ks tm) (rank its i) hs H X) ∧ (free = true → it.ef = false ∧ ∀ H, OpQ P o.op (sel it.ks tm) H it.v)) ∧ (r = false → it.v = .tup [] ∧ it.ef = false)

structure Facts (P : Program) (st0 : St) (l : List Oper) (its : List It) (hs : List (Heap × Nat)) (fr : List Nat) (st : St) : Prop where
 len : l.length = its.length
 hlen : hs.length = rank its its.length + 1
 last : hs[rank its its.length]? = some (st.h, st.nx)
 zero : hs[0]? = some (st0.h, st0.nx)
 known : ∀ (i : Nat) (o : Oper) (it : It), l[i]? = some o → its[i]? = some it → ∃ tm, Known P its hs (fr.contains i) i o it tm ∧ (∀ k, (∀ (j : Nat) (o' : Oper), i ≤ j → l[j]? = some o' → o'.dst ≠ some k) → tget st.tm k = tget tm k) ∧
  (∀ (j : Nat) (o' : Oper) (jt : It) (x : Nat), j < i → l[j]? = some o' → its[j]? = some jt → o'.dst = some x → (∀ (k : Nat) (o'' : Oper), j < k → k < i → l[k]? = some o'' → o''.dst ≠ some x) → tget tm x = jt.v) ∧
  ∀ x, (∀ (j : Nat) (o' : Oper), j < i → l[j]? = some o' → o'.dst ≠ some x) → tget tm x = tget st0.tm x
 val : ∀ (i : Nat) (o : Oper) (it : It) (x : Nat), l[i]? = some o → its[i]? = some it → o.dst = some x → (∀ (j : Nat) (o' : Oper), i < j → l[j]? = some o' → o'.dst ≠ some x) → tget st.tm x = it.v
 old : ∀ x, (∀ (i : Nat) (o : Oper), l[i]? = some o → o.dst ≠ some x) → tget st.tm x = tget st0.tm x
 frs : ∀ i ∈ fr, i < its.length

theorem tget_putA (d : Option Nat) (v : AV) (st : St) (x : Nat) : tget (putA d v st).tm x = if d = some x then v else tget st.tm x := by
 cases d with
 | none => simp [putA]
 | some d =>
  simp only [putA, tget, Option.some.injEq]

theorem putA_h (d : Option Nat) (v : AV) (st : St) : (putA d v st).h = st.h := by cases d <;> rfl
theorem putA_nx (d : Option Nat) (v : AV) (st : St) : (putA d v st).nx = st.nx := by cases d <;> rfl

theorem snoc_get {α : Type} {l : List α} {o x : α} {i : Nat} (h : (l ++ [o])[i]? = some x) : (i < l.length ∧ l[i]? = some x) ∨ (i = l.length ∧ x = o) := by
 rcases Nat.lt_trichotomy i l.length with h1 | h1 | h1
 ·rw [List.getElem?_append_left h1] at h; exact .inl ⟨h1, h⟩
 ·subst h1; simp at h; exact .inr ⟨rfl, h.symm⟩
 ·rw [List.getElem?_eq_none (by simp; omega)] at h; cases h

theorem Run.more {P : Program} {op : Op} {ef : Bool} {v : AV} {tm : List (Nat × AV)} {s : Nat} {hs : List (Heap × Nat)} {H : Heap} {X : Nat} (h : Run P op ef v tm s hs H X) (hs' : List (Heap × Nat)) : Run P op ef v tm s (hs ++ hs') H X := by
 unfold Run at *
 split
 ·rename_i he
  rw [if_pos he] at h
  obtain ⟨H', X', h1, h2⟩ := h
  exact ⟨H', X', by rw [List.getElem?_append_left (List.getElem?_eq_some_iff.1 h1).1]; exact h1, h2⟩
 ·rename_i he
  rw [if_neg he] at h
  exact h

theorem Known.more {P : Program} {its : List It} {hs : List (Heap × Nat)} {free : Bool} {i : Nat} {o : Oper} {it : It} {tm : List (Nat × AV)} (h : Known P its hs free i o it tm) (jt : It) (hs' : List (Heap × Nat)) (hi : i ≤ its.length) : Known P (its ++ [jt]) (hs ++ hs') free i o it tm := by
 obtain ⟨r, h1, h2, h3⟩ := h
 refine ⟨r, h1.more jt, fun hr => ?_, h3⟩
 obtain ⟨⟨H, X, h4, h5⟩, h6⟩ := h2 hr
 rw [rank_more its jt hi]
 exact ⟨⟨H, X, by rw [List.getElem?_append_left (List.getElem?_eq_some_iff.1 h4).1]; exact h4, h5.more hs'⟩, h6⟩

theorem Facts.snoc {P : Program} {st0 : St} {l : List Oper} {its : List It} {hs hs' : List (Heap × Nat)} {fr fr' : List Nat} {st st' : St} (h : Facts P st0 l its hs fr st) (o : Oper) (it : It) (htm : st'.tm = (putA o.dst it.v st).tm)
  (hlen : hs'.length = if it.ef then 1 else 0) (hlast : (hs ++ hs')[rank its its.length + (if it.ef then 1 else 0)]? = some (st'.h, st'.nx)) (hfr : ∀ i, i < its.length → fr'.contains i = fr.contains i) (hfl : ∀ i ∈ fr', i < its.length + 1)
  (hk : Known P (its ++ [it]) (hs ++ hs') (fr'.contains its.length) its.length o it st.tm) : Facts P st0 (l ++ [o]) (its ++ [it]) (hs ++ hs') fr' st' := by
 have hl := h.len
 refine ⟨by simp [hl], by simp only [List.length_append, List.length_cons, List.length_nil, Nat.zero_add]; rw [rank_snoc, h.hlen, hlen]; omega, by simp only [List.length_append, List.length_cons, List.length_nil, Nat.zero_add]; rw [rank_snoc]; exact hlast, ?_, ?_, ?_, ?_, fun i hi => by simpa using hfl i hi⟩
 ·rw [List.getElem?_append_left (by rw [h.hlen]; omega)]; exact h.zero
 ·intro i o' it' ho hit
  rcases snoc_get ho with ⟨h1, h2⟩ | ⟨h1, h2⟩
  ·rcases snoc_get hit with ⟨h3, h4⟩ | ⟨h3, h4⟩
   ·obtain ⟨tm, k1, k2, k3, k4⟩ := h.known i o' it' h2 h4
    refine ⟨tm, by rw [hfr i h3]; exact k1.more it hs' (by omega), fun k hk => ?_, fun j o'' jt x hj ho'' hjt hd hno => ?_, fun x hno => k4 x fun j o'' hj ho'' => hno j o'' hj (by rw [List.getElem?_append_left (List.getElem?_eq_some_iff.1 ho'').1]; exact ho'')⟩
    ·rw [htm, tget_putA, if_neg (hk l.length o (by omega) (by simp))]
     exact k2 k (fun j o'' hij hj => hk j o'' hij (by rw [List.getElem?_append_left (List.getElem?_eq_some_iff.1 hj).1]; exact hj))
    ·rw [List.getElem?_append_left (by omega)] at ho'' hjt
     exact k3 j o'' jt x hj ho'' hjt hd (fun k o3 e1 e2 e3 => hno k o3 e1 e2 (by rw [List.getElem?_append_left (List.getElem?_eq_some_iff.1 e3).1]; exact e3))
   ·omega
  ·rcases snoc_get hit with ⟨h3, h4⟩ | ⟨h3, h4⟩
   ·omega
   ·subst h2; subst h4; subst h3
    refine ⟨st.tm, hk, fun k hk => ?_, fun j o'' jt x hj ho'' hjt hd hno => ?_, fun x hno => ?_⟩
    ·rw [htm, tget_putA, if_neg (hk l.length o' (by omega) (by simp))]
    ·rw [List.getElem?_append_left (by omega)] at ho'' hjt
     exact h.val j o'' jt x ho'' hjt hd (fun k o3 e1 e3 => hno k o3 e1 (by have := (List.getElem?_eq_some_iff.1 e3).1; omega) (by rw [List.getElem?_append_left (List.getElem?_eq_some_iff.1 e3).1]; exact e3))
    ·exact h.old x (fun j o3 e3 => hno j o3 (by have := (List.getElem?_eq_some_iff.1 e3).1; omega) (by rw [List.getElem?_append_left (List.getElem?_eq_some_iff.1 e3).1]; exact e3))
 ·intro i o' it' x ho hit hx hno
  rw [htm, tget_putA]
  rcases snoc_get ho with ⟨h1, h2⟩ | ⟨h1, h2⟩
  ·rcases snoc_get hit with ⟨h3, h4⟩ | ⟨h3, h4⟩
   ·rw [if_neg (hno l.length o h1 (by simp))]
    exact h.val i o' it' x h2 h4 hx (fun j o'' hij hj => hno j o'' hij (by rw [List.getElem?_append_left (List.getElem?_eq_some_iff.1 hj).1]; exact hj))
   ·omega
  ·rcases snoc_get hit with ⟨h3, h4⟩ | ⟨h3, h4⟩
   ·omega
   ·subst h2; subst h4
    rw [if_pos hx]
 ·intro x hno
  rw [htm, tget_putA, if_neg (hno l.length o (by simp))]
  exact h.old x (fun i o' hi => hno i o' (by rw [List.getElem?_append_left (List.getElem?_eq_some_iff.1 hi).1]; exact hi))

theorem Col.facts {P : Program} {st0 : St} {l : List Oper} {its : List It} {hs : List (Heap × Nat)} {fr : List Nat} {st : St} (h : Col P st0 l its hs fr st) : Facts P st0 l its hs fr st := by
 have cons_c : ∀ (fr : List Nat) (n i : Nat), i < n → (n :: fr).contains i = fr.contains i := fun fr n i hi => by
  rw [List.contains_cons]
  have : (i == n) = false := by simp; omega
  rw [this]; rfl
 induction h with
 | nil => exact ⟨rfl, rfl, rfl, rfl, fun i o it h => by simp at h, fun i o it x h => by simp at h, fun _ _ => rfl, fun i hi => by cases hi⟩
 | @q l its hs fr st o it k hg he h ih =>
  have := ih.snoc o it (st' := putA o.dst it.v st) (hs' := []) (fr' := fr) rfl (by rw [he]; rfl) (by rw [he, putA_h, putA_nx]; simpa using ih.last) (fun _ _ => rfl) (fun i hi => Nat.lt_succ_of_lt (ih.frs i hi)) ⟨true, hg.more it, fun _ => ⟨⟨st.h, st.nx, by
   rw [rank_more its it (Nat.le_refl _), List.append_nil]; exact ih.last, by unfold Run; rw [he]; exact h⟩, fun hc => by
    have := ih.frs its.length (by simpa using hc)
    omega⟩, fun e => by cases e⟩
  rwa [List.append_nil] at this
 | @f l its hs fr st o it k hg he h ih =>
  have := ih.snoc o it (st' := putA o.dst it.v st) (hs' := []) (fr' := its.length :: fr) rfl (by rw [he]; rfl) (by rw [he, putA_h, putA_nx]; simpa using ih.last) (fun i hi => cons_c fr _ i hi) (fun i hi => by
   rcases List.mem_cons.1 hi with rfl | hi
   ·omega
   ·have := ih.frs i hi; omega) ⟨true, hg.more it, fun _ => ⟨⟨st.h, st.nx, by
   rw [rank_more its it (Nat.le_refl _), List.append_nil]; exact ih.last, by unfold Run; rw [he]; exact h _⟩, fun _ => ⟨he, h⟩⟩, fun e => by cases e⟩
  rwa [List.append_nil] at this
 | @e l its hs fr st o it h' nx' k hg he h ih =>
  exact ih.snoc o it (st' := putA o.dst it.v ⟨st.tm, h', nx'⟩) (hs' := [(h', nx')]) (fr' := fr) (by cases o.dst <;> rfl) (by rw [he]; rfl) (by rw [he, putA_h, putA_nx, List.getElem?_append_right (by rw [ih.hlen]; exact Nat.le_refl _), ih.hlen]; simp) (fun _ _ => rfl) (fun i hi => Nat.lt_succ_of_lt (ih.frs i hi))
   ⟨true, hg.more it, fun _ => ⟨⟨st.h, st.nx, by
    rw [rank_more its it (Nat.le_refl _), List.getElem?_append_left (by rw [ih.hlen]; omega)]; exact ih.last, by
     unfold Run
     rw [he, rank_more its it (Nat.le_refl _)]
     exact ⟨h', nx', by rw [List.getElem?_append_right (by rw [ih.hlen]; exact Nat.le_refl _), ih.hlen]; simp, h⟩⟩, fun hc => by
    have := ih.frs its.length (by simpa using hc)
    omega⟩, fun e => by cases e⟩
 | @s l its hs fr st o it k hg he hv ih =>
  have := ih.snoc o it (st' := putA o.dst (.tup []) st) (hs' := []) (fr' := its.length :: fr) (by rw [hv]) (by rw [he]; rfl) (by rw [he, putA_h, putA_nx]; simpa using ih.last) (fun i hi => cons_c fr _ i hi) (fun i hi => by
   rcases List.mem_cons.1 hi with rfl | hi
   ·omega
   ·have := ih.frs i hi; omega) ⟨false, hg.more it, (fun e => by cases e), fun _ => ⟨hv, he⟩⟩
  rwa [List.append_nil] at this

def dstIs (o : Oper) (k : Nat) : Bool := match o.dst with | some d => Nat.beq d k | none => false
theorem dstIs_iff {o : Oper} {k : Nat} : dstIs o k = true ↔ o.dst = some k := by
 unfold dstIs
 cases o.dst with
 | none => simp
 | some d => simp

def chk1 (l : List Oper) (its : List It) (m i : Nat) (o : Oper) (it : It) : Bool :=
 (edges o).all (fun p => Nat.blt p i) &&
 (match o.dst with | none => true | some d => (l.take i).all fun o' => !dstIs o' d) &&
 (Nat.beq it.lo 0 || (edges o).any fun p => match its[p]? with | some q => (q.ef && Nat.beq (rank its p + 1) it.lo) || Nat.ble it.lo q.lo | none => false) &&
 (if it.ef then Nat.beq it.lo (rank its i) && Nat.beq it.hi (rank its i) && Nat.blt (rank its i) m else Nat.ble m it.hi || (List.range l.length).any fun j => match l[j]?, its[j]? with
  | some o', some q => (edges o').contains i && ((q.ef && Nat.ble (rank its j) it.hi) || Nat.ble q.hi it.hi)
  | _, _ => false) &&
 (it.ks.all fun k => ((edges o).any fun p => match l[p]? with | some o' => dstIs o' k | none => false) || l.all fun o' => !dstIs o' k || (edges o').contains i) &&
 (match o.guard with | none => true | some (j, _) => (edges o).contains j && match l[j]? with | some o' => o'.dst.isSome | none => false)

def chk (l : List Oper) (its : List It) (m : Nat) : Bool :=
 Nat.beq l.length its.length && (List.range l.length).all fun i => match l[i]?, its[i]? with
  | some o, some it => chk1 l its m i o it
  | _, _ => true

theorem chk_plan {l : List Oper} {its : List It} {m : Nat} (h : chk l its m = true) : Plan l its m := by
 unfold chk at h
 rw [Bool.and_eq_true] at h
 obtain ⟨h0, h⟩ := h
 have hlen : l.length = its.length := Nat.eq_of_beq_eq_true h0
 rw [List.all_eq_true] at h
 have one : ∀ (i : Nat) (o : Oper) (it : It), l[i]? = some o → its[i]? = some it → chk1 l its m i o it = true := fun i o it ho hi => by
  have := h i (List.mem_range.2 (List.getElem?_eq_some_iff.1 ho).1)
  rw [ho, hi] at this
  exact this
 have it_of : ∀ (i : Nat) (o : Oper), l[i]? = some o → ∃ it, its[i]? = some it := fun i o ho => ⟨_, List.getElem?_eq_getElem (by rw [← hlen]; exact (List.getElem?_eq_some_iff.1 ho).1)⟩
 have o_of : ∀ (i : Nat) (it : It), its[i]? = some it → ∃ o, l[i]? = some o := fun i it ho => ⟨_, List.getElem?_eq_getElem (by rw [hlen]; exact (List.getElem?_eq_some_iff.1 ho).1)⟩
 have parts : ∀ (i : Nat) (o : Oper) (it : It), l[i]? = some o → its[i]? = some it → _ := fun i o it ho hi => by
  have := one i o it ho hi
  unfold chk1 at this
  simp only [Bool.and_eq_true] at this
  exact this
 have dist : ∀ (i j : Nat) (o o' : Oper) (d : Nat), j < i → l[i]? = some o → l[j]? = some o' → o.dst = some d → o'.dst = some d → False := fun i j o o' d hij ho ho' hd hd' => by
  obtain ⟨it, hit⟩ := it_of i o ho
  obtain ⟨⟨⟨⟨⟨_, h2⟩, _⟩, _⟩, _⟩, _⟩ := parts i o it ho hit
  rw [hd] at h2
  simp only [] at h2
  rw [List.all_eq_true] at h2
  have hm : o' ∈ l.take i := List.mem_of_getElem? (i := j) (by rw [List.getElem?_take_of_lt hij]; exact ho')
  have := h2 o' hm
  rw [dstIs_iff.2 hd'] at this
  cases this
 refine ⟨hlen, fun i o ho p hp => ?_, fun i j o o' d ho ho' hd hd' => ?_, fun i o it ho hit => ?_, fun i it hit he => ?_, fun i it hit => ?_, fun i o it ho hit k hk => ?_, fun i o j b ho hg => ?_⟩
 ·obtain ⟨it, hit⟩ := it_of i o ho
  obtain ⟨⟨⟨⟨⟨h1, _⟩, _⟩, _⟩, _⟩, _⟩ := parts i o it ho hit
  rw [List.all_eq_true] at h1
  have := h1 p hp
  simpa using this
 ·rcases Nat.lt_trichotomy i j with h1 | h1 | h1
  ·exact (dist j i o' o d h1 ho' ho hd' hd).elim
  ·exact h1
  ·exact (dist i j o o' d h1 ho ho' hd hd').elim
 ·obtain ⟨⟨⟨⟨⟨_, _⟩, h3⟩, _⟩, _⟩, _⟩ := parts i o it ho hit
  rw [Bool.or_eq_true] at h3
  rcases h3 with h3 | h3
  ·exact .inl (Nat.eq_of_beq_eq_true h3)
  ·rw [List.any_eq_true] at h3
   obtain ⟨p, hp, h3⟩ := h3
   refine .inr ⟨p, hp, ?_⟩
   cases hq : its[p]? with
   | none => rw [hq] at h3; cases h3
   | some q =>
    rw [hq] at h3
    simp only [Bool.or_eq_true, Bool.and_eq_true] at h3
    exact ⟨q, rfl, h3.imp (fun h => ⟨h.1, Nat.eq_of_beq_eq_true h.2⟩) Nat.le_of_ble_eq_true⟩
 ·obtain ⟨o, ho⟩ := o_of i it hit
  obtain ⟨⟨⟨⟨⟨_, _⟩, _⟩, h4⟩, _⟩, _⟩ := parts i o it ho hit
  rw [if_pos he] at h4
  simp only [Bool.and_eq_true] at h4
  exact ⟨Nat.eq_of_beq_eq_true h4.1.1, Nat.eq_of_beq_eq_true h4.1.2, by simpa using h4.2⟩
 ·obtain ⟨o, ho⟩ := o_of i it hit
  obtain ⟨⟨⟨⟨⟨_, _⟩, _⟩, h4⟩, _⟩, _⟩ := parts i o it ho hit
  by_cases he : it.ef = true
  ·exact .inr (.inl he)
  ·rw [if_neg he] at h4
   rw [Bool.or_eq_true] at h4
   rcases h4 with h4 | h4
   ·exact .inl (Nat.le_of_ble_eq_true h4)
   ·rw [List.any_eq_true] at h4
    obtain ⟨j, hj, h4⟩ := h4
    refine .inr (.inr ?_)
    cases ho' : l[j]? with
    | none => rw [ho'] at h4; cases h4
    | some o' =>
     obtain ⟨q, hq⟩ := it_of j o' ho'
     rw [ho', hq] at h4
     simp only [Bool.and_eq_true, Bool.or_eq_true] at h4
     exact ⟨j, o', q, ho', hq, by simpa using h4.1, h4.2.imp (fun h => ⟨h.1, Nat.le_of_ble_eq_true h.2⟩) Nat.le_of_ble_eq_true⟩
 ·obtain ⟨⟨⟨⟨⟨_, _⟩, _⟩, _⟩, h5⟩, _⟩ := parts i o it ho hit
  rw [List.all_eq_true] at h5
  have h5 := h5 k hk
  rw [Bool.or_eq_true] at h5
  rcases h5 with h5 | h5
  ·rw [List.any_eq_true] at h5
   obtain ⟨p, hp, h5⟩ := h5
   cases ho' : l[p]? with
   | none => rw [ho'] at h5; cases h5
   | some o' => rw [ho'] at h5; exact .inl ⟨p, hp, o', ho', dstIs_iff.1 h5⟩
  ·rw [List.all_eq_true] at h5
   refine .inr fun j o' hj hd => ?_
   have := h5 o' (List.mem_of_getElem? hj)
   rw [dstIs_iff.2 hd] at this
   simpa using this
 ·obtain ⟨it, hit⟩ := it_of i o ho
  obtain ⟨_, h6⟩ := parts i o it ho hit
  rw [hg] at h6
  simp only [Bool.and_eq_true] at h6
  refine ⟨by simpa using h6.1, ?_⟩
  cases ho' : l[j]? with
  | none => rw [ho'] at h6; cases h6.2
  | some o' =>
   rw [ho'] at h6
   obtain ⟨d, hd⟩ := Option.isSome_iff_exists.1 h6.2
   exact ⟨o', d, rfl, hd⟩

def more (l : List Oper) (its : List It) (fr : List Nat) (ps : List (Nat × Nat)) (m : Nat) : Bool :=
 (List.range its.length).all fun i => match its[i]? with
  | some it => it.ef || fr.contains i || (List.range (m + 1)).all fun s => Nat.blt s it.lo || Nat.blt it.hi s || Nat.beq s (rank its i) || ((it.ks.all fun k => (l.drop i).all fun o' => !dstIs o' k) && ps.any fun p => Nat.beq p.1 i && Nat.beq p.2 s)
  | none => true

def At (P : Program) (l : List Oper) (its : List It) (hs : List (Heap × Nat)) (E : List (Nat × AV)) (i s : Nat) : Prop :=
 match l[i]?, its[i]?, hs[s]? with
 | some o, some it, some (H, _) => ∃ tm1, selS E it.ks = some tm1 ∧ OpQ P o.op tm1 H it.v
 | _, _, _ => True

def Ats (P : Program) (l : List Oper) (its : List It) (hs : List (Heap × Nat)) (E : List (Nat × AV)) : List (Nat × Nat) → Prop
 | [] => True
 | p :: ps => At P l its hs E p.1 p.2 ∧ Ats P l its hs E ps

theorem Ats.get {P : Program} {l : List Oper} {its : List It} {hs : List (Heap × Nat)} {E : List (Nat × AV)} : ∀ {ps : List (Nat × Nat)}, Ats P l its hs E ps → ∀ p ∈ ps, At P l its hs E p.1 p.2 := by
 intro ps
 induction ps with
 | nil => intro _ p hp; cases hp
 | cons q ps ih =>
  intro h p hp
  rcases List.mem_cons.1 hp with rfl | hp
  ·exact h.1
  ·exact ih h.2 p hp

theorem selS_spec {tm : List (Nat × AV)} : ∀ (ks : List Nat) (tm1 : List (Nat × AV)), selS tm ks = some tm1 → tm1 = sel ks tm := by
 intro ks
 induction ks with
 | nil => intro tm1 h; exact (Option.some.inj h).symm
 | cons k ks ih =>
  intro tm1 h
  simp only [selS] at h
  split at h
  ·rename_i v r h1 h2
   rw [← Option.some.inj h, ih r h2]
   simp only [sel, List.map_cons, tgetS_spec _ _ _ h1]
  ·cases h

theorem sel_congr {ks : List Nat} {tm tm' : List (Nat × AV)} (h : ∀ k ∈ ks, tget tm k = tget tm' k) : sel ks tm = sel ks tm' := by
 unfold sel
 exact List.map_congr_left fun k hk => by rw [h k hk]

section
variable {P : Program} {c : Ctx} {n : Nat} {Q : Exit → St → Prop} {id : Nat}

theorem draw_end {l : List Oper} {its : List It} {hs : List (Heap × Nat)} {fr : List Nat} {st0 st : St} (ps : List (Nat × Nat)) (hm : P.follows .mixedOrders = true) (hcol : Col P st0 l its hs fr st) (hchk : chk l its (rank its its.length) = true)
  (hdn : (l.all fun o => match o.dst with | some d => Nat.blt d n | none => true) = true) (hmore : more l its fr ps (rank its its.length) = true) (hx : Ats P l its hs st.tm ps) (hQ : Q .normal st) : AW P c n (.region id l.toArray true) Q st0 := by
 intro ρ S a w hr
 have hp := chk_plan hchk
 have hf := hcol.facts
 have hE : ∀ x, tget st.tm x = ent l its st0.tm x := fun x => by
  obtain ⟨g1, g2⟩ := ent_spec l its st0.tm x hp.len hp.dist
  by_cases hx : ∃ (i : Nat) (o : Oper), l[i]? = some o ∧ o.dst = some x
  ·obtain ⟨i, o, ho, hx⟩ := hx
   obtain ⟨it, hit⟩ : ∃ it, its[i]? = some it := ⟨_, List.getElem?_eq_getElem (by rw [← hp.len]; exact (List.getElem?_eq_some_iff.1 ho).1)⟩
   rw [g1 i o it ho hit hx]
   exact hf.val i o it x ho hit hx (fun j o' hij hj hd => by have := hp.dist i j o o' x ho hj hx hd; omega)
  ·rw [g2 (fun i o ho hx' => hx ⟨i, o, ho, hx'⟩)]
   exact hf.old x (fun i o ho hx' => hx ⟨i, o, ho, hx'⟩)
 obtain ⟨F, hFF⟩ : ∃ F : Nat → List (Nat × AV), ∀ (i : Nat) (o : Oper) (it : It), l[i]? = some o → its[i]? = some it → Known P its hs (fr.contains i) i o it (F i) ∧ (∀ k, (∀ (j : Nat) (o' : Oper), i ≤ j → l[j]? = some o' → o'.dst ≠ some k) → tget st.tm k = tget (F i) k) ∧
   (∀ (j : Nat) (o' : Oper) (jt : It) (x : Nat), j < i → l[j]? = some o' → its[j]? = some jt → o'.dst = some x → (∀ (k : Nat) (o'' : Oper), j < k → k < i → l[k]? = some o'' → o''.dst ≠ some x) → tget (F i) x = jt.v) ∧
   ∀ x, (∀ (j : Nat) (o' : Oper), j < i → l[j]? = some o' → o'.dst ≠ some x) → tget (F i) x = tget st0.tm x := by
  refine Classical.axiomOfChoice (r := fun i tm => ∀ (o : Oper) (it : It), l[i]? = some o → its[i]? = some it → Known P its hs (fr.contains i) i o it tm ∧ (∀ k, (∀ (j : Nat) (o' : Oper), i ≤ j → l[j]? = some o' → o'.dst ≠ some k) → tget st.tm k = tget tm k) ∧
   (∀ (j : Nat) (o' : Oper) (jt : It) (x : Nat), j < i → l[j]? = some o' → its[j]? = some jt → o'.dst = some x → (∀ (k : Nat) (o'' : Oper), j < k → k < i → l[k]? = some o'' → o''.dst ≠ some x) → tget tm x = jt.v) ∧
   ∀ x, (∀ (j : Nat) (o' : Oper), j < i → l[j]? = some o' → o'.dst ≠ some x) → tget tm x = tget st0.tm x) fun i => ?_
  by_cases hi : ∃ o it, l[i]? = some o ∧ its[i]? = some it
  ·obtain ⟨o, it, ho, hit⟩ := hi
   obtain ⟨tm, k⟩ := hf.known i o it ho hit
   refine ⟨tm, fun o' it' ho' hit' => ?_⟩
   rw [ho] at ho'; rw [hit] at hit'
   obtain rfl := Option.some.inj ho'
   obtain rfl := Option.some.inj hit'
   exact k
  ·exact ⟨[], fun o it ho hit => (hi ⟨o, it, ho, hit⟩).elim⟩
 have hF : ∀ (i : Nat) (o : Oper) (it : It) (k : Nat), l[i]? = some o → its[i]? = some it → k ∈ it.ks → (∀ (p : Nat) (o' : Oper) (jt : It), p ∈ edges o → l[p]? = some o' → its[p]? = some jt → o'.dst = some k → tget (F i) k = jt.v) ∧
   ((∀ (j : Nat) (o' : Oper), l[j]? = some o' → o'.dst = some k → i ∈ edges o') → tget (F i) k = tget st0.tm k) := fun i o it k ho hit _ => by
  obtain ⟨_, _, k3, k4⟩ := hFF i o it ho hit
  refine ⟨fun p o' jt hp' ho' hjt hd => k3 p o' jt k (hp.up i o ho p hp') ho' hjt hd fun q o'' h1 h2 h3 h4 => ?_, fun hj => k4 k fun j o' hlt ho' hd => ?_⟩
  ·have := hp.dist p q o' o'' k ho' h3 hd h4; omega
  ·have := hp.up j o' ho' i (hj j o' ho' hd); omega
 have hob : ∀ (i s : Nat) (it : It), its[i]? = some it → it.lo ≤ s → s ≤ it.hi → s ≤ rank its its.length → Ob P l its F hs i s := by
  intro i s it0 hit0 hlo hhi hs' o it H X ho hit hH
  rw [hit0] at hit
  obtain rfl := Option.some.inj hit
  obtain ⟨⟨r, k1, k2, k3⟩, k4, _, _⟩ := hFF i o it0 ho hit0
  have hrun : r = true → Run P o.op it0.ef it0.v (sel it0.ks (F i)) s hs H X := fun hr => by
   obtain ⟨⟨H', X', h1, h2⟩, h3⟩ := k2 hr
   by_cases hnat : s = rank its i
   ·subst hnat
    rw [h1] at hH
    obtain ⟨rfl, rfl⟩ := Prod.mk.inj (Option.some.inj hH)
    exact h2
   ·have he : it0.ef = false := by
     cases he : it0.ef with
     | false => rfl
     | true =>
      obtain ⟨e1, e2, _⟩ := hp.eff i it0 hit0 he
      omega
    unfold Run
    rw [he]
    simp only [Bool.false_eq_true, if_false]
    unfold more at hmore
    rw [List.all_eq_true] at hmore
    have hm' := hmore i (List.mem_range.2 (List.getElem?_eq_some_iff.1 hit0).1)
    rw [hit0] at hm'
    simp only [he, Bool.false_or, Bool.or_eq_true] at hm'
    rcases hm' with hm' | hm'
    ·exact (h3 hm').2 H
    ·rw [List.all_eq_true] at hm'
     have := hm' s (List.mem_range.2 (by omega))
     simp only [Bool.or_eq_true] at this
     rcases this with ((h' | h') | h') | h'
     ·have := Nat.le_of_ble_eq_true h'; omega
     ·have := Nat.le_of_ble_eq_true h'; omega
     ·exact absurd (Nat.eq_of_beq_eq_true h') hnat
     ·rw [Bool.and_eq_true, List.any_eq_true] at h'
      obtain ⟨hks, p, hp1, hp2⟩ := h'
      have hsel : sel it0.ks st.tm = sel it0.ks (F i) := sel_congr fun k hk => k4 k fun j o' hij hj hd => by
       have h8 := List.all_eq_true.1 hks k hk
       have h9 := List.all_eq_true.1 h8 o' (List.mem_of_getElem? (i := j - i) (by rw [List.getElem?_drop, Nat.add_sub_cancel' hij]; exact hj))
       rw [dstIs_iff.2 hd] at h9
       cases h9
      rw [Bool.and_eq_true] at hp2
      have e1 := Nat.eq_of_beq_eq_true hp2.1
      have e2 := Nat.eq_of_beq_eq_true hp2.2
      have := hx.get p hp1
      unfold At at this
      rw [e1, e2, ho, hit0, hH] at this
      obtain ⟨tm1, k1, k2⟩ := this
      rw [selS_spec _ _ k1, hsel] at k2
      exact k2
  cases hg : o.guard with
  | none =>
   rw [hg] at k1
   exact hrun k1
  | some jb =>
   obtain ⟨j, b⟩ := jb
   rw [hg] at k1
   obtain ⟨q, b', q1, q2, q3⟩ := k1
   refine ⟨b', ⟨q, q1, q2⟩, fun e => hrun (by rw [q3, e]; simp), fun e => k3 (by rw [q3]; simpa using e)⟩
 have hno : ∀ i, ¬ L (Array.replicate l.length false) i := fun i h => by
  unfold L at h
  rw [Array.getD_eq_getD_getElem?, Array.getElem?_replicate] at h
  split at h <;> simp at h
 have hinit : DInv c n l its (rank its its.length) hs st0.tm (Array.replicate l.length false) a w.drew 0 :=
  ⟨by simp, fun i o _ h => (hno i h).elim, fun i it hit he => ⟨fun h => (hno i h).elim, fun h => absurd h (Nat.not_lt_zero _)⟩, Nat.zero_le _,
   ⟨st0.tm, st0.h, st0.nx, ρ, S, hf.zero, hr.same (Same.drew w), fun i o it x _ _ _ h => (hno i h).elim, fun _ _ => rfl⟩⟩
 refine wp_region_any hm ?_
 have key := draw_any (Q := Q) hp (fun o ho d hd => by
  rw [List.all_eq_true] at hdn
  have := hdn o ho
  rw [hd] at this
  simpa using this) hF hE hob rfl hf.last hQ l.length _ a w.drew 0 (by
   unfold left
   exact Nat.le_trans List.countP_le_length (by simp)) hinit
 simpa using key

def DR (P : Program) (c : Ctx) (n id : Nat) (Q : Exit → St → Prop) (l : List Oper) (st0 : St) (done : List Oper) (its : List It) (hs : List (Heap × Nat)) (fr : List Nat) (st : St) (rest : List Oper) : Prop :=
 l = done.reverse ++ rest → Col P st0 done.reverse its.reverse hs.reverse fr st → AW P c n (.region id l.toArray true) Q st0

theorem dr_go {l : List Oper} {st0 : St} (k : DR P c n id Q l st0 [] [] [(st0.h, st0.nx)] [] st0 l) : AW P c n (.region id l.toArray true) Q st0 := k rfl .nil

variable {l done rest : List Oper} {st0 : St} {its : List It} {hs : List (Heap × Nat)} {fr : List Nat} {tm tm1 : List (Nat × AV)} {h : Heap} {nx : Nat} {op : Op} {ty : TypeId} {pos : String} {aft : Array Edge} {v : AV} {d : Nat}

theorem gd_back {j q : Nat} {b : Bool} {g : Option Bool} {r : Bool} (hq : Nat.beq (q + j + 1) its.length = true) (hg : (its[q]?).bind (fun x => gv x.v) = some g) (hr : r = (g == some b)) : Gd its.reverse (some (j, b)) r := by
 have hq := Nat.eq_of_beq_eq_true hq
 obtain ⟨x, h1, h2⟩ := Option.bind_eq_some_iff.1 hg
 refine ⟨x, g, ?_, h2, hr⟩
 rw [List.getElem?_reverse (by omega), show its.length - 1 - j = q from by omega]
 exact h1

theorem dr_f (lo hi : Nat) (ks : List Nat) (hs1 : selS tm ks = some tm1) (hv : ∀ H, OpP P op tm1 H v)
  (k : DR P c n id Q l st0 (⟨some d, op, ty, pos, aft, none⟩ :: done) (⟨v, false, lo, hi, ks⟩ :: its) hs (its.length :: fr) ⟨(d, v) :: tm, h, nx⟩ rest) :
  DR P c n id Q l st0 done its hs fr ⟨tm, h, nx⟩ (⟨some d, op, ty, pos, aft, none⟩ :: rest) := fun hl hc => by
 have hs1' := selS_spec _ _ hs1
 subst hs1'
 refine k (by rw [hl, List.reverse_cons, List.append_assoc]; rfl) ?_
 have := Col.f (o := ⟨some d, op, ty, pos, aft, none⟩) (it := ⟨v, false, lo, hi, ks⟩) hc rfl rfl (fun H => (hv H).q)
 rw [List.length_reverse] at this
 rw [List.reverse_cons, List.reverse_cons]
 exact this

theorem dr_fq (lo hi : Nat) (ks : List Nat) (hs1 : selS tm ks = some tm1) (hv : ∀ H, OpQ P op tm1 H v)
  (k : DR P c n id Q l st0 (⟨some d, op, ty, pos, aft, none⟩ :: done) (⟨v, false, lo, hi, ks⟩ :: its) hs (its.length :: fr) ⟨(d, v) :: tm, h, nx⟩ rest) :
  DR P c n id Q l st0 done its hs fr ⟨tm, h, nx⟩ (⟨some d, op, ty, pos, aft, none⟩ :: rest) := fun hl hc => by
 have hs1' := selS_spec _ _ hs1
 subst hs1'
 refine k (by rw [hl, List.reverse_cons, List.append_assoc]; rfl) ?_
 have := Col.f (o := ⟨some d, op, ty, pos, aft, none⟩) (it := ⟨v, false, lo, hi, ks⟩) hc rfl rfl hv
 rw [List.length_reverse] at this
 rw [List.reverse_cons, List.reverse_cons]
 exact this

theorem dr_q (lo hi : Nat) (ks : List Nat) (hs1 : selS tm ks = some tm1) (hv : OpP P op tm1 h v)
  (k : DR P c n id Q l st0 (⟨some d, op, ty, pos, aft, none⟩ :: done) (⟨v, false, lo, hi, ks⟩ :: its) hs fr ⟨(d, v) :: tm, h, nx⟩ rest) :
  DR P c n id Q l st0 done its hs fr ⟨tm, h, nx⟩ (⟨some d, op, ty, pos, aft, none⟩ :: rest) := fun hl hc => by
 have hs1' := selS_spec _ _ hs1
 subst hs1'
 refine k (by rw [hl, List.reverse_cons, List.append_assoc]; rfl) ?_
 have := Col.q (o := ⟨some d, op, ty, pos, aft, none⟩) (it := ⟨v, false, lo, hi, ks⟩) hc rfl rfl hv.q
 rw [List.reverse_cons, List.reverse_cons]
 exact this

theorem dr_e {h' : Heap} {nx' : Nat} (s : Nat) (ks : List Nat) (hs1 : selS tm ks = some tm1) (hv : OpOK P op ⟨tm1, h, nx⟩ v h' nx')
  (k : DR P c n id Q l st0 (⟨some d, op, ty, pos, aft, none⟩ :: done) (⟨v, true, s, s, ks⟩ :: its) ((h', nx') :: hs) fr ⟨(d, v) :: tm, h', nx'⟩ rest) :
  DR P c n id Q l st0 done its hs fr ⟨tm, h, nx⟩ (⟨some d, op, ty, pos, aft, none⟩ :: rest) := fun hl hc => by
 have hs1' := selS_spec _ _ hs1
 subst hs1'
 refine k (by rw [hl, List.reverse_cons, List.append_assoc]; rfl) ?_
 have := Col.e (o := ⟨some d, op, ty, pos, aft, none⟩) (it := ⟨v, true, s, s, ks⟩) hc rfl rfl hv
 rw [List.reverse_cons, List.reverse_cons, List.reverse_cons]
 exact this

theorem dr_gf {j : Nat} {b : Bool} (lo hi : Nat) (ks : List Nat) (hs1 : selS tm ks = some tm1) (hv : ∀ H, OpP P op tm1 H v) (q : Nat) (hq : Nat.beq (q + j + 1) its.length = true) (hg : (its[q]?).bind (fun x => gv x.v) = some (some b))
  (k : DR P c n id Q l st0 (⟨some d, op, ty, pos, aft, some (j, b)⟩ :: done) (⟨v, false, lo, hi, ks⟩ :: its) hs (its.length :: fr) ⟨(d, v) :: tm, h, nx⟩ rest) :
  DR P c n id Q l st0 done its hs fr ⟨tm, h, nx⟩ (⟨some d, op, ty, pos, aft, some (j, b)⟩ :: rest) := fun hl hc => by
 have hs1' := selS_spec _ _ hs1
 subst hs1'
 refine k (by rw [hl, List.reverse_cons, List.append_assoc]; rfl) ?_
 have := Col.f (o := ⟨some d, op, ty, pos, aft, some (j, b)⟩) (it := ⟨v, false, lo, hi, ks⟩) hc (gd_back hq hg (by simp)) rfl (fun H => (hv H).q)
 rw [List.length_reverse] at this
 rw [List.reverse_cons, List.reverse_cons]
 exact this

theorem dr_gfq {j : Nat} {b : Bool} (lo hi : Nat) (ks : List Nat) (hs1 : selS tm ks = some tm1) (hv : ∀ H, OpQ P op tm1 H v) (q : Nat) (hq : Nat.beq (q + j + 1) its.length = true) (hg : (its[q]?).bind (fun x => gv x.v) = some (some b))
  (k : DR P c n id Q l st0 (⟨some d, op, ty, pos, aft, some (j, b)⟩ :: done) (⟨v, false, lo, hi, ks⟩ :: its) hs (its.length :: fr) ⟨(d, v) :: tm, h, nx⟩ rest) :
  DR P c n id Q l st0 done its hs fr ⟨tm, h, nx⟩ (⟨some d, op, ty, pos, aft, some (j, b)⟩ :: rest) := fun hl hc => by
 have hs1' := selS_spec _ _ hs1
 subst hs1'
 refine k (by rw [hl, List.reverse_cons, List.append_assoc]; rfl) ?_
 have := Col.f (o := ⟨some d, op, ty, pos, aft, some (j, b)⟩) (it := ⟨v, false, lo, hi, ks⟩) hc (gd_back hq hg (by simp)) rfl hv
 rw [List.length_reverse] at this
 rw [List.reverse_cons, List.reverse_cons]
 exact this

theorem dr_gq {j : Nat} {b : Bool} (lo hi : Nat) (ks : List Nat) (hs1 : selS tm ks = some tm1) (hv : OpP P op tm1 h v) (q : Nat) (hq : Nat.beq (q + j + 1) its.length = true) (hg : (its[q]?).bind (fun x => gv x.v) = some (some b))
  (k : DR P c n id Q l st0 (⟨some d, op, ty, pos, aft, some (j, b)⟩ :: done) (⟨v, false, lo, hi, ks⟩ :: its) hs fr ⟨(d, v) :: tm, h, nx⟩ rest) :
  DR P c n id Q l st0 done its hs fr ⟨tm, h, nx⟩ (⟨some d, op, ty, pos, aft, some (j, b)⟩ :: rest) := fun hl hc => by
 have hs1' := selS_spec _ _ hs1
 subst hs1'
 refine k (by rw [hl, List.reverse_cons, List.append_assoc]; rfl) ?_
 have := Col.q (o := ⟨some d, op, ty, pos, aft, some (j, b)⟩) (it := ⟨v, false, lo, hi, ks⟩) hc (gd_back hq hg (by simp)) rfl hv.q
 rw [List.reverse_cons, List.reverse_cons]
 exact this

theorem dr_n {h' : Heap} {nx' : Nat} (s : Nat) (ks : List Nat) (hs1 : selS tm ks = some tm1) (hv : OpOK P op ⟨tm1, h, nx⟩ v h' nx')
  (k : DR P c n id Q l st0 (⟨none, op, ty, pos, aft, none⟩ :: done) (⟨v, true, s, s, ks⟩ :: its) ((h', nx') :: hs) fr ⟨tm, h', nx'⟩ rest) :
  DR P c n id Q l st0 done its hs fr ⟨tm, h, nx⟩ (⟨none, op, ty, pos, aft, none⟩ :: rest) := fun hl hc => by
 have hs1' := selS_spec _ _ hs1
 subst hs1'
 refine k (by rw [hl, List.reverse_cons, List.append_assoc]; rfl) ?_
 have := Col.e (o := ⟨none, op, ty, pos, aft, none⟩) (it := ⟨v, true, s, s, ks⟩) hc rfl rfl hv
 rw [List.reverse_cons, List.reverse_cons, List.reverse_cons]
 exact this

theorem dr_s {j : Nat} {b : Bool} {g : Option Bool} (lo hi q : Nat) (hq : Nat.beq (q + j + 1) its.length = true) (hg : (its[q]?).bind (fun x => gv x.v) = some g) (hne : (g == some b) = false)
  (k : DR P c n id Q l st0 (⟨some d, op, ty, pos, aft, some (j, b)⟩ :: done) (⟨.tup [], false, lo, hi, []⟩ :: its) hs (its.length :: fr) ⟨(d, .tup []) :: tm, h, nx⟩ rest) :
  DR P c n id Q l st0 done its hs fr ⟨tm, h, nx⟩ (⟨some d, op, ty, pos, aft, some (j, b)⟩ :: rest) := fun hl hc => by
 refine k (by rw [hl, List.reverse_cons, List.append_assoc]; rfl) ?_
 have := Col.s (o := ⟨some d, op, ty, pos, aft, some (j, b)⟩) (it := ⟨.tup [], false, lo, hi, []⟩) hc (gd_back hq hg hne.symm) rfl rfl
 rw [List.length_reverse] at this
 rw [List.reverse_cons, List.reverse_cons]
 exact this

theorem dr_end (ps : List (Nat × Nat)) (hm : P.follows .mixedOrders = true) (hchk : chk done.reverse its.reverse (rank its.reverse its.length) = true) (hdn : (done.all fun o => match o.dst with | some d => Nat.blt d n | none => true) = true)
  (hmore : more done.reverse its.reverse fr ps (rank its.reverse its.length) = true) (hx : Ats P done.reverse its.reverse hs.reverse tm ps) (hQ : Q .normal ⟨tm, h, nx⟩) : DR P c n id Q l st0 done its hs fr ⟨tm, h, nx⟩ [] := fun hl hc => by
 rw [List.append_nil] at hl
 subst hl
 rw [← @List.length_reverse _ its] at hchk hmore
 exact draw_end ps hm hc hchk (by rw [List.all_reverse]; exact hdn) hmore hx hQ

end
end Go.Proofs.Ytpggknkhldecaaa.Abs
end
