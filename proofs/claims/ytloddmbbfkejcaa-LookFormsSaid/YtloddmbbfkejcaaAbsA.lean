/-
  Values without addresses, blocks of one's own, and what they stand for in a world. They hold of any program.
-/
import Derived.Laws.AppendOwn
import Derived.Laws.MakeOwn
import Derived.Tactics
import Derived.WalkKit
namespace Go.Proofs.Ytloddmbbfkejcaa.Abs

/-- A value as a walk sees it: what is read alone lies in it; what is one's own is named by a number. -/
inductive AV where
  | top
  | bool (b : Bool)
  | int (k : IntKind) (n : Int)
  | str (s : ByteArray)
  | nilp
  | ptr (b i o : Nat)
  | lp (cs : List AV)
  | nils
  | sl (sz : Nat) (xs : List AV)
  | own (b st len : Nat)
  | nilm
  | omap (b : Nat)
  | fn (f : Fn) (first caps : List AV)
  | nilf
  | ifc (t : TypeId) (v : AV)
  | nili
  | agg (xs : List AV)
  | tup (xs : List AV)

def AV.cells : AV → List AV
  | .agg xs => xs
  | v => [v]

def flat (xs : List AV) : List AV := xs.flatMap AV.cells

/-- Where a block of one's own lies. -/
structure R where
  blk : Nat
  cap : Nat
  sz : Nat

abbrev Rho := Nat → Option R
def rho0 : Rho := fun _ => none

/-- What a value stands for in a world; S: the blocks that are read alone. -/
inductive VR (S : Nat → Prop) (w : World) : Rho → AV → Value → Prop
  | top {ρ v} : VR S w ρ .top v
  | bool {ρ b} : VR S w ρ (.bool b) (.bool b)
  | int {ρ k n} : VR S w ρ (.int k n) (.int k n)
  | str {ρ s} : VR S w ρ (.str s) (.string s)
  | nilp {ρ} : VR S w ρ .nilp (.pointer none)
  | ptr {ρ b i o r} (h : ρ b = some r) : VR S w ρ (.ptr b i o) (.pointer (some ⟨r.blk, i * r.sz + o, none⟩))
  | lp {ρ cs blk off} (vs : List Value) (hS : S blk) (hl : cs.length = vs.length) (hcell : ∀ (i : Nat) (u : Value), vs[i]? = some u → w.cell? ⟨blk, off + i, none⟩ = some u ∧ u.oneCell' = true)
      (hv : ∀ (i : Nat) (x : AV) (u : Value), cs[i]? = some x → vs[i]? = some u → VR S w rho0 x u) : VR S w ρ (.lp cs) (.pointer (some ⟨blk, off, none⟩))
  | nils {ρ} : VR S w ρ .nils (.slice none 0 0)
  | sl0 {ρ sz a c} : VR S w ρ (.sl sz []) (.slice a 0 c)
  | sl {ρ sz xs blk off c} (vs : List Value) (hS : S blk) (hl : (flat xs).length = vs.length) (hsz : ∀ x ∈ xs, x.cells.length = sz) (hc : xs.length ≤ c)
      (hcell : ∀ (i : Nat) (u : Value), vs[i]? = some u → w.cell? ⟨blk, off + i, none⟩ = some u ∧ u.oneCell' = true)
      (hv : ∀ (i : Nat) (x : AV) (u : Value), (flat xs)[i]? = some x → vs[i]? = some u → VR S w rho0 x u) : VR S w ρ (.sl sz xs) (.slice (some ⟨blk, off, none⟩) xs.length c)
  | own {ρ b st len r c} (h : ρ b = some r) (h1 : len ≤ c) (h2 : st + c ≤ r.cap) : VR S w ρ (.own b st len) (.slice (some ⟨r.blk, st * r.sz, none⟩) len c)
  | own0 {ρ b st a} : VR S w ρ (.own b st 0) (.slice a 0 0)
  | nilm {ρ} : VR S w ρ .nilm (.map none)
  | omap {ρ b r} (h : ρ b = some r) : VR S w ρ (.omap b) (.map (some r.blk))
  | fn {ρ f xs ys} (us vs : Array Value) (h1 : xs.length = us.size) (h2 : ys.length = vs.size) (h3 : ∀ (i : Nat) (x : AV) (u : Value), xs[i]? = some x → us[i]? = some u → VR S w ρ x u)
      (h4 : ∀ (i : Nat) (x : AV) (u : Value), ys[i]? = some x → vs[i]? = some u → VR S w ρ x u) : VR S w ρ (.fn f xs ys) (.func f us vs)
  | nilf {ρ} : VR S w ρ .nilf .nilFunc
  | ifc {ρ t x v} (h : VR S w ρ x v) : VR S w ρ (.ifc t x) (.iface t v)
  | nili {ρ} : VR S w ρ .nili .nilIface
  | agg {ρ xs} (vs : Array Value) (h1 : xs.length = vs.size) (h2 : ∀ (i : Nat) (x : AV) (u : Value), xs[i]? = some x → vs[i]? = some u → VR S w ρ x u) : VR S w ρ (.agg xs) (.agg vs)
  | tup {ρ xs} (vs : Array Value) (h1 : xs.length = vs.size) (h2 : ∀ (i : Nat) (x : AV) (u : Value), xs[i]? = some x → vs[i]? = some u → VR S w ρ x u) : VR S w ρ (.tup xs) (.tuple vs)

theorem cell_same {w w' : World} {b o : Nat} (h : w'.heap[b]? = w.heap[b]?) : w'.cell? ⟨b, o, none⟩ = w.cell? ⟨b, o, none⟩ := World.cell?_of_block (w := w) (a := ⟨b, o, none⟩) h

theorem VR.mono {S S' : Nat → Prop} {w w' : World} (hS : ∀ b, S b → S' b ∧ w'.heap[b]? = w.heap[b]?) {ρ : Rho} {x : AV} {v : Value} (h : VR S w ρ x v) :
    ∀ {ρ' : Rho}, (∀ b r, ρ b = some r → ρ' b = some r) → VR S' w' ρ' x v := by
  induction h with
  | top => exact fun _ => .top
  | bool => exact fun _ => .bool
  | int => exact fun _ => .int
  | str => exact fun _ => .str
  | nilp => exact fun _ => .nilp
  | ptr h => exact fun hp => .ptr (hp _ _ h)
  | lp vs h hl hcell hv ih =>
    exact fun _ => .lp vs (hS _ h).1 hl (fun i u hu => ⟨(cell_same (hS _ h).2).trans (hcell i u hu).1, (hcell i u hu).2⟩) (fun i x u h1 h2 => ih i x u h1 h2 (fun _ _ h => h))
  | nils => exact fun _ => .nils
  | sl0 => exact fun _ => .sl0
  | sl vs h hl hsz hc hcell hv ih =>
    exact fun _ => .sl vs (hS _ h).1 hl hsz hc (fun i u hu => ⟨(cell_same (hS _ h).2).trans (hcell i u hu).1, (hcell i u hu).2⟩) (fun i x u h1 h2 => ih i x u h1 h2 (fun _ _ h => h))
  | own h h1 h2 => exact fun hp => .own (hp _ _ h) h1 h2
  | own0 => exact fun _ => .own0
  | nilm => exact fun _ => .nilm
  | omap h => exact fun hp => .omap (hp _ _ h)
  | fn us vs h1 h2 h3 h4 ih1 ih2 => exact fun hp => .fn us vs h1 h2 (fun i x u a b => ih1 i x u a b hp) (fun i x u a b => ih2 i x u a b hp)
  | nilf => exact fun _ => .nilf
  | ifc h ih => exact fun hp => .ifc (ih hp)
  | nili => exact fun _ => .nili
  | agg vs h1 h2 ih => exact fun hp => .agg vs h1 (fun i x u a b => ih i x u a b hp)
  | tup vs h1 h2 ih => exact fun hp => .tup vs h1 (fun i x u a b => ih i x u a b hp)

inductive Blk where
  | cells (sz : Nat) (xs : List AV)
  | map (es : List (AV × AV))

abbrev Heap := List (Nat × Blk)

def hget : Heap → Nat → Option Blk
  | [], _ => none
  | (i, b) :: t, j => if i = j then some b else hget t j

def hset : Heap → Nat → Blk → Heap
  | [], j, b => [(j, b)]
  | (i, x) :: t, j, b => if i = j then (j, b) :: t else (i, x) :: hset t j b

def hdel : Heap → Nat → Heap
  | [], _ => []
  | (i, x) :: t, j => if i = j then hdel t j else (i, x) :: hdel t j

def tget : List (Nat × AV) → Nat → AV
  | [], _ => .top
  | (i, v) :: t, j => if i = j then v else tget t j

theorem hget_set (h : Heap) (j : Nat) (b : Blk) (k : Nat) : hget (hset h j b) k = if j = k then some b else hget h k := by
  induction h with
  | nil => simp [hset, hget]
  | cons p t ih =>
    obtain ⟨i, x⟩ := p
    unfold hset
    by_cases h1 : i = j
    · subst h1
      simp only [if_true, hget]
      by_cases h2 : i = k
      · simp [h2]
      · simp [h2]
    · simp only [h1, if_false, hget]
      by_cases h2 : i = k
      · subst h2
        simp only [if_true]
        rw [if_neg (fun e => h1 e.symm)]
      · simp only [h2, if_false]
        exact ih

theorem hget_del (h : Heap) (j : Nat) (k : Nat) : hget (hdel h j) k = if j = k then none else hget h k := by
  induction h with
  | nil => simp [hdel, hget]
  | cons p t ih =>
    obtain ⟨i, x⟩ := p
    unfold hdel
    by_cases h1 : i = j
    · subst h1
      simp only [if_true, ih]
      by_cases h2 : i = k
      · simp [h2]
      · simp [h2, hget]
    · simp only [h1, if_false, hget]
      by_cases h2 : i = k
      · subst h2
        simp only [if_true]
        rw [if_neg (fun e => h1 e.symm)]
      · simp only [h2, if_false]
        exact ih

/-- What a block of one's own stands for. -/
def BR (S : Nat → Prop) (w : World) (ρ : Rho) (r : R) : Blk → Prop
  | .cells sz xs => r.sz = sz ∧ (∀ x ∈ xs, x.cells.length = sz) ∧ xs.length ≤ r.cap ∧ r.cap ≤ maxLen ∧
      ∃ cur e, w.heap[r.blk]? = some (.cells cur e (0, 0)) ∧ cur.size = r.cap * sz ∧ (∀ (i : Nat) (u : Value), cur[i]? = some u → u.oneCell' = true) ∧
        ∀ (i : Nat) (x : AV) (u : Value), (flat xs)[i]? = some x → cur[i]? = some u → VR S w ρ x u
  | .map es => ∃ ents clock, w.heap[r.blk]? = some (.map ents clock) ∧ es.length = ents.size ∧
      ∀ (i : Nat) (p : AV × AV) (e : MapEntry), es[i]? = some p → ents[i]? = some e → VR S w ρ p.1 e.key ∧ VR S w ρ p.2 e.val

theorem BR.mono {S S' : Nat → Prop} {w w' : World} (hS : ∀ b, S b → S' b ∧ w'.heap[b]? = w.heap[b]?) {ρ ρ' : Rho} (hp : ∀ b r, ρ b = some r → ρ' b = some r) {r : R} {B : Blk}
    (hr : w'.heap[r.blk]? = w.heap[r.blk]?) (h : BR S w ρ r B) : BR S' w' ρ' r B := by
  cases B with
  | cells sz xs =>
    obtain ⟨h1, h2, h3, h4, cur, e, h5, h6, h7, h8⟩ := h
    exact ⟨h1, h2, h3, h4, cur, e, by rw [hr]; exact h5, h6, h7, fun i x u a b => (h8 i x u a b).mono hS hp⟩
  | map es =>
    obtain ⟨ents, clock, h1, h2, h3⟩ := h
    exact ⟨ents, clock, by rw [hr]; exact h1, h2, fun i p e a b => ⟨(h3 i p e a b).1.mono hS hp, (h3 i p e a b).2.mono hS hp⟩⟩

structure Sim (ρ : Rho) (h : Heap) (S : Nat → Prop) (w : World) : Prop where
  blk : ∀ b B, hget h b = some B → (∃ r, ρ b = some r ∧ BR S w ρ r B ∧ ¬ S r.blk ∧ r.blk < w.heap.size) ∨ (ρ b = none ∧ ∃ sz, B = .cells sz [])
  inj : ∀ b b' B B' r r', hget h b = some B → hget h b' = some B' → ρ b = some r → ρ b' = some r' → b ≠ b' → r.blk ≠ r'.blk
  lt : ∀ b, S b → b < w.heap.size

/-- What was there when the call began. -/
structure Ctx where
  w0 : World
  own0 : Nat → Prop
  S0 : Nat → Prop
  r0 : Rho
  nx0 : Nat

structure Post (c : Ctx) (ρ : Rho) (h : Heap) (S : Nat → Prop) (w : World) : Prop where
  os : w.os = c.w0.os
  tape : w.tape = c.w0.tape
  output : w.output = c.w0.output
  size : c.w0.heap.size ≤ w.heap.size
  keep : ∀ b, b < c.w0.heap.size → ¬ c.own0 b → w.heap[b]? = c.w0.heap[b]?
  sIn : ∀ b, c.S0 b → S b
  sNew : ∀ b, S b → c.S0 b ∨ c.w0.heap.size ≤ b
  own : ∀ b B r, hget h b = some B → ρ b = some r → c.own0 r.blk ∨ c.w0.heap.size ≤ r.blk
  ids : ∀ b, b < c.nx0 → ρ b = c.r0 b

structure St where
  tm : List (Nat × AV)
  h : Heap
  nx : Nat

structure Rep (c : Ctx) (n : Nat) (st : St) (ρ : Rho) (S : Nat → Prop) (a : Act) (w : World) : Prop where
  size : a.tmps.size = n
  defers : a.defers = []
  tmps : ∀ i, VR S w ρ (tget st.tm i) (a.tmps.getD i undef)
  sim : Sim ρ st.h S w
  post : Post c ρ st.h S w
  fresh : ∀ b, st.nx ≤ b → ρ b = none
  le : c.nx0 ≤ st.nx
  dom : ∀ b B, hget st.h b = some B → b < st.nx

theorem Rep.known {c : Ctx} {n : Nat} {st : St} {ρ : Rho} {S : Nat → Prop} {a : Act} {w : World} (h : Rep c n st ρ S a w) {b : Nat} {r : R} (hb : ρ b = some r) : b < st.nx := by
  rcases Nat.lt_or_ge b st.nx with h' | h'
  · exact h'
  · rw [h.fresh b h'] at hb; cases hb

/-- A world in which nothing has turned but draws and new blocks that nobody names. -/
structure Same (w w' : World) : Prop where
  os : w'.os = w.os
  tape : w'.tape = w.tape
  output : w'.output = w.output
  size : w.heap.size ≤ w'.heap.size
  block : ∀ k, k < w.heap.size → w'.heap[k]? = w.heap[k]?

theorem Same.refl (w : World) : Same w w := ⟨rfl, rfl, rfl, Nat.le_refl _, fun _ _ => rfl⟩
theorem Same.drew (w : World) : Same w w.drew := ⟨rfl, rfl, rfl, Nat.le_refl _, fun _ _ => rfl⟩
theorem Same.trans {a b c : World} (h : Same a b) (k : Same b c) : Same a c :=
  ⟨k.os.trans h.os, k.tape.trans h.tape, k.output.trans h.output, Nat.le_trans h.size k.size, fun i hi => (k.block i (Nat.lt_of_lt_of_le hi h.size)).trans (h.block i hi)⟩
theorem Same.alloc (w : World) (o : Obj) : Same w (w.alloc o) := ⟨rfl, rfl, rfl, by simp, fun _ hk => heap_alloc_old w o hk⟩

theorem Rep.same {c : Ctx} {n : Nat} {st : St} {ρ : Rho} {S : Nat → Prop} {a : Act} {w w' : World} (h : Rep c n st ρ S a w) (hw : Same w w') : Rep c n st ρ S a w' := by
  have hS : ∀ b, S b → S b ∧ w'.heap[b]? = w.heap[b]? := fun b hb => ⟨hb, hw.block b (h.sim.lt b hb)⟩
  refine ⟨h.size, h.defers, fun i => (h.tmps i).mono hS (fun _ _ h => h), ⟨fun b B hb => ?_, h.sim.inj, fun b hb => Nat.lt_of_lt_of_le (h.sim.lt b hb) hw.size⟩, ?_, h.fresh, h.le, h.dom⟩
  · rcases h.sim.blk b B hb with ⟨r, h1, h2, h3, h4⟩ | hv
    · exact .inl ⟨r, h1, h2.mono hS (fun _ _ h => h) (hw.block _ h4), h3, Nat.lt_of_lt_of_le h4 hw.size⟩
    · exact .inr hv
  · exact ⟨hw.os.trans h.post.os, hw.tape.trans h.post.tape, hw.output.trans h.post.output, Nat.le_trans h.post.size hw.size,
      fun b hb ho => (hw.block b (Nat.lt_of_lt_of_le hb h.post.size)).trans (h.post.keep b hb ho), h.post.sIn, h.post.sNew, h.post.own, h.post.ids⟩

/-- A slot is written. -/
theorem Rep.put {c : Ctx} {n : Nat} {st : St} {ρ : Rho} {S : Nat → Prop} {a : Act} {w : World} (h : Rep c n st ρ S a w) (d : Nat) (hd : d < n) (v : AV) (u : Value) (hv : VR S w ρ v u) :
    Rep c n { st with tm := (d, v) :: st.tm } ρ S (a.put (some d) u) w := by
  refine ⟨by simp [Act.put, h.size], h.defers, fun i => ?_, h.sim, h.post, h.fresh, h.le, h.dom⟩
  have hsz := h.size
  have ht := h.tmps i
  simp only [tget, Act.put]
  by_cases hi : d = i
  · subst hi
    simp only [if_true]
    have : (a.tmps.setIfInBounds d u).getD d undef = u := by simp [hsz, hd]
    rw [this]
    exact hv
  · simp only [hi, if_false]
    have : (a.tmps.setIfInBounds d u).getD i undef = a.tmps.getD i undef := by
      simp only [Array.getD_eq_getD_getElem?, Array.getElem?_setIfInBounds_ne hi]
    rw [this]
    exact ht

theorem Rep.putNone {c : Ctx} {n : Nat} {st : St} {ρ : Rho} {S : Nat → Prop} {a : Act} {w : World} (h : Rep c n st ρ S a w) (u : Value) : Rep c n st ρ S (a.put none u) w := h

/-- One block of one's own is written or made: what is left of the others. -/
theorem Rep.turn {c : Ctx} {n : Nat} {st : St} {ρ : Rho} {S : Nat → Prop} {a : Act} {w w' : World} (h : Rep c n st ρ S a w) (b : Nat) (r : R) (B : Blk) (ρ' : Rho) (h' : Heap) (nx' : Nat)
    (hos : w'.os = w.os) (htape : w'.tape = w.tape) (hout : w'.output = w.output) (hsize : w.heap.size ≤ w'.heap.size)
    (hblock : ∀ k, k < w.heap.size → k ≠ r.blk → w'.heap[k]? = w.heap[k]?)
    (hids : ∀ k, k < st.nx → ρ' k = ρ k) (hle : st.nx ≤ nx') (hb : ρ' b = some r) (hB : BR S w' ρ' r B) (hlt : r.blk < w'.heap.size) (hnS : ¬ S r.blk)
    (hown : c.own0 r.blk ∨ c.w0.heap.size ≤ r.blk)
    (hh : ∀ k X, hget h' k = some X → (k = b ∧ X = B) ∨ (k ≠ b ∧ hget st.h k = some X))
    (hoth : ∀ k X q, k ≠ b → hget h' k = some X → ρ k = some q → q.blk ≠ r.blk)
    (hnx : ∀ k, nx' ≤ k → ρ' k = none) (hbn : b < nx') : Rep c n ⟨st.tm, h', nx'⟩ ρ' S a w' := by
  have hρ : ∀ k q, ρ k = some q → ρ' k = some q := fun k q hk => (hids k (h.known hk)).trans hk
  have hS : ∀ k, S k → S k ∧ w'.heap[k]? = w.heap[k]? := fun k hk => ⟨hk, hblock k (h.sim.lt k hk) (fun e => hnS (e ▸ hk))⟩
  refine ⟨h.size, h.defers, fun i => (h.tmps i).mono hS hρ, ⟨fun k X hk => ?_, fun k k' X X' q q' hk hk' hq hq' hne => ?_, fun k hk => Nat.lt_of_lt_of_le (h.sim.lt k hk) hsize⟩, ?_, hnx, Nat.le_trans h.le hle, fun k X hk => (hh k X hk).elim (fun e => e.1 ▸ hbn) (fun e => Nat.lt_of_lt_of_le (h.dom k X e.2) hle)⟩
  · rcases hh k X hk with ⟨rfl, rfl⟩ | ⟨hkb, hk0⟩
    · exact .inl ⟨r, hb, hB, hnS, hlt⟩
    · rcases h.sim.blk k X hk0 with ⟨q, h1, h2, h3, h4⟩ | ⟨h1, h2⟩
      · exact .inl ⟨q, hρ _ _ h1, h2.mono hS hρ (hblock _ h4 (hoth k X q hkb hk h1)), h3, Nat.lt_of_lt_of_le h4 hsize⟩
      · exact .inr ⟨(hids k (h.dom k X hk0)).trans h1, h2⟩
  · rcases hh k X hk with ⟨rfl, rfl⟩ | ⟨hkb, hk0⟩
    · rcases hh k' X' hk' with ⟨rfl, rfl⟩ | ⟨hkb', hk0'⟩
      · exact absurd rfl hne
      · have h1 : ρ k' = some q' := (hids k' (h.dom k' X' hk0')).symm.trans hq'
        have e2 : q = r := Option.some.inj (hq.symm.trans hb)
        subst e2
        exact fun e => hoth k' X' q' hkb' hk' h1 e.symm
    · have h0 : ρ k = some q := (hids k (h.dom k X hk0)).symm.trans hq
      rcases hh k' X' hk' with ⟨rfl, rfl⟩ | ⟨hkb', hk0'⟩
      · have e2 : q' = r := Option.some.inj (hq'.symm.trans hb)
        subst e2
        exact hoth k X q hkb hk h0
      · have h1 : ρ k' = some q' := (hids k' (h.dom k' X' hk0')).symm.trans hq'
        exact h.sim.inj k k' X X' q q' hk0 hk0' h0 h1 hne
  · refine ⟨hos.trans h.post.os, htape.trans h.post.tape, hout.trans h.post.output, Nat.le_trans h.post.size hsize, fun k hk ho => ?_, h.post.sIn, h.post.sNew, fun k X q hk hq => ?_, fun k hk => (hids k (Nat.lt_of_lt_of_le hk h.le)).trans (h.post.ids k hk)⟩
    · have hne : k ≠ r.blk := by
        rintro rfl
        rcases hown with ho' | ho'
        · exact ho ho'
        · omega
      exact (hblock k (Nat.lt_of_lt_of_le hk h.post.size) hne).trans (h.post.keep k hk ho)
    · rcases hh k X hk with ⟨rfl, rfl⟩ | ⟨hkb, hk0⟩
      · have e2 : q = r := Option.some.inj (hq.symm.trans hb)
        subst e2
        exact hown
      · have h1 : ρ k = some q := (hids k (h.dom k X hk0)).symm.trans hq
        exact h.post.own k X q hk0 h1

end Go.Proofs.Ytloddmbbfkejcaa.Abs
