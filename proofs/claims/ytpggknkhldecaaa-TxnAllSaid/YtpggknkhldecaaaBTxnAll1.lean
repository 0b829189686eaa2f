/- Texts of this session, merged: AbsP, AbsQ, AbsT, AKey, AKeyB, ANum, ANumB, ANumC, ARefNum, ARefText, ATxnA, ATxnB, ATxnC, ATxnD, ATxnE. -/
import Derived.Test.YtpggknkhldecaaaBTxnAll0
import Derived.Test.YtpggknkhldecaaaProg
set_option linter.unusedVariables false
set_option linter.unusedSimpArgs false
section
namespace Go.Proofs.Ytpggknkhldecaaa.Abs

theorem OpQ.ok {P : Program} {op : Op} {tm : List (Nat × AV)} {h : Heap} {nx : Nat} {v : AV} (k : OpQ P op tm h v) : OpOK P op ⟨tm, h, nx⟩ v h nx := k nx


mutual
def AV.frz (b sz : Nat) (xs : List AV) : AV → AV
 | .own b' st len => if b' = b then (if st + len ≤ xs.length then .sl sz ((xs.drop st).take len) else .top) else .own b' st len
 | .ownz b' st => if b' = b then .top else .ownz b' st
 | .ptr b' i o => if b' = b then .top else .ptr b' i o
 | .omap b' => if b' = b then .top else .omap b'
 | .fn f ys zs => .fn f (frzs b sz xs ys) (frzs b sz xs zs)
 | .ifc t x => .ifc t (x.frz b sz xs)
 | .agg ys => .agg (frzs b sz xs ys)
 | .tup ys => .tup (frzs b sz xs ys)
 | .top => .top
 | .bool q => .bool q
 | .int k q => .int k q
 | .str s => .str s
 | .nilp => .nilp
 | .lp cs => .lp cs
 | .nils => .nils
 | .sl sz' ys => .sl sz' ys
 | .nilm => .nilm
 | .nilf => .nilf
 | .nili => .nili
def frzs (b sz : Nat) (xs : List AV) : List AV → List AV
 | [] => []
 | y :: ys => y.frz b sz xs :: frzs b sz xs ys
end

theorem frzs_map (b sz : Nat) (xs : List AV) : ∀ ys, frzs b sz xs ys = ys.map (AV.frz b sz xs)
 | [] => rfl
 | y :: ys => by rw [frzs, frzs_map b sz xs ys]; rfl

theorem get_frzs {b sz : Nat} {xs ys : List AV} {i : Nat} {y : AV} (h : (frzs b sz xs ys)[i]? = some y) : ∃ z, ys[i]? = some z ∧ y = z.frz b sz xs := by
 rw [frzs_map, List.getElem?_map] at h
 obtain ⟨z, h1, h2⟩ := Option.map_eq_some_iff.1 h
 exact ⟨z, h1, h2.symm⟩

theorem frz_cells (b sz : Nat) (xs : List AV) (x : AV) : (x.frz b sz xs).cells = x.cells.map (AV.frz b sz xs) := by
 cases x
 case own b' st len =>
  show (if b' = b then (if st + len ≤ xs.length then AV.sl sz ((xs.drop st).take len) else .top) else .own b' st len).cells = [if b' = b then (if st + len ≤ xs.length then AV.sl sz ((xs.drop st).take len) else .top) else .own b' st len]
  by_cases h1 : b' = b
  ·by_cases h2 : st + len ≤ xs.length
   ·simp [h1, h2, AV.cells]
   ·simp [h1, h2, AV.cells]
  ·simp [h1, AV.cells]
 case ownz b' st =>
  show (if b' = b then AV.top else .ownz b' st).cells = [if b' = b then AV.top else .ownz b' st]
  by_cases h1 : b' = b <;> simp [h1, AV.cells]
 case ptr b' i o =>
  show (if b' = b then AV.top else .ptr b' i o).cells = [if b' = b then AV.top else .ptr b' i o]
  by_cases h1 : b' = b <;> simp [h1, AV.cells]
 case omap b' =>
  show (if b' = b then AV.top else .omap b').cells = [if b' = b then AV.top else .omap b']
  by_cases h1 : b' = b <;> simp [h1, AV.cells]
 case agg ys => exact frzs_map b sz xs ys
 all_goals rfl

theorem flat_frz (b sz : Nat) (xs ys : List AV) : flat (ys.map (AV.frz b sz xs)) = (flat ys).map (AV.frz b sz xs) := by
 unfold flat
 induction ys with
 | nil => rfl
 | cons y ys ih => simp only [List.map_cons, List.flatMap_cons, List.map_append, ih, frz_cells]

def Blk.frz (b sz : Nat) (xs : List AV) : Blk → Blk
 | .cells sz' ys => .cells sz' (ys.map (AV.frz b sz xs))
 | .map es => .map (es.map fun p => (p.1.frz b sz xs, p.2.frz b sz xs))

theorem VR.frz {S S' : Nat → Prop} {w : World} {ρ : Rho} {b sz : Nat} {xs : List AV} (hS : ∀ b, S b → S' b) (hpl : xs.all AV.plain = true) {x : AV} {v : Value} (h : VR S w ρ x v) :
  ((∃ r, ρ b = some r ∧ BR S w ρ r (.cells sz xs) ∧ S' r.blk) ∨ (ρ b = none ∧ xs = [])) → VR S' w ρ (x.frz b sz xs) v := by
 induction h with
 | top => intro _; exact .top
 | bool => intro _; exact .bool
 | int => intro _; exact .int
 | str => intro _; exact .str
 | nilp => intro _; exact .nilp
 | @ptr ρ b' i o r h =>
  intro _
  show VR S' w ρ (if b' = b then .top else .ptr b' i o) _
  split
  ·exact .top
  ·exact .ptr h
 | lp vs h hl hcell hv ih => intro _; exact (VR.lp vs h hl hcell hv).mono (fun b hb => ⟨hS b hb, rfl⟩) (fun _ _ h => h)
 | nils => intro _; exact .nils
 | sl0 => intro _; exact .sl0
 | sl vs h hl hsz hc hcell hv ih => intro _; exact (VR.sl vs h hl hsz hc hcell hv).mono (fun b hb => ⟨hS b hb, rfl⟩) (fun _ _ h => h)
 | @own ρ b' st len r c h h1 h2 =>
  intro hb
  show VR S' w ρ (if b' = b then (if st + len ≤ xs.length then .sl sz ((xs.drop st).take len) else .top) else .own b' st len) _
  split
  ·rename_i e
   subst e
   split
   ·rename_i hlen
    rcases hb with ⟨q, e1, e2, e3⟩ | ⟨e1, e2⟩
    ·obtain rfl := Option.some.inj (h.symm.trans e1)
     exact (VR.own h h1 h2).lent h e2 hlen hpl hS e3 _
    ·rw [e1] at h; cases h
   ·exact .top
  ·exact .own h h1 h2
 | @ownz ρ b' st r c h h2 =>
  intro _
  show VR S' w ρ (if b' = b then .top else .ownz b' st) _
  split
  ·exact .top
  ·exact .ownz h h2
 | @own0 ρ b' st a =>
  intro _
  show VR S' w ρ (if b' = b then (if st + 0 ≤ xs.length then .sl sz ((xs.drop st).take 0) else .top) else .own b' st 0) _
  split
  ·split
   ·rw [List.take_zero]; exact .sl0
   ·exact .top
  ·exact .own0
 | nilm => intro _; exact .nilm
 | @omap ρ b' r h =>
  intro _
  show VR S' w ρ (if b' = b then .top else .omap b') _
  split
  ·exact .top
  ·exact .omap h
 | fn us vs h1 h2 h3 h4 ih1 ih2 =>
  intro hb
  exact .fn us vs (by rw [frzs_map, List.length_map]; exact h1) (by rw [frzs_map, List.length_map]; exact h2)
   (fun i x u hx hu => by obtain ⟨z, hz, rfl⟩ := get_frzs hx; exact ih1 i z u hz hu hb) (fun i x u hx hu => by obtain ⟨z, hz, rfl⟩ := get_frzs hx; exact ih2 i z u hz hu hb)
 | nilf => intro _; exact .nilf
 | ifc h ih => intro hb; exact .ifc (ih hb)
 | nili => intro _; exact .nili
 | agg vs h1 h2 ih => intro hb; exact .agg vs (by rw [frzs_map, List.length_map]; exact h1) (fun i x u hx hu => by obtain ⟨z, hz, rfl⟩ := get_frzs hx; exact ih i z u hz hu hb)
 | tup vs h1 h2 ih => intro hb; exact .tup vs (by rw [frzs_map, List.length_map]; exact h1) (fun i x u hx hu => by obtain ⟨z, hz, rfl⟩ := get_frzs hx; exact ih i z u hz hu hb)

theorem BR.frz {S S' : Nat → Prop} {w : World} {ρ : Rho} {b sz : Nat} {xs : List AV} (hS : ∀ b, S b → S' b) (hpl : xs.all AV.plain = true) (hb : (∃ r, ρ b = some r ∧ BR S w ρ r (.cells sz xs) ∧ S' r.blk) ∨ (ρ b = none ∧ xs = [])) {r : R} {B : Blk} (h : BR S w ρ r B) : BR S' w ρ r (B.frz b sz xs) := by
 cases B with
 | cells sz' ys =>
  obtain ⟨h1, h2, h3, h4, cur, e, h5, h6, h7, h8⟩ := h
  refine ⟨h1, fun x hx => ?_, by rw [List.length_map]; exact h3, h4, cur, e, h5, h6, h7, fun i x u hx hu => ?_⟩
  ·obtain ⟨y, hy, rfl⟩ := List.mem_map.1 hx
   rw [frz_cells, List.length_map]; exact h2 y hy
  ·rw [flat_frz, List.getElem?_map] at hx
   obtain ⟨y, hy, rfl⟩ := Option.map_eq_some_iff.1 hx
   exact (h8 i y u hy hu).frz hS hpl hb
 | map es =>
  obtain ⟨ents, clock, h1, h2, hst, h3⟩ := h
  refine ⟨ents, clock, h1, by rw [List.length_map]; exact h2, hst, fun i p e hp he => ?_⟩
  rw [List.getElem?_map] at hp
  obtain ⟨q, hq, rfl⟩ := Option.map_eq_some_iff.1 hp
  exact ⟨(h3 i q e hq he).1.frz hS hpl hb, (h3 i q e hq he).2.frz hS hpl hb⟩

theorem hget_map (h : Heap) (f : Blk → Blk) (k : Nat) : hget (h.map fun p => (p.1, f p.2)) k = (hget h k).map f := by
 induction h with
 | nil => rfl
 | cons p t ih =>
  obtain ⟨i, B⟩ := p
  simp only [List.map_cons, hget]
  split
  ·rfl
  ·exact ih

theorem tget_map (tm : List (Nat × AV)) (f : AV → AV) (hf : f .top = .top) (k : Nat) : tget (tm.map fun p => (p.1, f p.2)) k = f (tget tm k) := by
 induction tm with
 | nil => exact hf.symm
 | cons p t ih =>
  obtain ⟨i, v⟩ := p
  simp only [List.map_cons, tget]
  split
  ·rfl
  ·exact ih

def frzS (b sz : Nat) (xs : List AV) (st : St) : St := ⟨st.tm.map fun p => (p.1, p.2.frz b sz xs), (hdel st.h b).map fun p => (p.1, p.2.frz b sz xs), st.nx⟩

theorem Rep.frz {c : Ctx} {n : Nat} {st : St} {ρ : Rho} {S : Nat → Prop} {a : Act} {w : World} (h : Rep c n st ρ S a w) {b sz : Nat} {xs : List AV} (hb : hget st.h b = some (.cells sz xs)) (hpl : xs.all AV.plain = true)
  (hnew : ∀ r, ρ b = some r → c.S0 r.blk ∨ c.w0.heap.size ≤ r.blk) :
  ∃ S', Rep c n (frzS b sz xs st) ρ S' a w ∧ (∀ k, S k → S' k) ∧ (∀ k, S' k → S k ∨ ∃ r, ρ b = some r ∧ r.blk = k) ∧ ∀ {x : AV} {v : Value}, VR S w ρ x v → VR S' w ρ (x.frz b sz xs) v := by
 let S' : Nat → Prop := fun k => S k ∨ ∃ r, ρ b = some r ∧ r.blk = k
 have hS : ∀ k, S k → S' k := fun k hk => .inl hk
 have hbb : (∃ r, ρ b = some r ∧ BR S w ρ r (.cells sz xs) ∧ S' r.blk) ∨ (ρ b = none ∧ xs = []) := by
  rcases h.sim.blk b _ hb with ⟨r, h1, h2, _, _⟩ | ⟨h1, sz', h2⟩
  ·exact .inl ⟨r, h1, h2, .inr ⟨r, h1, rfl⟩⟩
  ·simp only [Blk.cells.injEq] at h2; exact .inr ⟨h1, h2.2⟩
 have hh : ∀ k B, hget (frzS b sz xs st).h k = some B → ∃ X, k ≠ b ∧ hget st.h k = some X ∧ B = X.frz b sz xs := fun k B hk => by
  have hk : hget ((hdel st.h b).map fun p => (p.1, p.2.frz b sz xs)) k = some B := hk
  rw [hget_map _ (fun B => B.frz b sz xs), hget_del] at hk
  split at hk
  ·cases hk
  ·rename_i hne
   obtain ⟨X, h1, h2⟩ := Option.map_eq_some_iff.1 hk
   exact ⟨X, fun e => hne e.symm, h1, h2.symm⟩
 refine ⟨S', ⟨h.size, h.defers, fun i => ?_, ⟨fun k B hk => ?_, fun k k' B B' q q' hk hk' => ?_, fun k hk => ?_⟩, ?_, h.fresh, h.le, fun k B hk => ?_⟩, hS, fun k hk => hk, fun hv => hv.frz hS hpl hbb⟩
 ·show VR S' w ρ (tget (st.tm.map fun p => (p.1, p.2.frz b sz xs)) i) _
  rw [tget_map _ (fun x => x.frz b sz xs) rfl]
  exact (h.tmps i).frz hS hpl hbb
 ·obtain ⟨X, hne, h1, rfl⟩ := hh k B hk
  rcases h.sim.blk k X h1 with ⟨q, e1, e2, e3, e4⟩ | ⟨e1, sz', rfl⟩
  ·refine .inl ⟨q, e1, e2.frz hS hpl hbb, ?_, e4⟩
   rintro (h' | ⟨r, h', h''⟩)
   ·exact e3 h'
   ·exact h.sim.inj b k _ X r q hb h1 h' e1 (fun e => hne e.symm) h''
  ·exact .inr ⟨e1, sz', rfl⟩
 ·obtain ⟨X, _, h1, _⟩ := hh k B hk
  obtain ⟨X', _, h1', _⟩ := hh k' B' hk'
  exact h.sim.inj k k' X X' q q' h1 h1'
 ·rcases hk with hk | ⟨r, h1, rfl⟩
  ·exact h.sim.lt k hk
  ·exact (blk_of h hb h1).2.1
 ·refine ⟨h.post.os, h.post.tape, h.post.output, h.post.size, h.post.keep, fun k hk => .inl (h.post.sIn k hk), fun k hk => ?_, fun k B q hk hq => ?_, h.post.ids⟩
  ·rcases hk with hk | ⟨r, h1, rfl⟩
   ·exact h.post.sNew k hk
   ·exact hnew r h1
  ·obtain ⟨X, _, h1, _⟩ := hh k B hk
   exact h.post.own k X q h1 hq
 ·obtain ⟨X, _, h1, _⟩ := hh k B hk
  exact h.dom k X h1

section
variable {P : Program} {n : Nat} {w0 : World} {h0 : Heap} {S0 : Nat → Prop} {r0 : Rho} {nx0 : Nat}

theorem Rep.new {st : St} {ρ : Rho} {S : Nat → Prop} {a : Act} {w : World} (h : Rep ⟨w0, Own r0 h0, S0, r0, nx0⟩ n st ρ S a w) {b : Nat} {B : Blk} (hb : hget st.h b = some B) (h1 : (h0.all fun p => Nat.blt p.1 nx0 && (hget st.h p.1).isSome && !Nat.beq p.1 b) = true) {r : R} (hr : ρ b = some r) : w0.heap.size ≤ r.blk := by
 rcases h.post.own b B r hb hr with ⟨i, X, q, e1, e2, e3⟩ | h'
 ·exfalso
  have := hall_get h1 e1
  simp only [Bool.and_eq_true, Bool.not_eq_true'] at this
  obtain ⟨⟨k1, k2⟩, k3⟩ := this
  obtain ⟨Y, hY⟩ := Option.isSome_iff_exists.1 k2
  have hlt : i < nx0 := by simpa using k1
  have hne : i ≠ b := fun e => by rw [e] at k3; simp at k3
  have e4 : ρ i = some q := (h.post.ids i hlt).trans e2
  exact h.sim.inj i b Y B q r hY hb e4 hr hne e3
 ·exact h'

theorem aw_frz {code : Code} {Q : Exit → St → Prop} {st : St} (b : Nat) {sz : Nat} {xs : List AV} (hb : hget st.h b = some (.cells sz xs)) (hpl : xs.all AV.plain = true) (h1 : (h0.all fun p => Nat.blt p.1 nx0 && (hget st.h p.1).isSome && !Nat.beq p.1 b) = true)
  (k : AW P ⟨w0, Own r0 h0, S0, r0, nx0⟩ n code Q (frzS b sz xs st)) : AW P ⟨w0, Own r0 h0, S0, r0, nx0⟩ n code Q st := fun ρ S a w hr => by
 obtain ⟨S', hr', _⟩ := hr.frz hb hpl (fun r hq => .inr (hr.new hb h1 hq))
 exact k ρ S' a w hr'

end

end Go.Proofs.Ytpggknkhldecaaa.Abs
end
section
namespace Go.Proofs.Ytpggknkhldecaaa.Abs

section
variable {P : Program}

theorem call_does {c : Ctx} {n : Nat} {tm : List (Nat × AV)} {h : Heap} {nx : Nat} {o : Oper} {fo : Operand} {xs : Array Operand} {ts : Array TypeId}
  (f : FuncId) (first caps : List AV) (l : List (Nat × Nat)) (k : Nat) (al : Bool) (hc : Heap) (ps : List Nat) (args largs : List AV) (Q : AV → Heap → Nat → Prop) (ho : o.op = .call { callee := .value fo, args := xs, argTypes := ts })
  (hfo : oev tm fo = .fn (.func f) first caps) (hargs : args = first ++ (xs.toList.map (oev tm) ++ caps))
  (hcall : ∀ (vs : Array Value) (w : World), (callFunc f vs).run P w = .ok (.enter f vs) w)
  (hl : l.all (fun p => p.1 < k) = true)
  (hh : ∀ p ∈ hc, hget h (swp l k nx p.1) = (hget hc p.1).map (Blk.ren (swp l k nx)) ∧ ps.contains (swp l k nx p.1) = true)
  (hi : ((hc.map (fun p => p.1)).all fun b => (hc.map (fun p => p.1)).all fun b' => b == b' || swp l k nx b != swp l k nx b') = true)
  (hlend : Lends al h (swp l k nx) ps args largs)
  (hac : AC P f largs hc k al Q) {ρ : Rho} {S : Nat → Prop} {a : Act} {w : World} (hr : Rep c n ⟨tm, h, nx⟩ ρ S a w) :
  Does P o a w fun v w' => ∃ r h' nx' ρ' S', Q r h' nx' ∧ VR S' w' ρ' r v ∧ Sim ρ' h' S' w' ∧ (∀ b, nx' ≤ b → ρ' b = none) ∧ (∀ b B, hget h' b = some B → b < nx') ∧
   CPost al (fun b => ρ (swp l k nx b)) hc k (fun b => S b ∨ (al = false ∧ Own ρ (rest h ps) b)) w ρ' h' S' w' := by
 have hf := hr.oev fo
 rw [show (St.mk tm h nx).tm = tm from rfl, hfo] at hf
 generalize hfv : a.eval fo = fv at hf
 cases hf with
 | fn us vs h1 h2 h3 h4 =>
 have hrun : (execOp a.eval o).run P w = .ok (.enter f (us ++ xs.map a.eval ++ vs)) w := by
  unfold execOp
  rw [ho]
  simp only [resolve, hfv, Deferred.ofValue, Sem.run_bind, Sem.run_pure, Result.andThen_ok, invoke]
  exact hcall _ _
 unfold Does
 rw [hrun]
 obtain ⟨hsim, hfr, hps, hown⟩ := call_sim hr l k al hc ps hl hh hi
 have hargsVR : ∀ (i : Nat) (x : AV) (u : Value), args[i]? = some x → (us ++ xs.map a.eval ++ vs)[i]? = some u → VR S w ρ x u := by
  intro i x u hx hu
  rw [hargs] at hx
  rw [Array.append_assoc] at hu
  rcases Nat.lt_or_ge i first.length with hlt | hge
  ·rw [List.getElem?_append_left hlt] at hx
   rw [Array.getElem?_append_left (by omega)] at hu
   exact h3 i x u hx hu
  ·rw [List.getElem?_append_right hge] at hx
   rw [Array.getElem?_append_right (by omega), ← h1] at hu
   generalize i - first.length = j at hx hu
   rcases Nat.lt_or_ge j xs.size with hlt | hge
   ·rw [List.getElem?_append_left (by simpa using hlt)] at hx
    rw [Array.getElem?_append_left (by simpa using hlt)] at hu
    rw [List.getElem?_map, Array.getElem?_toList] at hx
    rw [Array.getElem?_map] at hu
    obtain ⟨y, hy, rfl⟩ := Option.map_eq_some_iff.1 hx
    rw [hy] at hu
    obtain rfl := Option.some.inj hu
    exact hr.oev y
   ·rw [List.getElem?_append_right (by simpa using hge)] at hx
    rw [Array.getElem?_append_right (by simpa using hge)] at hu
    simp only [List.length_map, Array.length_toList] at hx
    simp only [Array.size_map] at hu
    exact h4 _ x u hx hu
 have hlen : args.length = (us ++ xs.map a.eval ++ vs).size := by
  rw [hargs]
  simp [h1, h2, Nat.add_assoc]
 have hvrs : VRs (fun b => S b ∨ (al = false ∧ Own ρ (rest h ps) b)) w (fun b => ρ (swp l k nx b)) largs (us ++ xs.map a.eval ++ vs) := by
  refine ⟨hlend.len.symm.trans hlen, fun i y u hy hu => ?_⟩
  have hi' : i < largs.length := (List.getElem?_eq_some_iff.1 hy).1
  obtain ⟨x, hx⟩ : ∃ x, args[i]? = some x := ⟨_, List.getElem?_eq_getElem (by rw [hlend.len]; exact hi')⟩
  exact (hlend.get i x y hx hy).vr hr (hargsVR i x u hx hu)
 refine (hac _ _ w _ hsim hfr hvrs).mono ?_
 rintro e w' ⟨v, r, h', nx', ρ', S', rfl, hQ, hv, hs, hf', hdm, hp⟩
 exact ⟨v, rfl, r, h', nx', ρ', S', hQ, hv, hs, hf', hdm, hp⟩

theorem AC.calls {f : FuncId} {fn : Func} (hf : P.funcs[f]? = some fn) (hn : (fn.name == "runtime.NumGoroutine") = false ∧ fn.body.isNone = false) : ∀ (vs : Array Value) (w : World), (callFunc f vs).run P w = .ok (.enter f vs) w := fun vs w => callFunc_enter hf hn.1 hn.2 vs w

theorem op_callg {tm : List (Nat × AV)} {h : Heap} {nx : Nat} {fo : Operand} {xs : Array Operand} {ts : Array TypeId} {f : FuncId} {fn : Func} {first caps : List AV} (l : List (Nat × Nat)) (k : Nat) (al : Bool) (hc : Heap) (ps : List Nat) {args largs : List AV} {r0 r1 : AV} {h0 h1 : Heap} {n0 n1 : Nat}
  (hac : AC P f largs hc k al (fun r h nx => r = r0 ∧ h = h0 ∧ nx = n0)) (hf : P.funcs[f]? = some fn) (hn : (fn.name == "runtime.NumGoroutine") = false ∧ fn.body.isNone = false)
  (hfo : oev tm fo = .fn (.func f) first caps) (hargs : oevsS tm xs.toList = some args) (hl : l.all (fun p => p.1 < k) = true) (hl2 : l.all (fun p => p.2 < nx) = true) (hl3 : k ≤ nx)
  (hh : ∀ p ∈ hc, hget h (swp l k nx p.1) = (hget hc p.1).map (Blk.ren (swp l k nx)) ∧ ps.contains (swp l k nx p.1) = true)
  (hi : ((hc.map (fun p => p.1)).all fun b => (hc.map (fun p => p.1)).all fun b' => b == b' || swp l k nx b != swp l k nx b') = true)
  (hlend : Lends al h (swp l k nx) ps (first ++ (args ++ caps)) largs)
  (e1 : r0.ren (swp l k nx) = r1) (e2 : rest h ps ++ h0.map (fun p => (swp l k nx p.1, p.2.ren (swp l k nx))) = h1) (e3 : nx + n0 = n1) :
  OpOK P (.call { callee := .value fo, args := xs, argTypes := ts }) ⟨tm, h, nx⟩ r1 h1 n1 := by
 intro c n ρ S a w hr o ho
 subst e1 e2 e3
 refine (call_does f first caps l k al hc ps _ largs _ ho hfo (by rw [oevsS_spec _ _ hargs]) (AC.calls hf hn) hl hh hi hlend hac hr).mono fun v w' hx => ?_
 obtain ⟨r, h', nx', ρ', S', ⟨rfl, rfl, rfl⟩, hv, hs, hf', hdm, hp⟩ := hx
 obtain ⟨hsim, hfr, hps, hown⟩ := call_sim hr l k al hc ps hl hh hi
 obtain ⟨ρ2, S2, hr2, hv2, hx1, hx2⟩ := call_rep hr l k al hc ps hl hl2 hl3 hps hown (fun b hb => hb.imp id (fun ⟨x, i, X, q, e1, e2, e3⟩ => ⟨x, by
  rw [hget_rest] at e1
  split at e1
  ·cases e1
  ·obtain ⟨_, f4, _⟩ := blk_of hr e1 e2
   rw [← e3]
   exact f4⟩)) hv hs hf' hdm hp
 exact ⟨ρ2, S2, hr2, hv2, hx1, hx2⟩

inductive Fz (h' : Heap) : AV → AV → Prop
 | same {x} (hp : x.plain = true) : Fz h' x x
 | own {b st len sz xs} (hb : hget h' b = some (.cells sz xs)) (hlen : st + len ≤ xs.length) (hpl : xs.all AV.plain = true) : Fz h' (.own b st len) (.sl sz ((xs.drop st).take len))
 | tup {xs ys} (hl : xs.length = ys.length) (h : ∀ (i : Nat) (x y : AV), xs[i]? = some x → ys[i]? = some y → Fz h' x y) : Fz h' (.tup xs) (.tup ys)
 | agg {xs ys} (hl : xs.length = ys.length) (h : ∀ (i : Nat) (x y : AV), xs[i]? = some x → ys[i]? = some y → Fz h' x y) : Fz h' (.agg xs) (.agg ys)

theorem Fz.whole {h' : Heap} {b len sz : Nat} {xs : List AV} (hb : hget h' b = some (.cells sz xs)) (hl : len = xs.length) (hpl : xs.all AV.plain = true) : Fz h' (.own b 0 len) (.sl sz xs) := by
 have := Fz.own (st := 0) (len := len) hb (by omega) hpl
 rw [List.drop_zero, hl, List.take_length] at this
 rwa [hl]

theorem bl_plain (l : List UInt8) : (bl l).all AV.plain = true := by
 rw [List.all_eq_true]
 intro x hx
 obtain ⟨q, _, rfl⟩ := List.mem_map.1 hx
 rfl

inductive Fzs (h' : Heap) : List AV → List AV → Prop
 | nil : Fzs h' [] []
 | cons {x y xs ys} (h : Fz h' x y) (t : Fzs h' xs ys) : Fzs h' (x :: xs) (y :: ys)

theorem Fzs.tup {h' : Heap} {xs ys : List AV} (h : Fzs h' xs ys) : Fz h' (.tup xs) (.tup ys) := by
 have : xs.length = ys.length ∧ ∀ (i : Nat) (x y : AV), xs[i]? = some x → ys[i]? = some y → Fz h' x y := by
  induction h with
  | nil => exact ⟨rfl, fun i x y hx => by simp at hx⟩
  | cons h1 _ ih =>
   refine ⟨by simp [ih.1], fun i x y hx hy => ?_⟩
   cases i with
   | zero => simp only [List.getElem?_cons_zero] at hx hy; obtain rfl := Option.some.inj hx; obtain rfl := Option.some.inj hy; exact h1
   | succ i => simp only [List.getElem?_cons_succ] at hx hy; exact ih.2 i x y hx hy
 exact .tup this.1 this.2

theorem Fz.vr {S S' : Nat → Prop} {w : World} {ρ ρ2 : Rho} {h' : Heap} (hsim : Sim ρ h' S w) (hS : ∀ b, S b → S' b) (hO : ∀ b, Own ρ h' b → S' b) {x y : AV} (h : Fz h' x y) : ∀ {v : Value}, VR S w ρ x v → VR S' w ρ2 y v := by
 induction h with
 | same hp => intro v hv; exact (hv.mono (fun b hb => ⟨hS b hb, rfl⟩) (fun _ _ h => h)).plain hp
 | own hb hlen hpl =>
  intro v hv
  rcases hsim.blk _ _ hb with ⟨r, h1, h2, h3, h4⟩ | ⟨h1, sz', h2⟩
  ·exact hv.lent h1 h2 hlen hpl hS (hO _ ⟨_, _, r, hb, h1, rfl⟩) _
  ·simp only [Blk.cells.injEq] at h2
   obtain ⟨rfl, rfl⟩ := h2
   simp only [List.length_nil, Nat.le_zero, Nat.add_eq_zero_iff] at hlen
   obtain ⟨rfl, rfl⟩ := hlen
   cases hv with
   | own q _ _ => rw [h1] at q; cases q
   | own0 => exact .sl0
 | @tup aa ys hl _ ih =>
  intro v hv
  cases hv with
  | tup vs h1 h2 => exact .tup vs (hl.symm.trans h1) (fun i y u hy hu => by
    obtain ⟨x, hx⟩ : ∃ x, aa[i]? = some x := ⟨_, List.getElem?_eq_getElem (by rw [hl]; exact (List.getElem?_eq_some_iff.1 hy).1)⟩
    exact ih i x y hx hy (h2 i x u hx hu))
 | @agg aa ys hl _ ih =>
  intro v hv
  cases hv with
  | agg vs h1 h2 => exact .agg vs (hl.symm.trans h1) (fun i y u hy hu => by
    obtain ⟨x, hx⟩ : ∃ x, aa[i]? = some x := ⟨_, List.getElem?_eq_getElem (by rw [hl]; exact (List.getElem?_eq_some_iff.1 hy).1)⟩
    exact ih i x y hx hy (h2 i x u hx hu))

theorem op_callq {tm : List (Nat × AV)} {h : Heap} {fo : Operand} {xs : Array Operand} {ts : Array TypeId} {f : FuncId} {fn : Func} {first caps : List AV} {al : Bool} {args largs : List AV} {Q : AV → Heap → Nat → Prop} {v : AV}
  (hac : AC P f largs [] 0 al Q) (hf : P.funcs[f]? = some fn) (hn : (fn.name == "runtime.NumGoroutine") = false ∧ fn.body.isNone = false)
  (hfo : oev tm fo = .fn (.func f) first caps) (hargs : oevsS tm xs.toList = some args)
  (hlend : ∀ nx, Lends al h (swp [] 0 nx) [] (first ++ (args ++ caps)) largs) (hq : ∀ r h' nx', Q r h' nx' → Fz h' r v) :
  OpQ P (.call { callee := .value fo, args := xs, argTypes := ts }) tm h v := by
 intro nx c n ρ S a w hr o ho
 refine (call_does f first caps [] 0 al [] [] _ largs _ ho hfo (by rw [oevsS_spec _ _ hargs]) (AC.calls hf hn) rfl (fun p hp => by cases hp) rfl (hlend nx) hac hr).mono fun u w' hx => ?_
 obtain ⟨r, h', nx', ρ', S', hQ, hv, hs, hf', hdm, hp⟩ := hx
 have no : ∀ b, ¬ Own (fun b => ρ (swp [] 0 nx b)) [] b := fun b ⟨i, B, q, e, _⟩ => by cases e
 have hsame : Same w w' := ⟨hp.os, hp.tape, hp.output, hp.size, fun k hk => hp.keep k hk (no k)⟩
 let S2 : Nat → Prop := fun b => S b ∨ (w.heap.size ≤ b ∧ b < w'.heap.size)
 have g1 : ∀ b, S b → S2 b := fun b hb => .inl hb
 have hr2 := hr.grow (S' := S2) g1 (fun b hb => hb.imp id (fun h => h.1)) (fun b hb => hb.elim (fun h => Nat.lt_of_lt_of_le (hr.sim.lt b h) hp.size) (fun h => h.2)) hsame
 refine ⟨ρ, S2, hr2, ?_, fun _ _ h => h, fun b hb => ⟨.inl hb, hsame.block b (hr.sim.lt b hb)⟩⟩
 refine (hq r h' nx' hQ).vr hs (fun b hb => ?_) (fun b hb => ?_) hv
 ·rcases hp.s b hb with ⟨h1, h2 | ⟨h2, _⟩⟩ | h2
  ·exact .inl h2
  ·rw [h1] at h2; cases h2
  ·exact .inr ⟨h2, hs.lt b hb⟩
 ·rcases hp.own b hb with h1 | h1
  ·exact (no b h1).elim
  ·obtain ⟨i, B, q, e1, e2, rfl⟩ := hb
   rcases hs.blk i B e1 with ⟨q', k1, _, _, k4⟩ | ⟨k1, _⟩
   ·obtain rfl := Option.some.inj (k1.symm.trans e2)
    exact .inr ⟨h1, k4⟩
   ·rw [e2] at k1; cases k1

theorem op_bslF {tm : List (Nat × AV)} {h : Heap} {t e : TypeId} {len sz bytes : Nat} {parts : Array (Nat × Operand)} {z : Value} {vs : List AV} (hu : P.underlying t = some (.slice e)) (hi : (P.info? e).map (fun i => (i.zero, i.size, i.bytes)) = some (some z, sz, bytes)) (hzs : z.cells.size = sz ∧ ∀ (i : Nat) (u : Value), z.cells[i]? = some u → u.oneCell' = true)
  (hs : 0 < sz) (hl : parts.toList.map (·.1) = List.range len) (hv : oevsS tm (parts.toList.map (·.2)) = some vs) (hk : (vs.all fun v => v.known && Nat.beq v.cells.length sz) = true) (hpl : vs.all AV.plain = true) (hsm : len * sz ≤ 16777216) :
  OpQ P (.buildSlice t len parts) tm h (.sl sz vs) := by
 intro nx c n ρ S a w hr o ho
 have hk' : ∀ v ∈ vs, v.known = true ∧ v.cells.length = sz := fun v hv => by
  have := List.all_eq_true.1 hk v hv
  simp only [Bool.and_eq_true] at this
  exact ⟨this.1, Nat.eq_of_beq_eq_true this.2⟩
 obtain ⟨us, u2, husz, hvl, hrun⟩ := bsl_raw (vs := vs) hu hi hzs.1 hzs.2 hs hl (by rw [← oevsS_spec _ _ hv, List.map_map]; rfl) hk' hsm hr
 unfold Does
 rw [hrun o ho]
 have hsame := Same.alloc w (.cells us e)
 have hnew := heap_alloc_new w (.cells us e)
 have hsz : (w.alloc (.cells us e)).heap.size = w.heap.size + 1 := by simp
 refine ⟨ρ, fun b => S b ∨ b = w.heap.size, hr.grow (fun b hb => .inl hb) (fun b hb => hb.imp id (fun h => Nat.le_of_eq h.symm)) (fun b hb => ?_) hsame, ?_, fun _ _ h => h, fun b hb => ⟨.inl hb, hsame.block b (hr.sim.lt b hb)⟩⟩
 ·rw [hsz]
  rcases hb with h | h
  ·exact Nat.lt_succ_of_lt (hr.sim.lt b h)
  ·omega
 ·have := @VR.sl (fun b => S b ∨ b = w.heap.size) (w.alloc (.cells us e)) ρ sz vs w.heap.size 0 len us.toList (.inr rfl) (by rw [u2.1]; simp) (fun v hv => (hk' v hv).2) (by omega) (fun i u hu => ?_) (fun i x u hx hu => ?_)
  ·rw [hvl] at this; exact this
  ·rw [Array.getElem?_toList] at hu
   exact ⟨by rw [Nat.zero_add, cell_of hnew]; exact hu, u2.2.1 i u hu⟩
  ·rw [Array.getElem?_toList] at hu
   have hp := all_get (plain_flat hpl) hx
   exact ((u2.2.2 i x u hx hu).mono (fun b hb => ⟨.inl hb, hsame.block b (hr.sim.lt b hb)⟩) (fun _ _ h => h)).plain hp

end
end Go.Proofs.Ytpggknkhldecaaa.Abs
end
section
namespace Go.Proofs.Ytpggknkhldecaaa.Abs
theorem ones_of {z : Array Value} (h : z.toList.all (fun u => u.oneCell') = true) : ∀ (i : Nat) (u : Value), z[i]? = some u → u.oneCell' = true := fun i u hu =>
 List.all_eq_true.1 h u (by rw [← Array.getElem?_toList] at hu; exact List.mem_of_getElem? hu)
theorem a2 : (Try.prog.info? 2).map (·.zero) = some (some (.int .i64 0)) := by kernel_rfl
theorem o2 : (Value.cells (.int .i64 0)).size = 1 ∧ ∀ (i : Nat) (u : Value), (Value.cells (.int .i64 0))[i]? = some u → u.oneCell' = true := ⟨rfl, ones_of rfl⟩
theorem z3 : (Try.prog.info? 3).map (·.size) = some 1 := by kernel_rfl
theorem i3 : (Try.prog.info? 3).map (fun i => (i.zero, i.size, i.bytes)) = some (some (.int .i64 0), 1, 8) := by kernel_rfl
theorem a3 : (Try.prog.info? 3).map (·.zero) = some (some (.int .i64 0)) := by kernel_rfl
theorem o3 : (Value.cells (.int .i64 0)).size = 1 ∧ ∀ (i : Nat) (u : Value), (Value.cells (.int .i64 0))[i]? = some u → u.oneCell' = true := ⟨rfl, ones_of rfl⟩
theorem z4 : (Try.prog.info? 4).map (·.size) = some 1 := by kernel_rfl
theorem a4 : (Try.prog.info? 4).map (·.zero) = some (some (.bool false)) := by kernel_rfl
theorem z5 : (Try.prog.info? 5).map (·.size) = some 1 := by kernel_rfl
theorem i5 : (Try.prog.info? 5).map (fun i => (i.zero, i.size, i.bytes)) = some (some (.int .u8 0), 1, 1) := by kernel_rfl
theorem a5 : (Try.prog.info? 5).map (·.zero) = some (some (.int .u8 0)) := by kernel_rfl
theorem o5 : (Value.cells (.int .u8 0)).size = 1 ∧ ∀ (i : Nat) (u : Value), (Value.cells (.int .u8 0))[i]? = some u → u.oneCell' = true := ⟨rfl, ones_of rfl⟩
theorem a6 : (Try.prog.info? 6).map (·.zero) = some (some (.int .u8 0)) := by kernel_rfl
theorem z7 : (Try.prog.info? 7).map (·.size) = some 4 := by kernel_rfl
theorem a7 : (Try.prog.info? 7).map (·.zero) = some (some (.agg #[.int .i64 0, .int .i64 0, .bool false, .int .u8 0])) := by kernel_rfl
theorem z9 : (Try.prog.info? 9).map (·.size) = some 1 := by kernel_rfl
theorem i9 : (Try.prog.info? 9).map (fun i => (i.zero, i.size, i.bytes)) = some (some (.string ByteArray.empty), 1, 16) := by kernel_rfl
theorem o9 : (Value.cells (.string ByteArray.empty)).size = 1 ∧ ∀ (i : Nat) (u : Value), (Value.cells (.string ByteArray.empty))[i]? = some u → u.oneCell' = true := ⟨rfl, ones_of rfl⟩
theorem z22 : (Try.prog.info? 22).map (·.size) = some 1 := by kernel_rfl
theorem i22 : (Try.prog.info? 22).map (fun i => (i.zero, i.size, i.bytes)) = some (some (.slice none 0 0), 1, 24) := by kernel_rfl
theorem o22 : (Value.cells (.slice none 0 0)).size = 1 ∧ ∀ (i : Nat) (u : Value), (Value.cells (.slice none 0 0))[i]? = some u → u.oneCell' = true := ⟨rfl, ones_of rfl⟩
theorem z23 : (Try.prog.info? 23).map (·.size) = some 1 := by kernel_rfl
theorem z24 : (Try.prog.info? 24).map (·.size) = some 1 := by kernel_rfl
theorem z26 : (Try.prog.info? 26).map (·.size) = some 4 := by kernel_rfl
theorem i26 : (Try.prog.info? 26).map (fun i => (i.zero, i.size, i.bytes)) = some (some (.agg #[.int .i64 0, .int .i64 0, .slice none 0 0, .slice none 0 0]), 4, 64) := by kernel_rfl
theorem a26 : (Try.prog.info? 26).map (·.zero) = some (some (.agg #[.int .i64 0, .int .i64 0, .slice none 0 0, .slice none 0 0])) := by kernel_rfl
theorem o26 : (Value.cells (.agg #[.int .i64 0, .int .i64 0, .slice none 0 0, .slice none 0 0])).size = 4 ∧ ∀ (i : Nat) (u : Value), (Value.cells (.agg #[.int .i64 0, .int .i64 0, .slice none 0 0, .slice none 0 0]))[i]? = some u → u.oneCell' = true := ⟨rfl, ones_of rfl⟩
theorem z65 : (Try.prog.info? 65).map (·.size) = some 3 := by kernel_rfl
theorem i65 : (Try.prog.info? 65).map (fun i => (i.zero, i.size, i.bytes)) = some (some (.agg #[.string ByteArray.empty, .string ByteArray.empty, .bool false]), 3, 40) := by kernel_rfl
theorem a65 : (Try.prog.info? 65).map (·.zero) = some (some (.agg #[.string ByteArray.empty, .string ByteArray.empty, .bool false])) := by kernel_rfl
theorem o65 : (Value.cells (.agg #[.string ByteArray.empty, .string ByteArray.empty, .bool false])).size = 3 ∧ ∀ (i : Nat) (u : Value), (Value.cells (.agg #[.string ByteArray.empty, .string ByteArray.empty, .bool false]))[i]? = some u → u.oneCell' = true := ⟨rfl, ones_of rfl⟩
theorem z67 : (Try.prog.info? 67).map (·.size) = some 4 := by kernel_rfl
theorem i67 : (Try.prog.info? 67).map (fun i => (i.zero, i.size, i.bytes)) = some (some (.agg #[.string ByteArray.empty, .int .i64 0, .string ByteArray.empty, .bool false]), 4, 48) := by kernel_rfl
theorem a67 : (Try.prog.info? 67).map (·.zero) = some (some (.agg #[.string ByteArray.empty, .int .i64 0, .string ByteArray.empty, .bool false])) := by kernel_rfl
theorem o67 : (Value.cells (.agg #[.string ByteArray.empty, .int .i64 0, .string ByteArray.empty, .bool false])).size = 4 ∧ ∀ (i : Nat) (u : Value), (Value.cells (.agg #[.string ByteArray.empty, .int .i64 0, .string ByteArray.empty, .bool false]))[i]? = some u → u.oneCell' = true := ⟨rfl, ones_of rfl⟩
theorem a69 : (Try.prog.info? 69).map (·.zero) = some (some (.agg #[.slice none 0 0, .int .i64 0])) := by kernel_rfl
theorem z71 : (Try.prog.info? 71).map (·.size) = some 1 := by kernel_rfl
theorem i71 : (Try.prog.info? 71).map (fun i => (i.zero, i.size, i.bytes)) = some (some (.slice none 0 0), 1, 24) := by kernel_rfl
theorem o71 : (Value.cells (.slice none 0 0)).size = 1 ∧ ∀ (i : Nat) (u : Value), (Value.cells (.slice none 0 0))[i]? = some u → u.oneCell' = true := ⟨rfl, ones_of rfl⟩
theorem a95 : (Try.prog.info? 95).map (·.zero) = some (some (.agg #[.slice none 0 0, .int .i64 0, .bool false])) := by kernel_rfl
theorem a99 : (Try.prog.info? 99).map (·.zero) = some (some (.agg #[.slice none 0 0, .int .i64 0, .bool false])) := by kernel_rfl
end Go.Proofs.Ytpggknkhldecaaa.Abs
end
section
namespace Go.Proofs.Ytpggknkhldecaaa.Abs

def signB (c : UInt8) : Bool := decide (33 ≤ c.toNat) && decide (c.toNat ≤ 126)
def mayB (k : List UInt8) : Bool := k.all signB && (decide (1 ≤ k.length) && decide (k.length ≤ 8))
def shardN (n : Nat) (k : List UInt8) : Nat := k.foldl (fun s c => (s + c.toNat) % n) 0
def shardI (k : List UInt8) (n : Int) : Int := if n < 1 then 0 else (shardN n.toNat k : Nat)

theorem all_take {α : Type} {l : List α} {p : α → Bool} {i : Nat} {c : α} (hc : l[i]? = some c) : (l.take (i + 1)).all p = ((l.take i).all p && p c) := by
 rw [List.take_add_one, hc]
 simp
theorem all_bad {α : Type} {l : List α} {p : α → Bool} {i : Nat} {c : α} (hc : l[i]? = some c) (hp : p c = false) : l.all p = false := by
 rw [List.all_eq_false]
 exact ⟨c, List.mem_of_getElem? hc, by rw [hp]; decide⟩
theorem shard_take {n i : Nat} {k : List UInt8} {c : UInt8} (hc : k[i]? = some c) : shardN n (k.take (i + 1)) = (shardN n (k.take i) + c.toNat) % n := by
 unfold shardN
 rw [List.take_add_one, hc]
 simp
theorem tmod_nat (a b : Nat) : Int.tmod (a : Int) (b : Int) = ((a % b : Nat) : Int) := rfl

theorem key_sign (c : UInt8) : AC Try.prog 101 [.int .u8 (c.toNat : Int)] [] 0 false (fun r h nx => r = .bool (signB c) ∧ h = [] ∧ nx = 0) := by
 by_cases h1 : 33 ≤ c.toNat
 ·by_cases h2 : c.toNat ≤ 126
  ·skip
   refine ac_fn Try.func101 rfl rfl rfl rfl (fun w0 S0 r0 => ?_)
   refine aw_seq ?_
   refine aw_region ?_
   refine st_p (mva rfl) rfl ?_
   refine al_nil ?_
   refine nm ?_
   refine aw_seq ?_
   refine aw_region ?_
   refine st_p (mv rfl) rfl ?_
   refine st_p (OpP.conv (op_ge rfl rfl) (yes (by first | assumption | omega))) rfl ?_
   refine st_p (mv rfl) rfl ?_
   refine st_pg rfl rfl rfl (mv rfl) rfl ?_
   refine st_pg rfl rfl rfl (OpP.conv (op_le rfl rfl) (yes (by first | assumption | omega))) rfl ?_
   refine st_p (pkT rfl rfl) rfl ?_
   refine st_p (mva rfl) rfl ?_
   refine al_nil ?_
   refine nm ?_
   refine aw_ret ?_
   exact ret_v (res1 Try.results101) (.inr ⟨rfl, rfl⟩) ⟨by simp [signB, h1, h2, tget], rfl, rfl⟩
  ·skip
   refine ac_fn Try.func101 rfl rfl rfl rfl (fun w0 S0 r0 => ?_)
   refine aw_seq ?_
   refine aw_region ?_
   refine st_p (mva rfl) rfl ?_
   refine al_nil ?_
   refine nm ?_
   refine aw_seq ?_
   refine aw_region ?_
   refine st_p (mv rfl) rfl ?_
   refine st_p (OpP.conv (op_ge rfl rfl) (yes (by first | assumption | omega))) rfl ?_
   refine st_p (mv rfl) rfl ?_
   refine st_pg rfl rfl rfl (mv rfl) rfl ?_
   refine st_pg rfl rfl rfl (OpP.conv (op_le rfl rfl) (no (by first | assumption | omega))) rfl ?_
   refine st_p (pkT rfl rfl) rfl ?_
   refine st_p (mva rfl) rfl ?_
   refine al_nil ?_
   refine nm ?_
   refine aw_ret ?_
   exact ret_v (res1 Try.results101) (.inr ⟨rfl, rfl⟩) ⟨by simp [signB, h1, h2, tget], rfl, rfl⟩
 ·skip
  refine ac_fn Try.func101 rfl rfl rfl rfl (fun w0 S0 r0 => ?_)
  refine aw_seq ?_
  refine aw_region ?_
  refine st_p (mva rfl) rfl ?_
  refine al_nil ?_
  refine nm ?_
  refine aw_seq ?_
  refine aw_region ?_
  refine st_p (mv rfl) rfl ?_
  refine st_p (OpP.conv (op_ge rfl rfl) (no (by first | assumption | omega))) rfl ?_
  refine st_p (mv rfl) rfl ?_
  refine st_s rfl rfl rfl rfl rfl ?_
  refine st_s rfl rfl rfl rfl rfl ?_
  refine st_p (pkF rfl rfl) rfl ?_
  refine st_p (mva rfl) rfl ?_
  refine al_nil ?_
  refine nm ?_
  refine aw_ret ?_
  exact ret_v (res1 Try.results101) (.inr ⟨rfl, rfl⟩) ⟨by simp [signB, h1, tget], rfl, rfl⟩

theorem key_may (k : List UInt8) (hk : k.length ≤ 281474976710656) : AC Try.prog 79 [sb k] [] 0 false (fun r h nx => r = .bool (mayB k) ∧ h = [] ∧ nx = 0) := by
 refine ac_fn Try.func79 rfl rfl rfl rfl (fun w0 S0 r0 => ?_)
 refine aw_seq ?_
 refine aw_region ?_
 refine st_p (mva rfl) rfl ?_
 refine al_nil ?_
 refine nm ?_
 refine aw_seq ?_
 refine aw_seq ?_
 refine aw_region ?_
 refine st_p (mv rfl) rfl ?_
 refine st_p (op_lens Try.underlying111 rfl) rfl ?_
 refine st_p (mv rfl) rfl ?_
 refine al_nil ?_
 refine nm ?_
 refine aw_block ?_
 refine aw_loop (fun i : {i : Nat // i ≤ k.length ∧ (k.take i).all signB = true} => ⟨[(0, sb k), (2, .bool false), (5, .int .i64 k.length), (6, .int .i64 i.1)], [], 0⟩) (fun i => k.length - i.1) ⟨0, Nat.zero_le _, rfl⟩ ?_ ?_
 ·exact le_to [] rfl rfl rfl rfl rfl ⟨rfl, rfl, rfl, rfl, trivial⟩ trivial
 ·rintro ⟨i, hi, ha⟩
  dsimp only
  by_cases hlt : i < k.length
  ·obtain ⟨c, hc⟩ : ∃ c, k[i]? = some c := ⟨_, List.getElem?_eq_getElem hlt⟩
   refine aw_seq ?_
   refine aw_region ?_
   refine st_p (OpP.conv (op_lt rfl rfl) (yes (by first | assumption | omega))) rfl ?_
   refine al_nil ?_
   refine nm ?_
   refine aw_seq ?_
   refine aw_yes (rfl) ?_
   refine aw_skip ?_
   refine nm ?_
   refine aw_seq ?_
   refine aw_block ?_
   refine aw_seq ?_
   refine aw_region ?_
   refine st_p (mv rfl) rfl ?_
   refine st_p (mva rfl) rfl ?_
   refine al_nil ?_
   refine nm ?_
   refine aw_seq ?_
   refine aw_region ?_
   refine st_p (mv rfl) rfl ?_
   refine st_p (mv rfl) rfl ?_
   refine st_p (op_index Try.underlying111 rfl rfl (by omega) (by first | assumption | rfl)) rfl ?_
   refine st_call0 (key_sign c) Try.func101 ⟨rfl, rfl⟩ rfl (.cons (.same (by rfl)) .nil) rfl ?_
   cases hs : signB c with
   | false =>
    rintro _ _ _ ⟨rfl, rfl, rfl⟩ r2 h2 n2 hr hh hn
    simp only [AV.ren, rens, Blk.ren, swp, List.map_cons, List.map_nil, List.cons_append, List.nil_append, List.append_nil, Nat.not_lt_zero, if_false, Nat.reduceAdd, Nat.zero_add, Nat.add_zero, ren_bl, hs] at hr hh hn
    subst hr hh hn
    refine st_p (op_notF rfl) rfl ?_
    refine al_nil ?_
    refine nm ?_
    refine aw_yes (rfl) ?_
    refine aw_seq ?_
    refine aw_region ?_
    refine st_p (mva rfl) rfl ?_
    refine al_nil ?_
    refine nm ?_
    refine aw_ret ?_
    refine rb ?_
    refine rs ?_
    refine rs ?_
    refine rb ?_
    refine rs ?_
    exact ret_v (res1 Try.results79) (.inr ⟨rfl, rfl⟩) ⟨by simp [mayB, all_bad hc hs, tget], rfl, rfl⟩
   | true =>
    rintro _ _ _ ⟨rfl, rfl, rfl⟩ r2 h2 n2 hr hh hn
    simp only [AV.ren, rens, Blk.ren, swp, List.map_cons, List.map_nil, List.cons_append, List.nil_append, List.append_nil, Nat.not_lt_zero, if_false, Nat.reduceAdd, Nat.zero_add, Nat.add_zero, ren_bl, hs] at hr hh hn
    subst hr hh hn
    refine st_p (op_notT rfl) rfl ?_
    refine al_nil ?_
    refine nm ?_
    refine aw_no (rfl) ?_
    refine aw_skip ?_
    refine nmb ?_
    refine nm ?_
    refine aw_region ?_
    refine st_p (op_addi rfl rfl (by omega)) rfl ?_
    refine st_p (mv rfl) rfl ?_
    refine al_nil ?_
    refine nm ?_
    exact ⟨⟨i + 1, hlt, by rw [all_take hc, ha, hs]; rfl⟩, by dsimp only; omega, le_to [] rfl rfl rfl rfl rfl ⟨rfl, rfl, rfl, rfl, trivial⟩ trivial⟩
  ·have e : k.take i = k := List.take_of_length_le (by omega)
   rw [e] at ha
   by_cases h1 : 1 ≤ k.length
   ·by_cases h2 : k.length ≤ 8
    ·skip
     refine aw_seq ?_
     refine aw_region ?_
     refine st_p (OpP.conv (op_lt rfl rfl) (no (by first | assumption | omega))) rfl ?_
     refine al_nil ?_
     refine nm ?_
     refine aw_seq ?_
     refine aw_no (rfl) ?_
     refine aw_exit ?_
     refine xs ?_
     refine xs ?_
     refine xb ?_
     refine nm ?_
     refine aw_seq ?_
     refine aw_region ?_
     refine st_p (mv rfl) rfl ?_
     refine st_p (op_lens Try.underlying111 rfl) rfl ?_
     refine st_p (OpP.conv (op_ge rfl rfl) (yes (by first | assumption | omega))) rfl ?_
     refine st_p (mv rfl) rfl ?_
     refine st_pg rfl rfl rfl (mv rfl) rfl ?_
     first | refine st_s rfl rfl rfl rfl rfl ?_ | refine st_pg rfl rfl rfl (op_lens Try.underlying111 rfl) rfl ?_
     refine st_pg rfl rfl rfl (OpP.conv (op_le rfl rfl) (yes (by first | assumption | omega))) rfl ?_
     refine st_p (pkT rfl rfl) rfl ?_
     refine st_p (mva rfl) rfl ?_
     refine al_nil ?_
     refine nm ?_
     refine aw_ret ?_
     exact ret_v (res1 Try.results79) (.inr ⟨rfl, rfl⟩) ⟨by simp [mayB, ha, h1, h2, tget], rfl, rfl⟩
    ·skip
     refine aw_seq ?_
     refine aw_region ?_
     refine st_p (OpP.conv (op_lt rfl rfl) (no (by first | assumption | omega))) rfl ?_
     refine al_nil ?_
     refine nm ?_
     refine aw_seq ?_
     refine aw_no (rfl) ?_
     refine aw_exit ?_
     refine xs ?_
     refine xs ?_
     refine xb ?_
     refine nm ?_
     refine aw_seq ?_
     refine aw_region ?_
     refine st_p (mv rfl) rfl ?_
     refine st_p (op_lens Try.underlying111 rfl) rfl ?_
     refine st_p (OpP.conv (op_ge rfl rfl) (yes (by first | assumption | omega))) rfl ?_
     refine st_p (mv rfl) rfl ?_
     refine st_pg rfl rfl rfl (mv rfl) rfl ?_
     first | refine st_s rfl rfl rfl rfl rfl ?_ | refine st_pg rfl rfl rfl (op_lens Try.underlying111 rfl) rfl ?_
     refine st_pg rfl rfl rfl (OpP.conv (op_le rfl rfl) (no (by first | assumption | omega))) rfl ?_
     refine st_p (pkT rfl rfl) rfl ?_
     refine st_p (mva rfl) rfl ?_
     refine al_nil ?_
     refine nm ?_
     refine aw_ret ?_
     exact ret_v (res1 Try.results79) (.inr ⟨rfl, rfl⟩) ⟨by simp [mayB, ha, h1, h2, tget], rfl, rfl⟩
   ·skip
    refine aw_seq ?_
    refine aw_region ?_
    refine st_p (OpP.conv (op_lt rfl rfl) (no (by first | assumption | omega))) rfl ?_
    refine al_nil ?_
    refine nm ?_
    refine aw_seq ?_
    refine aw_no (rfl) ?_
    refine aw_exit ?_
    refine xs ?_
    refine xs ?_
    refine xb ?_
    refine nm ?_
    refine aw_seq ?_
    refine aw_region ?_
    refine st_p (mv rfl) rfl ?_
    refine st_p (op_lens Try.underlying111 rfl) rfl ?_
    refine st_p (OpP.conv (op_ge rfl rfl) (no (by first | assumption | omega))) rfl ?_
    refine st_p (mv rfl) rfl ?_
    refine st_s rfl rfl rfl rfl rfl ?_
    first | refine st_s rfl rfl rfl rfl rfl ?_ | refine st_pg rfl rfl rfl (op_lens Try.underlying111 rfl) rfl ?_
    refine st_s rfl rfl rfl rfl rfl ?_
    refine st_p (pkF rfl rfl) rfl ?_
    refine st_p (mva rfl) rfl ?_
    refine al_nil ?_
    refine nm ?_
    refine aw_ret ?_
    exact ret_v (res1 Try.results79) (.inr ⟨rfl, rfl⟩) ⟨by simp [mayB, ha, h1, tget], rfl, rfl⟩

theorem ref_MayKey (k : List UInt8) (hk : k.length ≤ 281474976710656) : AC Try.prog 82 [sb k] [] 0 false (fun r h nx => r = .bool (mayB k) ∧ h = [] ∧ nx = 0) := by
 refine ac_fn Try.func82 rfl rfl rfl rfl (fun w0 S0 r0 => ?_)
 refine aw_seq ?_
 refine aw_region ?_
 refine st_p (mva rfl) rfl ?_
 refine al_nil ?_
 refine nm ?_
 refine aw_seq ?_
 refine aw_seq ?_
 refine aw_region ?_
 refine st_p (mva rfl) rfl ?_
 refine al_nil ?_
 refine nm ?_
 refine aw_block ?_
 refine aw_loop (fun i : {i : Nat // i ≤ k.length ∧ (k.take i).all signB = true} => ⟨[(0, sb k), (2, .bool false), (3, .int .i64 i.1)], [], 0⟩) (fun i => k.length - i.1) ⟨0, Nat.zero_le _, rfl⟩ ?_ ?_
 ·exact le_to [] rfl rfl rfl rfl rfl ⟨rfl, rfl, rfl, trivial⟩ trivial
 ·rintro ⟨i, hi, ha⟩
  dsimp only
  by_cases hlt : i < k.length
  ·obtain ⟨c, hc⟩ : ∃ c, k[i]? = some c := ⟨_, List.getElem?_eq_getElem hlt⟩
   by_cases h33 : 33 ≤ c.toNat
   ·by_cases h126 : c.toNat ≤ 126
    ·have hs : signB c = true := by simp [signB, h33, h126]
     refine aw_seq ?_
     refine aw_seq ?_
     refine aw_region ?_
     refine st_p (mv rfl) rfl ?_
     refine st_p (mv rfl) rfl ?_
     refine st_p (op_lens Try.underlying9 rfl) rfl ?_
     refine st_p (OpP.conv (op_lt rfl rfl) (yes (by first | assumption | omega))) rfl ?_
     refine al_nil ?_
     refine nm ?_
     refine aw_yes (rfl) ?_
     refine aw_skip ?_
     refine nm ?_
     refine aw_seq ?_
     refine aw_block ?_
     refine aw_seq ?_
     refine aw_region ?_
     refine st_p (mv rfl) rfl ?_
     refine st_p (mv rfl) rfl ?_
     refine st_p (op_index Try.underlying9 rfl rfl (by omega) (by first | assumption | rfl)) rfl ?_
     refine st_p (OpP.conv (op_lt rfl rfl) (no (by first | assumption | omega))) rfl ?_
     refine st_p (mv rfl) rfl ?_
     refine st_pg rfl rfl rfl (mv rfl) rfl ?_
     refine st_pg rfl rfl rfl (mv rfl) rfl ?_
     refine st_pg rfl rfl rfl (op_index Try.underlying9 rfl rfl (by omega) (by first | assumption | rfl)) rfl ?_
     refine st_pg rfl rfl rfl (OpP.conv (op_gt rfl rfl) (no (by first | assumption | omega))) rfl ?_
     refine st_p (pkF rfl rfl) rfl ?_
     refine al_nil ?_
     refine nm ?_
     refine aw_no (rfl) ?_
     refine aw_skip ?_
     refine nmb ?_
     refine nm ?_
     refine aw_region ?_
     refine st_p (mv rfl) rfl ?_
     refine st_p (op_addi rfl rfl (by omega)) rfl ?_
     refine st_p (mva rfl) rfl ?_
     refine al_nil ?_
     refine nm ?_
     exact ⟨⟨i + 1, hlt, by rw [all_take hc, ha, hs]; rfl⟩, by dsimp only; omega, le_to [] rfl rfl rfl rfl rfl ⟨rfl, rfl, rfl, trivial⟩ trivial⟩
    ·have hs : signB c = false := by simp [signB, h126]
     refine aw_seq ?_
     refine aw_seq ?_
     refine aw_region ?_
     refine st_p (mv rfl) rfl ?_
     refine st_p (mv rfl) rfl ?_
     refine st_p (op_lens Try.underlying9 rfl) rfl ?_
     refine st_p (OpP.conv (op_lt rfl rfl) (yes (by first | assumption | omega))) rfl ?_
     refine al_nil ?_
     refine nm ?_
     refine aw_yes (rfl) ?_
     refine aw_skip ?_
     refine nm ?_
     refine aw_seq ?_
     refine aw_block ?_
     refine aw_seq ?_
     refine aw_region ?_
     refine st_p (mv rfl) rfl ?_
     refine st_p (mv rfl) rfl ?_
     refine st_p (op_index Try.underlying9 rfl rfl (by omega) (by first | assumption | rfl)) rfl ?_
     refine st_p (OpP.conv (op_lt rfl rfl) (no (by first | assumption | omega))) rfl ?_
     refine st_p (mv rfl) rfl ?_
     refine st_pg rfl rfl rfl (mv rfl) rfl ?_
     refine st_pg rfl rfl rfl (mv rfl) rfl ?_
     refine st_pg rfl rfl rfl (op_index Try.underlying9 rfl rfl (by omega) (by first | assumption | rfl)) rfl ?_
     refine st_pg rfl rfl rfl (OpP.conv (op_gt rfl rfl) (yes (by first | assumption | omega))) rfl ?_
     refine st_p (pkF rfl rfl) rfl ?_
     refine al_nil ?_
     refine nm ?_
     refine aw_yes (rfl) ?_
     refine aw_seq ?_
     refine aw_region ?_
     refine st_p (mva rfl) rfl ?_
     refine al_nil ?_
     refine nm ?_
     refine aw_ret ?_
     refine rb ?_
     refine rs ?_
     refine rs ?_
     refine rb ?_
     refine rs ?_
     exact ret_v (res1 Try.results82) (.inr ⟨rfl, rfl⟩) ⟨by simp [mayB, all_bad hc hs, tget], rfl, rfl⟩
   ·have hs : signB c = false := by simp [signB, h33]
    refine aw_seq ?_
    refine aw_seq ?_
    refine aw_region ?_
    refine st_p (mv rfl) rfl ?_
    refine st_p (mv rfl) rfl ?_
    refine st_p (op_lens Try.underlying9 rfl) rfl ?_
    refine st_p (OpP.conv (op_lt rfl rfl) (yes (by first | assumption | omega))) rfl ?_
    refine al_nil ?_
    refine nm ?_
    refine aw_yes (rfl) ?_
    refine aw_skip ?_
    refine nm ?_
    refine aw_seq ?_
    refine aw_block ?_
    refine aw_seq ?_
    refine aw_region ?_
    refine st_p (mv rfl) rfl ?_
    refine st_p (mv rfl) rfl ?_
    refine st_p (op_index Try.underlying9 rfl rfl (by omega) (by first | assumption | rfl)) rfl ?_
    refine st_p (OpP.conv (op_lt rfl rfl) (yes (by first | assumption | omega))) rfl ?_
    refine st_p (mv rfl) rfl ?_
    refine st_s rfl rfl rfl rfl rfl ?_
    refine st_s rfl rfl rfl rfl rfl ?_
    refine st_s rfl rfl rfl rfl rfl ?_
    refine st_s rfl rfl rfl rfl rfl ?_
    refine st_p (pkT rfl rfl) rfl ?_
    refine al_nil ?_
    refine nm ?_
    refine aw_yes (rfl) ?_
    refine aw_seq ?_
    refine aw_region ?_
    refine st_p (mva rfl) rfl ?_
    refine al_nil ?_
    refine nm ?_
    refine aw_ret ?_
    refine rb ?_
    refine rs ?_
    refine rs ?_
    refine rb ?_
    refine rs ?_
    exact ret_v (res1 Try.results82) (.inr ⟨rfl, rfl⟩) ⟨by simp [mayB, all_bad hc hs, tget], rfl, rfl⟩
  ·have e : k.take i = k := List.take_of_length_le (by omega)
   rw [e] at ha
   by_cases h1 : 1 ≤ k.length
   ·by_cases h2 : k.length ≤ 8
    ·skip
     refine aw_seq ?_
     refine aw_seq ?_
     refine aw_region ?_
     refine st_p (mv rfl) rfl ?_
     refine st_p (mv rfl) rfl ?_
     refine st_p (op_lens Try.underlying9 rfl) rfl ?_
     refine st_p (OpP.conv (op_lt rfl rfl) (no (by first | assumption | omega))) rfl ?_
     refine al_nil ?_
     refine nm ?_
     refine aw_no (rfl) ?_
     refine aw_exit ?_
     refine xs ?_
     refine xs ?_
     refine xb ?_
     refine nm ?_
     refine aw_seq ?_
     refine aw_region ?_
     refine st_p (mv rfl) rfl ?_
     refine st_p (op_lens Try.underlying9 rfl) rfl ?_
     refine st_p (OpP.conv (op_ge rfl rfl) (yes (by first | assumption | omega))) rfl ?_
     refine st_p (mv rfl) rfl ?_
     refine st_pg rfl rfl rfl (mv rfl) rfl ?_
     refine st_pg rfl rfl rfl (op_lens Try.underlying9 rfl) rfl ?_
     refine st_pg rfl rfl rfl (OpP.conv (op_le rfl rfl) (yes (by first | assumption | omega))) rfl ?_
     refine st_p (pkT rfl rfl) rfl ?_
     refine st_p (mva rfl) rfl ?_
     refine al_nil ?_
     refine nm ?_
     refine aw_ret ?_
     exact ret_v (res1 Try.results82) (.inr ⟨rfl, rfl⟩) ⟨by simp [mayB, ha, h1, h2, tget], rfl, rfl⟩
    ·skip
     refine aw_seq ?_
     refine aw_seq ?_
     refine aw_region ?_
     refine st_p (mv rfl) rfl ?_
     refine st_p (mv rfl) rfl ?_
     refine st_p (op_lens Try.underlying9 rfl) rfl ?_
     refine st_p (OpP.conv (op_lt rfl rfl) (no (by first | assumption | omega))) rfl ?_
     refine al_nil ?_
     refine nm ?_
     refine aw_no (rfl) ?_
     refine aw_exit ?_
     refine xs ?_
     refine xs ?_
     refine xb ?_
     refine nm ?_
     refine aw_seq ?_
     refine aw_region ?_
     refine st_p (mv rfl) rfl ?_
     refine st_p (op_lens Try.underlying9 rfl) rfl ?_
     refine st_p (OpP.conv (op_ge rfl rfl) (yes (by first | assumption | omega))) rfl ?_
     refine st_p (mv rfl) rfl ?_
     refine st_pg rfl rfl rfl (mv rfl) rfl ?_
     refine st_pg rfl rfl rfl (op_lens Try.underlying9 rfl) rfl ?_
     refine st_pg rfl rfl rfl (OpP.conv (op_le rfl rfl) (no (by first | assumption | omega))) rfl ?_
     refine st_p (pkT rfl rfl) rfl ?_
     refine st_p (mva rfl) rfl ?_
     refine al_nil ?_
     refine nm ?_
     refine aw_ret ?_
     exact ret_v (res1 Try.results82) (.inr ⟨rfl, rfl⟩) ⟨by simp [mayB, ha, h1, h2, tget], rfl, rfl⟩
   ·skip
    refine aw_seq ?_
    refine aw_seq ?_
    refine aw_region ?_
    refine st_p (mv rfl) rfl ?_
    refine st_p (mv rfl) rfl ?_
    refine st_p (op_lens Try.underlying9 rfl) rfl ?_
    refine st_p (OpP.conv (op_lt rfl rfl) (no (by first | assumption | omega))) rfl ?_
    refine al_nil ?_
    refine nm ?_
    refine aw_no (rfl) ?_
    refine aw_exit ?_
    refine xs ?_
    refine xs ?_
    refine xb ?_
    refine nm ?_
    refine aw_seq ?_
    refine aw_region ?_
    refine st_p (mv rfl) rfl ?_
    refine st_p (op_lens Try.underlying9 rfl) rfl ?_
    refine st_p (OpP.conv (op_ge rfl rfl) (no (by first | assumption | omega))) rfl ?_
    refine st_p (mv rfl) rfl ?_
    refine st_s rfl rfl rfl rfl rfl ?_
    refine st_s rfl rfl rfl rfl rfl ?_
    refine st_s rfl rfl rfl rfl rfl ?_
    refine st_p (pkF rfl rfl) rfl ?_
    refine st_p (mva rfl) rfl ?_
    refine al_nil ?_
    refine nm ?_
    refine aw_ret ?_
    exact ret_v (res1 Try.results82) (.inr ⟨rfl, rfl⟩) ⟨by simp [mayB, ha, h1, tget], rfl, rfl⟩

theorem key_Shard (k : List UInt8) (n : Int) (hk : k.length ≤ 281474976710656) (hn : n ≤ 9223372036854775807) : AC Try.prog 58 [sb k, .int .i64 n] [] 0 false (fun r h nx => r = .int .i64 (shardI k n) ∧ h = [] ∧ nx = 0) := by
 by_cases h1 : n < 1
 ·skip
  refine ac_fn Try.func58 rfl rfl rfl rfl (fun w0 S0 r0 => ?_)
  refine aw_seq ?_
  refine aw_region ?_
  refine st_p (mva rfl) rfl ?_
  refine al_nil ?_
  refine nm ?_
  refine aw_seq ?_
  refine aw_seq ?_
  refine aw_region ?_
  refine st_p (mv rfl) rfl ?_
  refine st_p (OpP.conv (op_lt rfl rfl) (yes (by first | assumption | omega))) rfl ?_
  refine al_nil ?_
  refine nm ?_
  refine aw_yes (rfl) ?_
  refine aw_seq ?_
  refine aw_region ?_
  refine st_p (mva rfl) rfl ?_
  refine al_nil ?_
  refine nm ?_
  refine aw_ret ?_
  refine rs ?_
  exact ret_v (res1 Try.results58) (.inr ⟨rfl, rfl⟩) ⟨by unfold shardI; rw [if_pos h1]; rfl, rfl, rfl⟩
 ·obtain ⟨m, rfl⟩ : ∃ m : Nat, n = m := ⟨n.toNat, by omega⟩
  have hm : 0 < m := by omega
  refine ac_fn Try.func58 rfl rfl rfl rfl (fun w0 S0 r0 => ?_)
  refine aw_seq ?_
  refine aw_region ?_
  refine st_p (mva rfl) rfl ?_
  refine al_nil ?_
  refine nm ?_
  refine aw_seq ?_
  refine aw_seq ?_
  refine aw_region ?_
  refine st_p (mv rfl) rfl ?_
  refine st_p (OpP.conv (op_lt rfl rfl) (no (by first | assumption | omega))) rfl ?_
  refine al_nil ?_
  refine nm ?_
  refine aw_no (rfl) ?_
  refine aw_skip ?_
  refine nm ?_
  refine aw_seq ?_
  refine aw_region ?_
  refine st_p (mva rfl) rfl ?_
  refine al_nil ?_
  refine nm ?_
  refine aw_seq ?_
  refine aw_seq ?_
  refine aw_region ?_
  refine st_p (mv rfl) rfl ?_
  refine st_p (op_lens Try.underlying9 rfl) rfl ?_
  refine st_p (mv rfl) rfl ?_
  refine al_nil ?_
  refine nm ?_
  refine aw_block ?_
  refine aw_loop (fun p : {p : Nat × Nat // p.1 ≤ k.length ∧ p.2 = shardN m (k.take p.1) ∧ p.2 ≤ 255 * p.1} => ⟨[(0, sb k), (1, .int .i64 m), (5, .int .i64 p.1.2), (10, .int .i64 k.length), (11, .int .i64 p.1.1)], [], 0⟩) (fun p => k.length - p.1.1) ⟨(0, 0), Nat.zero_le _, rfl, Nat.le_refl _⟩ ?_ ?_
  ·exact le_to [] rfl rfl rfl rfl rfl ⟨rfl, rfl, rfl, rfl, rfl, trivial⟩ trivial
  ·rintro ⟨⟨i, s⟩, hi, hs, hb⟩
   dsimp only at hi hs hb ⊢
   by_cases hlt : i < k.length
   ·obtain ⟨c, hc⟩ : ∃ c, k[i]? = some c := ⟨_, List.getElem?_eq_getElem hlt⟩
    have hcl := c.toNat_lt
    have hcm : c.toNat % m ≤ c.toNat := Nat.mod_le _ _
    have hcm2 : Int.tmod (c.toNat : Int) (m : Int) = ((c.toNat % m : Nat) : Int) := tmod_nat _ _
    have hle : (s + c.toNat % m) % m ≤ s + c.toNat % m := Nat.mod_le _ _
    refine aw_seq ?_
    refine aw_region ?_
    refine st_p (OpP.conv (op_lt rfl rfl) (yes (by first | assumption | omega))) rfl ?_
    refine al_nil ?_
    refine nm ?_
    refine aw_seq ?_
    refine aw_yes (rfl) ?_
    refine aw_skip ?_
    refine nm ?_
    refine aw_seq ?_
    refine aw_block ?_
    refine aw_seq ?_
    refine aw_region ?_
    refine st_p (mv rfl) rfl ?_
    refine st_p (mva rfl) rfl ?_
    refine al_nil ?_
    refine nm ?_
    refine aw_region ?_
    refine st_p (mv rfl) rfl ?_
    refine st_p (mv rfl) rfl ?_
    refine st_p (mv rfl) rfl ?_
    refine st_p (op_index Try.underlying9 rfl rfl (by omega) (by first | assumption | rfl)) rfl ?_
    refine st_p (op_convi (by rw [Try.underlying5]; rfl) Try.underlying3 rfl (by omega)) rfl ?_
    refine st_p (mv rfl) rfl ?_
    refine st_p (op_remi rfl rfl (by omega) (by omega)) rfl ?_
    refine st_p (op_addi rfl rfl (by omega)) rfl ?_
    refine st_p (mv rfl) rfl ?_
    refine st_p (op_remi rfl rfl (by omega) (by omega)) rfl ?_
    refine st_p (mva rfl) rfl ?_
    refine al_nil ?_
    refine nmb ?_
    refine nm ?_
    refine aw_region ?_
    refine st_p (op_addi rfl rfl (by omega)) rfl ?_
    refine st_p (mv rfl) rfl ?_
    refine al_nil ?_
    refine nm ?_
    refine ⟨⟨(i + 1, (s + c.toNat % m) % m), hlt, by rw [shard_take hc, ← hs, Nat.add_mod_mod], by dsimp only; omega⟩, by dsimp only; omega, le_to [] rfl rfl rfl rfl rfl ⟨rfl, rfl, ?_, rfl, rfl, trivial⟩ trivial⟩
    rfl
   ·have e : k.take i = k := List.take_of_length_le (by omega)
    refine aw_seq ?_
    refine aw_region ?_
    refine st_p (OpP.conv (op_lt rfl rfl) (no (by first | assumption | omega))) rfl ?_
    refine al_nil ?_
    refine nm ?_
    refine aw_seq ?_
    refine aw_no (rfl) ?_
    refine aw_exit ?_
    refine xs ?_
    refine xs ?_
    refine xb ?_
    refine nm ?_
    refine aw_seq ?_
    refine aw_region ?_
    refine st_p (mv rfl) rfl ?_
    refine st_p (mva rfl) rfl ?_
    refine al_nil ?_
    refine nm ?_
    refine aw_ret ?_
    exact ret_v (res1 Try.results58) (.inr ⟨rfl, rfl⟩) ⟨by unfold shardI; rw [if_neg h1, Int.toNat_natCast, ← e, ← hs]; rfl, rfl, rfl⟩

theorem ref_ShardOf (k : List UInt8) (n : Int) (hk : k.length ≤ 281474976710656) (hn : n ≤ 9223372036854775807) : AC Try.prog 61 [sb k, .int .i64 n] [] 0 false (fun r h nx => r = .int .i64 (shardI k n) ∧ h = [] ∧ nx = 0) := by
 by_cases h1 : n < 1
 ·skip
  refine ac_fn Try.func61 rfl rfl rfl rfl (fun w0 S0 r0 => ?_)
  refine aw_seq ?_
  refine aw_region ?_
  refine st_p (mva rfl) rfl ?_
  refine al_nil ?_
  refine nm ?_
  refine aw_seq ?_
  refine aw_seq ?_
  refine aw_region ?_
  refine st_p (mv rfl) rfl ?_
  refine st_p (OpP.conv (op_lt rfl rfl) (yes (by first | assumption | omega))) rfl ?_
  refine al_nil ?_
  refine nm ?_
  refine aw_yes (rfl) ?_
  refine aw_seq ?_
  refine aw_region ?_
  refine st_p (mva rfl) rfl ?_
  refine al_nil ?_
  refine nm ?_
  refine aw_ret ?_
  refine rs ?_
  exact ret_v (res1 Try.results61) (.inr ⟨rfl, rfl⟩) ⟨by unfold shardI; rw [if_pos h1]; rfl, rfl, rfl⟩
 ·obtain ⟨m, rfl⟩ : ∃ m : Nat, n = m := ⟨n.toNat, by omega⟩
  have hm : 0 < m := by omega
  refine ac_fn Try.func61 rfl rfl rfl rfl (fun w0 S0 r0 => ?_)
  refine aw_seq ?_
  refine aw_region ?_
  refine st_p (mva rfl) rfl ?_
  refine al_nil ?_
  refine nm ?_
  refine aw_seq ?_
  refine aw_seq ?_
  refine aw_region ?_
  refine st_p (mv rfl) rfl ?_
  refine st_p (OpP.conv (op_lt rfl rfl) (no (by first | assumption | omega))) rfl ?_
  refine al_nil ?_
  refine nm ?_
  refine aw_no (rfl) ?_
  refine aw_skip ?_
  refine nm ?_
  refine aw_seq ?_
  refine aw_region ?_
  refine st_p (mva rfl) rfl ?_
  refine al_nil ?_
  refine nm ?_
  refine aw_seq ?_
  refine aw_seq ?_
  refine aw_region ?_
  refine st_p (mva rfl) rfl ?_
  refine al_nil ?_
  refine nm ?_
  refine aw_block ?_
  refine aw_loop (fun p : {p : Nat × Nat // p.1 ≤ k.length ∧ p.2 = shardN m (k.take p.1) ∧ p.2 ≤ 255 * p.1} => ⟨[(0, sb k), (1, .int .i64 m), (5, .int .i64 p.1.2), (6, .int .i64 p.1.1)], [], 0⟩) (fun p => k.length - p.1.1) ⟨(0, 0), Nat.zero_le _, rfl, Nat.le_refl _⟩ ?_ ?_
  ·exact le_to [] rfl rfl rfl rfl rfl ⟨rfl, rfl, rfl, rfl, trivial⟩ trivial
  ·rintro ⟨⟨i, s⟩, hi, hs, hb⟩
   dsimp only at hi hs hb ⊢
   by_cases hlt : i < k.length
   ·obtain ⟨c, hc⟩ : ∃ c, k[i]? = some c := ⟨_, List.getElem?_eq_getElem hlt⟩
    have hcl := c.toNat_lt
    have hle : (s + c.toNat) % m ≤ s + c.toNat := Nat.mod_le _ _
    refine aw_seq ?_
    refine aw_seq ?_
    refine aw_region ?_
    refine st_p (mv rfl) rfl ?_
    refine st_p (mv rfl) rfl ?_
    refine st_p (op_lens Try.underlying9 rfl) rfl ?_
    refine st_p (OpP.conv (op_lt rfl rfl) (yes (by first | assumption | omega))) rfl ?_
    refine al_nil ?_
    refine nm ?_
    refine aw_yes (rfl) ?_
    refine aw_skip ?_
    refine nm ?_
    refine aw_seq ?_
    refine aw_block ?_
    refine aw_region ?_
    refine st_p (mv rfl) rfl ?_
    refine st_p (mv rfl) rfl ?_
    refine st_p (mv rfl) rfl ?_
    refine st_p (op_index Try.underlying9 rfl rfl (by omega) (by first | assumption | rfl)) rfl ?_
    refine st_p (op_convi (by rw [Try.underlying5]; rfl) Try.underlying3 rfl (by omega)) rfl ?_
    refine st_p (op_addi rfl rfl (by omega)) rfl ?_
    refine st_p (mv rfl) rfl ?_
    refine st_p (op_remi rfl rfl (by omega) (by omega)) rfl ?_
    refine st_p (mva rfl) rfl ?_
    refine al_nil ?_
    refine nmb ?_
    refine nm ?_
    refine aw_region ?_
    refine st_p (mv rfl) rfl ?_
    refine st_p (op_addi rfl rfl (by omega)) rfl ?_
    refine st_p (mva rfl) rfl ?_
    refine al_nil ?_
    refine nm ?_
    exact ⟨⟨(i + 1, (s + c.toNat) % m), hlt, by rw [shard_take hc, ← hs], by dsimp only; omega⟩, by dsimp only; omega, le_to [] rfl rfl rfl rfl rfl ⟨rfl, rfl, rfl, rfl, trivial⟩ trivial⟩
   ·have e : k.take i = k := List.take_of_length_le (by omega)
    refine aw_seq ?_
    refine aw_seq ?_
    refine aw_region ?_
    refine st_p (mv rfl) rfl ?_
    refine st_p (mv rfl) rfl ?_
    refine st_p (op_lens Try.underlying9 rfl) rfl ?_
    refine st_p (OpP.conv (op_lt rfl rfl) (no (by first | assumption | omega))) rfl ?_
    refine al_nil ?_
    refine nm ?_
    refine aw_no (rfl) ?_
    refine aw_exit ?_
    refine xs ?_
    refine xs ?_
    refine xb ?_
    refine nm ?_
    refine aw_seq ?_
    refine aw_region ?_
    refine st_p (mv rfl) rfl ?_
    refine st_p (mva rfl) rfl ?_
    refine al_nil ?_
    refine nm ?_
    refine aw_ret ?_
    exact ret_v (res1 Try.results61) (.inr ⟨rfl, rfl⟩) ⟨by unfold shardI; rw [if_neg h1, Int.toNat_natCast, ← e, ← hs]; rfl, rfl, rfl⟩

end Go.Proofs.Ytpggknkhldecaaa.Abs
end
section
namespace Go.Proofs.Ytpggknkhldecaaa.Abs

theorem bless_swap : ∀ (a b : List UInt8), (bless a b || a == b) = !bless b a := by
 intro a
 induction a with
 | nil => intro b; cases b <;> rfl
 | cons x a ih =>
  intro b
  cases b with
  | nil => rfl
  | cons y b =>
   show (Op.bytesLess (x :: a) (y :: b) || (x :: a) == (y :: b)) = !Op.bytesLess (y :: b) (x :: a)
   have ih : (Op.bytesLess a b || a == b) = !Op.bytesLess b a := ih b
   simp only [Op.bytesLess, List.cons_beq_cons]
   by_cases h1 : x < y
   ·have h2 : ¬ y < x := fun h => absurd (UInt8.lt_trans h1 h) (UInt8.lt_irrefl _)
    have h3 : (y == x) = false := by simp; rintro rfl; exact UInt8.lt_irrefl _ h1
    simp [h1, h2, h3]
   ·by_cases h2 : y < x
    ·have h3 : (x == y) = false := by simp; rintro rfl; exact UInt8.lt_irrefl _ h2
     simp [h1, h2, h3]
    ·have h3 : x = y := UInt8.le_antisymm (UInt8.not_lt.1 h2) (UInt8.not_lt.1 h1)
     subst h3
     simp only [UInt8.lt_irrefl, decide_false, Bool.false_or, beq_self_eq_true, Bool.true_and]
     exact ih

def okAt (l : List (List UInt8)) (j : Nat) : Bool := mayB (l.getD j []) && (j == 0 || bless (l.getD (j - 1) []) (l.getD j []))
def risingB (l : List (List UInt8)) : Bool := (List.range l.length).all (okAt l)

theorem rising_bad {l : List (List UInt8)} {i : Nat} (hi : i < l.length) (h : okAt l i = false) : risingB l = false := by
 unfold risingB
 rw [List.all_eq_false]
 exact ⟨i, List.mem_range.2 hi, by rw [h]; decide⟩
theorem rising_good {l : List (List UInt8)} (h : ∀ j, j < l.length → okAt l j = true) : risingB l = true := by
 unfold risingB
 rw [List.all_eq_true]
 exact fun j hj => h j (List.mem_range.1 hj)

theorem key_Rising (l : List (List UInt8)) (hl : l.length ≤ 281474976710656) (hk : ∀ k ∈ l, k.length ≤ 281474976710656) : AC Try.prog 40 [.sl 1 (l.map sb)] [] 0 false (fun r h nx => r = .bool (risingB l) ∧ h = [] ∧ nx = 0) := by
 have hlm : (l.map sb).length = l.length := List.length_map _
 refine ac_fn Try.func40 rfl rfl rfl rfl (fun w0 S0 r0 => ?_)
 refine aw_seq ?_
 refine aw_region ?_
 refine st_p (mva rfl) rfl ?_
 refine al_nil ?_
 refine nm ?_
 refine aw_seq ?_
 refine aw_region ?_
 refine st_p (mva rfl) rfl ?_
 refine al_nil ?_
 refine nm ?_
 refine aw_seq ?_
 refine aw_seq ?_
 refine aw_region ?_
 refine st_p (mv rfl) rfl ?_
 refine st_p (op_len Try.underlying71 rfl) rfl ?_
 refine st_p (mv rfl) rfl ?_
 refine al_nil ?_
 refine nm ?_
 refine aw_block ?_
 refine aw_loop (fun i : {i : Nat // i ≤ l.length ∧ ∀ j, j < i → okAt l j = true} => ⟨[(0, .sl 1 (l.map sb)), (2, .bool false), (3, .fn (.func 79) [] []), (6, .sl 1 (l.map sb)), (7, .int .i64 l.length), (8, .int .i64 i.1)], [], 0⟩) (fun i => l.length - i.1) ⟨0, Nat.zero_le _, fun j hj => absurd hj (Nat.not_lt_zero _)⟩ ?_ ?_
 ·exact le_to [] rfl rfl rfl rfl rfl ⟨rfl, rfl, rfl, rfl, by rw [← hlm]; rfl, rfl, trivial⟩ trivial
 ·rintro ⟨i, hi, ha⟩
  dsimp only
  by_cases hlt : i < l.length
  ·obtain ⟨k, hc⟩ : ∃ k, l[i]? = some k := ⟨_, List.getElem?_eq_getElem hlt⟩
   have hcb : (l.map sb)[((i : Nat) : Int).toNat]? = some (sb k) := by rw [Int.toNat_natCast, List.getElem?_map, hc]; rfl
   have hgk : l.getD i [] = k := by rw [List.getD_eq_getElem?_getD, hc]; rfl
   refine aw_seq ?_
   refine aw_region ?_
   refine st_p (OpP.conv (op_lt rfl rfl) (yes (by first | assumption | omega))) rfl ?_
   refine al_nil ?_
   refine nm ?_
   refine aw_seq ?_
   refine aw_yes (rfl) ?_
   refine aw_skip ?_
   refine nm ?_
   refine aw_seq ?_
   refine aw_block ?_
   refine aw_seq ?_
   refine aw_region ?_
   refine st_p (mv rfl) rfl ?_
   refine st_p (op_indexAddrL Try.underlying71 z9 rfl rfl (by omega) (by first | assumption | rfl)) rfl ?_
   refine st_p (op_load1L Try.underlying9 rfl rfl rfl) rfl ?_
   refine st_p (mva rfl) rfl ?_
   refine st_p (mva rfl) rfl ?_
   refine al_nil ?_
   refine nm ?_
   refine aw_seq ?_
   refine aw_region ?_
   refine st_p (mv rfl) rfl ?_
   refine st_p (mv rfl) rfl ?_
   refine st_call (key_may k (hk k (List.mem_of_getElem? hc))) Try.func79 ⟨rfl, rfl⟩ rfl rfl (.cons (.same (by rfl)) .nil) rfl ?_
   cases hs : mayB k with
   | false =>
    rintro _ _ _ ⟨rfl, rfl, rfl⟩ r2 h2 n2 hr hh hn
    simp only [AV.ren, rens, Blk.ren, swp, List.map_cons, List.map_nil, List.cons_append, List.nil_append, List.append_nil, Nat.not_lt_zero, if_false, Nat.reduceAdd, Nat.zero_add, Nat.add_zero, ren_bl, hs] at hr hh hn
    subst hr hh hn
    refine st_p (op_notF rfl) rfl ?_
    refine st_p (mv rfl) rfl ?_
    refine st_s rfl rfl rfl rfl rfl ?_
    refine st_s rfl rfl rfl rfl rfl ?_
    refine st_s rfl rfl rfl rfl rfl ?_
    refine st_s rfl rfl rfl rfl rfl ?_
    refine st_s rfl rfl rfl rfl rfl ?_
    refine st_s rfl rfl rfl rfl rfl ?_
    refine st_s rfl rfl rfl rfl rfl ?_
    refine st_s rfl rfl rfl rfl rfl ?_
    refine st_s rfl rfl rfl rfl rfl ?_
    refine st_s rfl rfl rfl rfl rfl ?_
    refine st_s rfl rfl rfl rfl rfl ?_
    refine st_p (pkT rfl rfl) rfl ?_
    refine al_nil ?_
    refine nm ?_
    refine aw_yes (rfl) ?_
    refine aw_seq ?_
    refine aw_region ?_
    refine st_p (mva rfl) rfl ?_
    refine al_nil ?_
    refine nm ?_
    refine aw_ret ?_
    refine rb ?_
    refine rs ?_
    refine rs ?_
    refine rb ?_
    refine rs ?_
    exact ret_v (res1 Try.results40) (.inr ⟨rfl, rfl⟩) ⟨by rw [rising_bad hlt (by unfold okAt; rw [hgk, hs]; rfl)]; rfl, rfl, rfl⟩
   | true =>
    by_cases h0 : i = 0
    ·skip
     rintro _ _ _ ⟨rfl, rfl, rfl⟩ r2 h2 n2 hr hh hn
     simp only [AV.ren, rens, Blk.ren, swp, List.map_cons, List.map_nil, List.cons_append, List.nil_append, List.append_nil, Nat.not_lt_zero, if_false, Nat.reduceAdd, Nat.zero_add, Nat.add_zero, ren_bl, hs] at hr hh hn
     subst hr hh hn
     refine st_p (op_notT rfl) rfl ?_
     refine st_p (mv rfl) rfl ?_
     refine st_pg rfl rfl rfl (mv rfl) rfl ?_
     refine st_pg rfl rfl rfl (OpP.conv (op_gt rfl rfl) (no (by first | assumption | omega))) rfl ?_
     refine st_pg rfl rfl rfl (mv rfl) rfl ?_
     refine st_s rfl rfl rfl rfl rfl ?_
     refine st_s rfl rfl rfl rfl rfl ?_
     refine st_s rfl rfl rfl rfl rfl ?_
     refine st_s rfl rfl rfl rfl rfl ?_
     refine st_s rfl rfl rfl rfl rfl ?_
     refine st_s rfl rfl rfl rfl rfl ?_
     refine st_s rfl rfl rfl rfl rfl ?_
     refine st_pg rfl rfl rfl (pkF rfl rfl) rfl ?_
     refine st_p (pkF rfl rfl) rfl ?_
     refine al_nil ?_
     refine nm ?_
     refine aw_no (rfl) ?_
     refine aw_skip ?_
     refine nmb ?_
     refine nm ?_
     refine aw_region ?_
     refine st_p (op_addi rfl rfl (by omega)) rfl ?_
     refine st_p (mv rfl) rfl ?_
     refine al_nil ?_
     refine nm ?_
     exact ⟨⟨i + 1, hlt, fun j hj => by
      rcases Nat.lt_succ_iff_lt_or_eq.1 hj with h | rfl
      ·exact ha j h
      ·unfold okAt; rw [hgk, hs, h0]; rfl⟩, by dsimp only; omega, le_to [] rfl rfl rfl rfl rfl ⟨rfl, rfl, rfl, rfl, rfl, rfl, trivial⟩ trivial⟩
    ·obtain ⟨k', hc'⟩ : ∃ k', l[i - 1]? = some k' := ⟨_, List.getElem?_eq_getElem (by omega)⟩
     have hcb' : (l.map sb)[((i : Int) - 1).toNat]? = some (sb k') := by rw [show ((i : Int) - 1).toNat = i - 1 from by omega, List.getElem?_map, hc']; rfl
     have hgk' : l.getD (i - 1) [] = k' := by rw [List.getD_eq_getElem?_getD, hc']; rfl
     have h0' : (i == 0) = false := by simpa using h0
     cases hb : bless k' k with
     | false =>
      rintro _ _ _ ⟨rfl, rfl, rfl⟩ r2 h2 n2 hr hh hn
      simp only [AV.ren, rens, Blk.ren, swp, List.map_cons, List.map_nil, List.cons_append, List.nil_append, List.append_nil, Nat.not_lt_zero, if_false, Nat.reduceAdd, Nat.zero_add, Nat.add_zero, ren_bl, hs] at hr hh hn
      subst hr hh hn
      refine st_p (op_notT rfl) rfl ?_
      refine st_p (mv rfl) rfl ?_
      refine st_pg rfl rfl rfl (mv rfl) rfl ?_
      refine st_pg rfl rfl rfl (OpP.conv (op_gt rfl rfl) (yes (by first | assumption | omega))) rfl ?_
      refine st_pg rfl rfl rfl (mv rfl) rfl ?_
      refine st_pg rfl rfl rfl (mv rfl) rfl ?_
      refine st_pg rfl rfl rfl (mv rfl) rfl ?_
      refine st_pg rfl rfl rfl (op_subi rfl rfl (by omega)) rfl ?_
      refine st_pg rfl rfl rfl (op_indexAddrL Try.underlying71 z9 rfl rfl (by omega) (by first | assumption | rfl)) rfl ?_
      refine st_pg rfl rfl rfl (op_load1L Try.underlying9 rfl rfl rfl) rfl ?_
      refine st_pg rfl rfl rfl (mv rfl) rfl ?_
      refine st_pg rfl rfl rfl (op_ges rfl rfl) rfl ?_
      refine st_pg rfl rfl rfl (pkT rfl rfl) rfl ?_
      refine st_p (pkF rfl rfl) rfl ?_
      refine al_nil ?_
      refine nm ?_
      refine aw_yes (by show AV.bool (!bless k' k) = _; rw [hb]; rfl) ?_
      refine aw_seq ?_
      refine aw_region ?_
      refine st_p (mva rfl) rfl ?_
      refine al_nil ?_
      refine nm ?_
      refine aw_ret ?_
      refine rb ?_
      refine rs ?_
      refine rs ?_
      refine rb ?_
      refine rs ?_
      exact ret_v (res1 Try.results40) (.inr ⟨rfl, rfl⟩) ⟨by rw [rising_bad hlt (by unfold okAt; rw [hgk, hgk', hs, hb, h0']; rfl)]; rfl, rfl, rfl⟩
     | true =>
      rintro _ _ _ ⟨rfl, rfl, rfl⟩ r2 h2 n2 hr hh hn
      simp only [AV.ren, rens, Blk.ren, swp, List.map_cons, List.map_nil, List.cons_append, List.nil_append, List.append_nil, Nat.not_lt_zero, if_false, Nat.reduceAdd, Nat.zero_add, Nat.add_zero, ren_bl, hs] at hr hh hn
      subst hr hh hn
      refine st_p (op_notT rfl) rfl ?_
      refine st_p (mv rfl) rfl ?_
      refine st_pg rfl rfl rfl (mv rfl) rfl ?_
      refine st_pg rfl rfl rfl (OpP.conv (op_gt rfl rfl) (yes (by first | assumption | omega))) rfl ?_
      refine st_pg rfl rfl rfl (mv rfl) rfl ?_
      refine st_pg rfl rfl rfl (mv rfl) rfl ?_
      refine st_pg rfl rfl rfl (mv rfl) rfl ?_
      refine st_pg rfl rfl rfl (op_subi rfl rfl (by omega)) rfl ?_
      refine st_pg rfl rfl rfl (op_indexAddrL Try.underlying71 z9 rfl rfl (by omega) (by first | assumption | rfl)) rfl ?_
      refine st_pg rfl rfl rfl (op_load1L Try.underlying9 rfl rfl rfl) rfl ?_
      refine st_pg rfl rfl rfl (mv rfl) rfl ?_
      refine st_pg rfl rfl rfl (op_ges rfl rfl) rfl ?_
      refine st_pg rfl rfl rfl (pkT rfl rfl) rfl ?_
      refine st_p (pkF rfl rfl) rfl ?_
      refine al_nil ?_
      refine nm ?_
      refine aw_no (by show AV.bool (!bless k' k) = _; rw [hb]; rfl) ?_
      refine aw_skip ?_
      refine nmb ?_
      refine nm ?_
      refine aw_region ?_
      refine st_p (op_addi rfl rfl (by omega)) rfl ?_
      refine st_p (mv rfl) rfl ?_
      refine al_nil ?_
      refine nm ?_
      exact ⟨⟨i + 1, hlt, fun j hj => by
       rcases Nat.lt_succ_iff_lt_or_eq.1 hj with h | rfl
       ·exact ha j h
       ·unfold okAt; rw [hgk, hgk', hs, hb, h0']; rfl⟩, by dsimp only; omega, le_to [] rfl rfl rfl rfl rfl ⟨rfl, rfl, rfl, rfl, rfl, rfl, trivial⟩ trivial⟩
  ·skip
   refine aw_seq ?_
   refine aw_region ?_
   refine st_p (OpP.conv (op_lt rfl rfl) (no (by first | assumption | omega))) rfl ?_
   refine al_nil ?_
   refine nm ?_
   refine aw_seq ?_
   refine aw_no (rfl) ?_
   refine aw_exit ?_
   refine xs ?_
   refine xs ?_
   refine xb ?_
   refine nm ?_
   refine aw_seq ?_
   refine aw_region ?_
   refine st_p (mva rfl) rfl ?_
   refine al_nil ?_
   refine nm ?_
   refine aw_ret ?_
   exact ret_v (res1 Try.results40) (.inr ⟨rfl, rfl⟩) ⟨by rw [rising_good (fun j hj => ha j (by omega))]; rfl, rfl, rfl⟩

set_option maxHeartbeats 4000000 in
theorem ref_Rising (l : List (List UInt8)) (hl : l.length ≤ 281474976710656) (hk : ∀ k ∈ l, k.length ≤ 281474976710656) : AC Try.prog 47 [.sl 1 (l.map sb)] [] 0 false (fun r h nx => r = .bool (risingB l) ∧ h = [] ∧ nx = 0) := by
 have hlm : (l.map sb).length = l.length := List.length_map _
 refine ac_fn Try.func47 rfl rfl rfl rfl (fun w0 S0 r0 => ?_)
 refine aw_seq ?_
 refine aw_region ?_
 refine st_p (mva rfl) rfl ?_
 refine al_nil ?_
 refine nm ?_
 refine aw_seq ?_
 refine aw_seq ?_
 refine aw_region ?_
 refine st_p (mva rfl) rfl ?_
 refine al_nil ?_
 refine nm ?_
 refine aw_block ?_
 refine aw_loop (fun i : {i : Nat // i ≤ l.length ∧ ∀ j, j < i → okAt l j = true} => ⟨[(0, .sl 1 (l.map sb)), (2, .bool false), (3, .int .i64 i.1)], [], 0⟩) (fun i => l.length - i.1) ⟨0, Nat.zero_le _, fun j hj => absurd hj (Nat.not_lt_zero _)⟩ ?_ ?_
 ·exact le_to [] rfl rfl rfl rfl rfl ⟨rfl, rfl, rfl, trivial⟩ trivial
 ·rintro ⟨i, hi, ha⟩
  dsimp only
  by_cases hlt : i < l.length
  ·obtain ⟨k, hc⟩ : ∃ k, l[i]? = some k := ⟨_, List.getElem?_eq_getElem hlt⟩
   have hcb : (l.map sb)[((i : Nat) : Int).toNat]? = some (sb k) := by rw [Int.toNat_natCast, List.getElem?_map, hc]; rfl
   have hgk : l.getD i [] = k := by rw [List.getD_eq_getElem?_getD, hc]; rfl
   have hmk := ref_MayKey k (hk k (List.mem_of_getElem? hc))
   cases hs : mayB k with
   | false =>
    rw [hs] at hmk
    refine aw_seq ?_
    refine aw_seq ?_
    refine aw_region ?_
    refine st_p (mv rfl) rfl ?_
    refine st_p (mv rfl) rfl ?_
    refine st_p (op_len Try.underlying71 rfl) rfl ?_
    refine st_p (OpP.conv (op_lt rfl rfl) (yes (by first | assumption | omega))) rfl ?_
    refine al_nil ?_
    refine nm ?_
    refine aw_yes (rfl) ?_
    refine aw_skip ?_
    refine nm ?_
    refine aw_seq ?_
    refine aw_block ?_
    refine aw_seq ?_
    refine dr_go ?_
    refine dr_f 0 0 [0] rfl (fun H => mv rfl) ?_
    refine dr_f 0 0 [3] rfl (fun H => mv rfl) ?_
    refine dr_q 0 0 [10, 11] rfl (op_indexAddrL Try.underlying71 z9 rfl rfl (by omega) (by first | assumption | rfl)) ?_
    refine dr_q 0 0 [12] rfl (op_load1L Try.underlying9 rfl rfl rfl) ?_
    refine dr_fq 0 0 [13] rfl (fun H => op_callq (hmk) Try.func82 ⟨rfl, rfl⟩ rfl rfl (fun nx => (.cons (.same (by rfl)) .nil)) (by rintro _ _ _ ⟨rfl, rfl, rfl⟩; exact .same rfl)) ?_
    refine dr_f 0 0 [14] rfl (fun H => op_notF rfl) ?_
    refine dr_f 0 0 [15] rfl (fun H => mv rfl) ?_
    refine dr_s 0 0 0 rfl rfl rfl ?_
    refine dr_s 0 0 1 rfl rfl rfl ?_
    refine dr_s 0 0 2 rfl rfl rfl ?_
    refine dr_s 0 0 0 rfl rfl rfl ?_
    refine dr_s 0 0 1 rfl rfl rfl ?_
    refine dr_s 0 0 2 rfl rfl rfl ?_
    refine dr_s 0 0 3 rfl rfl rfl ?_
    refine dr_s 0 0 4 rfl rfl rfl ?_
    refine dr_s 0 0 5 rfl rfl rfl ?_
    refine dr_s 0 0 6 rfl rfl rfl ?_
    refine dr_s 0 0 7 rfl rfl rfl ?_
    refine dr_s 0 0 8 rfl rfl rfl ?_
    refine dr_s 0 0 9 rfl rfl rfl ?_
    refine dr_s 0 0 13 rfl rfl rfl ?_
    refine dr_f 0 0 [16, 30] rfl (fun H => pkT rfl rfl) ?_
    refine dr_end [] (by kernel_rfl) (by kernel_rfl) (by kernel_rfl) (by kernel_rfl) trivial ?_
    refine nm ?_
    refine aw_yes (rfl) ?_
    refine aw_seq ?_
    refine aw_region ?_
    refine st_p (mva rfl) rfl ?_
    refine al_nil ?_
    refine nm ?_
    refine aw_ret ?_
    refine rb ?_
    refine rs ?_
    refine rs ?_
    refine rb ?_
    refine rs ?_
    exact ret_v (res1 Try.results47) (.inr ⟨rfl, rfl⟩) ⟨by rw [rising_bad hlt (by unfold okAt; rw [hgk, hs]; rfl)]; rfl, rfl, rfl⟩
   | true =>
    rw [hs] at hmk
    by_cases h0 : i = 0
    ·skip
     refine aw_seq ?_
     refine aw_seq ?_
     refine aw_region ?_
     refine st_p (mv rfl) rfl ?_
     refine st_p (mv rfl) rfl ?_
     refine st_p (op_len Try.underlying71 rfl) rfl ?_
     refine st_p (OpP.conv (op_lt rfl rfl) (yes (by first | assumption | omega))) rfl ?_
     refine al_nil ?_
     refine nm ?_
     refine aw_yes (rfl) ?_
     refine aw_skip ?_
     refine nm ?_
     refine aw_seq ?_
     refine aw_block ?_
     refine aw_seq ?_
     refine dr_go ?_
     refine dr_f 0 0 [0] rfl (fun H => mv rfl) ?_
     refine dr_f 0 0 [3] rfl (fun H => mv rfl) ?_
     refine dr_q 0 0 [10, 11] rfl (op_indexAddrL Try.underlying71 z9 rfl rfl (by omega) (by first | assumption | rfl)) ?_
     refine dr_q 0 0 [12] rfl (op_load1L Try.underlying9 rfl rfl rfl) ?_
     refine dr_fq 0 0 [13] rfl (fun H => op_callq (hmk) Try.func82 ⟨rfl, rfl⟩ rfl rfl (fun nx => (.cons (.same (by rfl)) .nil)) (by rintro _ _ _ ⟨rfl, rfl, rfl⟩; exact .same rfl)) ?_
     refine dr_f 0 0 [14] rfl (fun H => op_notT rfl) ?_
     refine dr_f 0 0 [15] rfl (fun H => mv rfl) ?_
     refine dr_gf 0 0 [3] rfl (fun H => mv rfl) 0 rfl rfl ?_
     refine dr_gf 0 0 [17] rfl (fun H => OpP.conv (op_gt rfl rfl) (no (by first | assumption | omega))) 1 rfl rfl ?_
     refine dr_gf 0 0 [18] rfl (fun H => mv rfl) 2 rfl rfl ?_
     refine dr_s 0 0 0 rfl rfl rfl ?_
     refine dr_s 0 0 1 rfl rfl rfl ?_
     refine dr_s 0 0 2 rfl rfl rfl ?_
     refine dr_s 0 0 3 rfl rfl rfl ?_
     refine dr_s 0 0 4 rfl rfl rfl ?_
     refine dr_s 0 0 5 rfl rfl rfl ?_
     refine dr_s 0 0 6 rfl rfl rfl ?_
     refine dr_s 0 0 7 rfl rfl rfl ?_
     refine dr_s 0 0 8 rfl rfl rfl ?_
     refine dr_s 0 0 9 rfl rfl rfl ?_
     refine dr_gf 0 0 [19, 29] rfl (fun H => pkF rfl rfl) 13 rfl rfl ?_
     refine dr_f 0 0 [16, 30] rfl (fun H => pkF rfl rfl) ?_
     refine dr_end [] (by kernel_rfl) (by kernel_rfl) (by kernel_rfl) (by kernel_rfl) trivial ?_
     refine nm ?_
     refine aw_no (rfl) ?_
     refine aw_skip ?_
     refine nmb ?_
     refine nm ?_
     refine aw_region ?_
     refine st_p (mv rfl) rfl ?_
     refine st_p (op_addi rfl rfl (by omega)) rfl ?_
     refine st_p (mva rfl) rfl ?_
     refine al_nil ?_
     refine nm ?_
     exact ⟨⟨i + 1, hlt, fun j hj => by
      rcases Nat.lt_succ_iff_lt_or_eq.1 hj with h | rfl
      ·exact ha j h
      ·unfold okAt; rw [hgk, hs, h0]; rfl⟩, by dsimp only; omega, le_to [] rfl rfl rfl rfl rfl ⟨rfl, rfl, rfl, trivial⟩ trivial⟩
    ·obtain ⟨k', hc'⟩ : ∃ k', l[i - 1]? = some k' := ⟨_, List.getElem?_eq_getElem (by omega)⟩
     have hcb' : (l.map sb)[((i : Int) - 1).toNat]? = some (sb k') := by rw [show ((i : Int) - 1).toNat = i - 1 from by omega, List.getElem?_map, hc']; rfl
     have hgk' : l.getD (i - 1) [] = k' := by rw [List.getD_eq_getElem?_getD, hc']; rfl
     have h0' : (i == 0) = false := by simpa using h0
     have hsw := bless_swap k k'
     cases hb : bless k' k with
     | false =>
      rw [hb] at hsw
      refine aw_seq ?_
      refine aw_seq ?_
      refine aw_region ?_
      refine st_p (mv rfl) rfl ?_
      refine st_p (mv rfl) rfl ?_
      refine st_p (op_len Try.underlying71 rfl) rfl ?_
      refine st_p (OpP.conv (op_lt rfl rfl) (yes (by first | assumption | omega))) rfl ?_
      refine al_nil ?_
      refine nm ?_
      refine aw_yes (rfl) ?_
      refine aw_skip ?_
      refine nm ?_
      refine aw_seq ?_
      refine aw_block ?_
      refine aw_seq ?_
      refine dr_go ?_
      refine dr_f 0 0 [0] rfl (fun H => mv rfl) ?_
      refine dr_f 0 0 [3] rfl (fun H => mv rfl) ?_
      refine dr_q 0 0 [10, 11] rfl (op_indexAddrL Try.underlying71 z9 rfl rfl (by omega) (by first | assumption | rfl)) ?_
      refine dr_q 0 0 [12] rfl (op_load1L Try.underlying9 rfl rfl rfl) ?_
      refine dr_fq 0 0 [13] rfl (fun H => op_callq (hmk) Try.func82 ⟨rfl, rfl⟩ rfl rfl (fun nx => (.cons (.same (by rfl)) .nil)) (by rintro _ _ _ ⟨rfl, rfl, rfl⟩; exact .same rfl)) ?_
      refine dr_f 0 0 [14] rfl (fun H => op_notT rfl) ?_
      refine dr_f 0 0 [15] rfl (fun H => mv rfl) ?_
      refine dr_gf 0 0 [3] rfl (fun H => mv rfl) 0 rfl rfl ?_
      refine dr_gf 0 0 [17] rfl (fun H => OpP.conv (op_gt rfl rfl) (yes (by first | assumption | omega))) 1 rfl rfl ?_
      refine dr_gf 0 0 [18] rfl (fun H => mv rfl) 2 rfl rfl ?_
      refine dr_gf 0 0 [0] rfl (fun H => mv rfl) 0 rfl rfl ?_
      refine dr_gf 0 0 [3] rfl (fun H => mv rfl) 1 rfl rfl ?_
      refine dr_gq 0 0 [20, 21] rfl (op_indexAddrL Try.underlying71 z9 rfl rfl (by omega) (by first | assumption | rfl)) 2 rfl rfl ?_
      refine dr_gq 0 0 [22] rfl (op_load1L Try.underlying9 rfl rfl rfl) 3 rfl rfl ?_
      refine dr_gf 0 0 [0] rfl (fun H => mv rfl) 4 rfl rfl ?_
      refine dr_gf 0 0 [3] rfl (fun H => mv rfl) 5 rfl rfl ?_
      refine dr_gf 0 0 [25] rfl (fun H => op_subi rfl rfl (by omega)) 6 rfl rfl ?_
      refine dr_gq 0 0 [24, 26] rfl (op_indexAddrL Try.underlying71 z9 rfl rfl (by omega) (by first | assumption | rfl)) 7 rfl rfl ?_
      refine dr_gq 0 0 [27] rfl (op_load1L Try.underlying9 rfl rfl rfl) 8 rfl rfl ?_
      refine dr_gf 0 0 [23, 28] rfl (fun H => op_les rfl rfl) 9 rfl rfl ?_
      refine dr_gf 0 0 [19, 29] rfl (fun H => pkT rfl rfl) 13 rfl rfl ?_
      refine dr_f 0 0 [16, 30] rfl (fun H => pkF rfl rfl) ?_
      refine dr_end [] (by kernel_rfl) (by kernel_rfl) (by kernel_rfl) (by kernel_rfl) trivial ?_
      refine nm ?_
      refine aw_yes (by show AV.bool (bless k k' || k == k') = _; rw [hsw]; rfl) ?_
      refine aw_seq ?_
      refine aw_region ?_
      refine st_p (mva rfl) rfl ?_
      refine al_nil ?_
      refine nm ?_
      refine aw_ret ?_
      refine rb ?_
      refine rs ?_
      refine rs ?_
      refine rb ?_
      refine rs ?_
      exact ret_v (res1 Try.results47) (.inr ⟨rfl, rfl⟩) ⟨by rw [rising_bad hlt (by unfold okAt; rw [hgk, hgk', hs, hb, h0']; rfl)]; rfl, rfl, rfl⟩
     | true =>
      rw [hb] at hsw
      refine aw_seq ?_
      refine aw_seq ?_
      refine aw_region ?_
      refine st_p (mv rfl) rfl ?_
      refine st_p (mv rfl) rfl ?_
      refine st_p (op_len Try.underlying71 rfl) rfl ?_
      refine st_p (OpP.conv (op_lt rfl rfl) (yes (by first | assumption | omega))) rfl ?_
      refine al_nil ?_
      refine nm ?_
      refine aw_yes (rfl) ?_
      refine aw_skip ?_
      refine nm ?_
      refine aw_seq ?_
      refine aw_block ?_
      refine aw_seq ?_
      refine dr_go ?_
      refine dr_f 0 0 [0] rfl (fun H => mv rfl) ?_
      refine dr_f 0 0 [3] rfl (fun H => mv rfl) ?_
      refine dr_q 0 0 [10, 11] rfl (op_indexAddrL Try.underlying71 z9 rfl rfl (by omega) (by first | assumption | rfl)) ?_
      refine dr_q 0 0 [12] rfl (op_load1L Try.underlying9 rfl rfl rfl) ?_
      refine dr_fq 0 0 [13] rfl (fun H => op_callq (hmk) Try.func82 ⟨rfl, rfl⟩ rfl rfl (fun nx => (.cons (.same (by rfl)) .nil)) (by rintro _ _ _ ⟨rfl, rfl, rfl⟩; exact .same rfl)) ?_
      refine dr_f 0 0 [14] rfl (fun H => op_notT rfl) ?_
      refine dr_f 0 0 [15] rfl (fun H => mv rfl) ?_
      refine dr_gf 0 0 [3] rfl (fun H => mv rfl) 0 rfl rfl ?_
      refine dr_gf 0 0 [17] rfl (fun H => OpP.conv (op_gt rfl rfl) (yes (by first | assumption | omega))) 1 rfl rfl ?_
      refine dr_gf 0 0 [18] rfl (fun H => mv rfl) 2 rfl rfl ?_
      refine dr_gf 0 0 [0] rfl (fun H => mv rfl) 0 rfl rfl ?_
      refine dr_gf 0 0 [3] rfl (fun H => mv rfl) 1 rfl rfl ?_
      refine dr_gq 0 0 [20, 21] rfl (op_indexAddrL Try.underlying71 z9 rfl rfl (by omega) (by first | assumption | rfl)) 2 rfl rfl ?_
      refine dr_gq 0 0 [22] rfl (op_load1L Try.underlying9 rfl rfl rfl) 3 rfl rfl ?_
      refine dr_gf 0 0 [0] rfl (fun H => mv rfl) 4 rfl rfl ?_
      refine dr_gf 0 0 [3] rfl (fun H => mv rfl) 5 rfl rfl ?_
      refine dr_gf 0 0 [25] rfl (fun H => op_subi rfl rfl (by omega)) 6 rfl rfl ?_
      refine dr_gq 0 0 [24, 26] rfl (op_indexAddrL Try.underlying71 z9 rfl rfl (by omega) (by first | assumption | rfl)) 7 rfl rfl ?_
      refine dr_gq 0 0 [27] rfl (op_load1L Try.underlying9 rfl rfl rfl) 8 rfl rfl ?_
      refine dr_gf 0 0 [23, 28] rfl (fun H => op_les rfl rfl) 9 rfl rfl ?_
      refine dr_gf 0 0 [19, 29] rfl (fun H => pkT rfl rfl) 13 rfl rfl ?_
      refine dr_f 0 0 [16, 30] rfl (fun H => pkF rfl rfl) ?_
      refine dr_end [] (by kernel_rfl) (by kernel_rfl) (by kernel_rfl) (by kernel_rfl) trivial ?_
      refine nm ?_
      refine aw_no (by show AV.bool (bless k k' || k == k') = _; rw [hsw]; rfl) ?_
      refine aw_skip ?_
      refine nmb ?_
      refine nm ?_
      refine aw_region ?_
      refine st_p (mv rfl) rfl ?_
      refine st_p (op_addi rfl rfl (by omega)) rfl ?_
      refine st_p (mva rfl) rfl ?_
      refine al_nil ?_
      refine nm ?_
      exact ⟨⟨i + 1, hlt, fun j hj => by
       rcases Nat.lt_succ_iff_lt_or_eq.1 hj with h | rfl
       ·exact ha j h
       ·unfold okAt; rw [hgk, hgk', hs, hb, h0']; rfl⟩, by dsimp only; omega, le_to [] rfl rfl rfl rfl rfl ⟨rfl, rfl, rfl, trivial⟩ trivial⟩
  ·skip
   refine aw_seq ?_
   refine aw_seq ?_
   refine aw_region ?_
   refine st_p (mv rfl) rfl ?_
   refine st_p (mv rfl) rfl ?_
   refine st_p (op_len Try.underlying71 rfl) rfl ?_
   refine st_p (OpP.conv (op_lt rfl rfl) (no (by first | assumption | omega))) rfl ?_
   refine al_nil ?_
   refine nm ?_
   refine aw_no (rfl) ?_
   refine aw_exit ?_
   refine xs ?_
   refine xs ?_
   refine xb ?_
   refine nm ?_
   refine aw_seq ?_
   refine aw_region ?_
   refine st_p (mva rfl) rfl ?_
   refine al_nil ?_
   refine nm ?_
   refine aw_ret ?_
   exact ret_v (res1 Try.results47) (.inr ⟨rfl, rfl⟩) ⟨by rw [rising_good (fun j hj => ha j (by omega))]; rfl, rfl, rfl⟩

end Go.Proofs.Ytpggknkhldecaaa.Abs
end
section
namespace Go.Proofs.Ytpggknkhldecaaa.Abs

def putNum (v : Nat) : List UInt8 := if v < 128 then [UInt8.ofNat v] else UInt8.ofNat (v % 128 + 128) :: putNum (v / 128)
termination_by v

theorem putNum_lo {v : Nat} (h : v < 128) : putNum v = [UInt8.ofNat v] := by rw [putNum, if_pos h]
theorem putNum_hi {v : Nat} (h : ¬ v < 128) : putNum v = UInt8.ofNat (v % 128 + 128) :: putNum (v / 128) := by rw [putNum, if_neg h]
theorem putNum_len : ∀ (n v : Nat), v < 128 ^ (n + 1) → (putNum v).length ≤ n + 1 := by
 intro n
 induction n with
 | zero => intro v h; rw [putNum_lo (by simpa using h)]; simp
 | succ n ih =>
  intro v h
  by_cases hv : v < 128
  ·rw [putNum_lo hv]; simp
  ·rw [putNum_hi hv, List.length_cons]
   have := ih (v / 128) (by rw [Nat.div_lt_iff_lt_mul (by decide)]; rw [Nat.pow_succ] at h; exact h)
   omega
theorem putNum_le (v : Nat) (h : v ≤ 9223372036854775807) : (putNum v).length ≤ 9 := putNum_len 8 v (Nat.lt_of_le_of_lt h (by decide))
theorem putNum_pos (v : Nat) : 0 < (putNum v).length := by
 by_cases hv : v < 128
 ·rw [putNum_lo hv]; simp
 ·rw [putNum_hi hv]; simp

theorem u8_nat {n : Nat} (h : n < 256) : ((UInt8.ofNat n).toNat : Int) = n := by
 rw [UInt8.toNat_ofNat']
 rw [Nat.mod_eq_of_lt (by simpa using h)]
theorem wrap_u8 (x : Nat) : IntKind.u8.wrap (x : Int) = ((x % 256 : Nat) : Int) := by
 simp [IntKind.wrap, IntKind.signed, IntKind.bits]
theorem bits_or_128 : ∀ (y : Fin 256), bits .or .u8 ((y.val : Nat) : Int) 128 = ((y.val % 128 + 128 : Nat) : Int) := by decide +kernel
theorem more_byte (x : Nat) : bits .or .u8 (IntKind.u8.wrap (x : Int)) 128 = ((UInt8.ofNat (x % 128 + 128)).toNat : Int) := by
 rw [wrap_u8, u8_nat (by omega)]
 have := bits_or_128 ⟨x % 256, Nat.mod_lt _ (by decide)⟩
 dsimp only at this
 rw [this]
 congr 1
 omega
theorem low_byte (x : Nat) (hx : x < 128) : IntKind.u8.wrap (x : Int) = ((UInt8.ofNat x).toNat : Int) := by
 rw [wrap_u8, u8_nat (by omega), Nat.mod_eq_of_lt (by omega)]

theorem num_Put (v : Int) (h0 : 0 ≤ v) (h1 : v ≤ 9223372036854775807) : AC Try.prog 49 [.int .i64 v] [] 0 false (fun r h nx => r = .own 0 0 (putNum v.toNat).length ∧ h = [(0, .cells 1 (bl (putNum v.toNat)))] ∧ nx = 1) := by
 have hle := putNum_le v.toNat (by omega)
 refine ac_fn Try.func49 rfl rfl rfl rfl (fun w0 S0 r0 => ?_)
 refine aw_seq ?_
 refine aw_region ?_
 refine st_p (mva rfl) rfl ?_
 refine al_nil ?_
 refine nm ?_
 refine aw_seq ?_
 refine aw_seq ?_
 refine aw_region ?_
 refine st_p (mv rfl) rfl ?_
 refine st_p (OpP.conv (op_lt rfl rfl) (no (by first | assumption | omega))) rfl ?_
 refine al_nil ?_
 refine nm ?_
 refine aw_no (rfl) ?_
 refine aw_skip ?_
 refine nm ?_
 refine aw_seq ?_
 refine aw_block ?_
 refine aw_virt 2 1 rfl ?_
 refine aw_loop (fun p : {p : Nat × List UInt8 // p.2 ++ putNum p.1 = putNum v.toNat ∧ p.1 ≤ 9223372036854775807} => ⟨[(0, .int .i64 p.1.1), (2, .own 0 0 p.1.2.length)], [(0, .cells 1 (bl p.1.2))], 1⟩) (fun p => p.1.1) ⟨(v.toNat, []), rfl, by dsimp only; omega⟩ ?_ ?_
 ·exact le_to [] rfl rfl rfl rfl rfl ⟨by simp only [AV.ren]; rw [Int.toNat_of_nonneg h0]; rfl, rfl, trivial⟩ ⟨rfl, trivial⟩
 ·rintro ⟨⟨x, acc⟩, he, hx⟩
  dsimp only at he hx ⊢
  have hl : acc.length ≤ 9 := by rw [← he] at hle; simp only [List.length_append] at hle; omega
  by_cases hb : 127 < x
  ·skip
   refine aw_seq ?_
   refine aw_seq ?_
   refine aw_region ?_
   refine st_p (mv rfl) rfl ?_
   refine st_p (OpP.conv (op_gt rfl rfl) (yes (by first | assumption | omega))) rfl ?_
   refine al_nil ?_
   refine nm ?_
   refine aw_yes (rfl) ?_
   refine aw_skip ?_
   refine nm ?_
   refine aw_seq ?_
   refine aw_block ?_
   refine aw_region ?_
   refine st_p (mv rfl) rfl ?_
   refine st_p (mv rfl) rfl ?_
   refine st_p (op_conv (by rw [Try.underlying3]; rfl) Try.underlying5 rfl) rfl ?_
   refine st_p (op_bor rfl rfl) rfl ?_
   refine st_o (bsl Try.underlying22 i5 o5 (by decide) rfl rfl rfl (by decide)) rfl ?_
   refine st_o (op_app Try.underlying22 Try.underlying22 (.inl ⟨_, rfl⟩) i5 o5 rfl rfl rfl (by first | rfl | omega | (simp; done) | (simp; omega)) ((SrcA.whole rfl (by first | rfl | (simp; done))).ok rfl (by first | assumption | intro z hz; simp only [List.mem_singleton, List.drop_zero, List.take_succ_cons, List.take_zero, List.mem_cons, List.not_mem_nil, or_false, List.mem_map] at hz; first | (subst hz; rfl) | (obtain ⟨_, _, rfl⟩ := hz; rfl) | (rcases hz with rfl | rfl <;> rfl))) (by first | omega | (simp; try omega)) rfl) rfl ?_
   refine st_p (mva rfl) rfl ?_
   refine al_nil ?_
   refine nmb ?_
   refine nm ?_
   refine aw_region ?_
   refine st_p (mv rfl) rfl ?_
   refine st_p (op_shr rfl rfl (by decide)) rfl ?_
   refine st_p (mva rfl) rfl ?_
   refine al_nil ?_
   refine nm ?_
   refine ⟨⟨(x / 128, acc ++ [UInt8.ofNat (x % 128 + 128)]), by show (acc ++ [UInt8.ofNat (x % 128 + 128)]) ++ putNum (x / 128) = _; rw [List.append_assoc, ← he, putNum_hi (v := x) (by omega)]; rfl, by dsimp only; omega⟩, by dsimp only; omega, le_to [(0, 2)] rfl rfl rfl rfl rfl ⟨?_, ?_, trivial⟩ ⟨?_, trivial⟩⟩
   ·simp only [AV.ren, tget]; rfl
   ·simp [AV.ren, tget, swp, bl]
   ·simp only [Blk.ren, hget, swp, ren_bl, more_byte]; simp [bl]
  ·skip
   refine aw_seq ?_
   refine aw_seq ?_
   refine aw_region ?_
   refine st_p (mv rfl) rfl ?_
   refine st_p (OpP.conv (op_gt rfl rfl) (no (by first | assumption | omega))) rfl ?_
   refine al_nil ?_
   refine nm ?_
   refine aw_no (rfl) ?_
   refine aw_exit ?_
   refine xs ?_
   refine xs ?_
   refine xb ?_
   refine nm ?_
   refine aw_seq ?_
   refine aw_region ?_
   refine st_p (mv rfl) rfl ?_
   refine st_p (mv rfl) rfl ?_
   refine st_p (op_conv (by rw [Try.underlying3]; rfl) Try.underlying5 rfl) rfl ?_
   refine st_o (bsl Try.underlying22 i5 o5 (by decide) rfl rfl rfl (by decide)) rfl ?_
   refine st_o (op_app Try.underlying22 Try.underlying22 (.inl ⟨_, rfl⟩) i5 o5 rfl rfl rfl (by first | rfl | omega | (simp; done) | (simp; omega)) ((SrcA.whole rfl (by first | rfl | (simp; done))).ok rfl (by first | assumption | intro z hz; simp only [List.mem_singleton, List.drop_zero, List.take_succ_cons, List.take_zero, List.mem_cons, List.not_mem_nil, or_false, List.mem_map] at hz; first | (subst hz; rfl) | (obtain ⟨_, _, rfl⟩ := hz; rfl) | (rcases hz with rfl | rfl <;> rfl))) (by first | omega | (simp; try omega)) rfl) rfl ?_
   refine st_p (mva rfl) rfl ?_
   refine al_nil ?_
   refine nm ?_
   refine aw_ret ?_
   refine ret_a ⟨[(2, .own 0 0 (putNum v.toNat).length)], [(0, .cells 1 (bl (putNum v.toNat)))], 1⟩ (le_to [(0, 2)] rfl rfl rfl rfl rfl ⟨?_, trivial⟩ ⟨?_, trivial⟩) (res1 Try.results49) (.inr ⟨rfl, ?_⟩) ⟨rfl, rfl, rfl⟩
   ·rw [← he, putNum_lo (by omega)]; simp [AV.ren, tget, swp, bl]
   ·rw [← he, putNum_lo (by omega)]; simp only [Blk.ren, hget, swp, ren_bl, low_byte x (by omega)]; simp [bl]
   ·simp [Blk.nosl, AV.nosl]

end Go.Proofs.Ytpggknkhldecaaa.Abs
end
section
namespace Go.Proofs.Ytpggknkhldecaaa.Abs

def takeN : List UInt8 → Nat → Nat → Option (Nat × Nat)
 | [], _, _ => none
 | c :: t, i, v => if c.toNat < 128 then (if i = 0 ∨ 0 < c.toNat then some (v + c.toNat * 128 ^ i, i + 1) else none) else takeN t (i + 1) (v + (c.toNat - 128) * 128 ^ i)

def takeNum (l : List UInt8) : Option (Nat × Nat) := takeN (l.take 9) 0 0

def numA : Option (Nat × Nat) → AV
 | some (v, n) => .tup [.int .i64 v, .int .i64 n, .bool true]
 | none => .tup [.int .i64 0, .int .i64 0, .bool false]

theorem num_result (v n : Int) (b : Bool) : AC Try.prog 113 [.int .i64 v, .int .i64 n, .bool b] [] 0 false (fun r h nx => r = (if b then .tup [.int .i64 v, .int .i64 n, .bool true] else .tup [.int .i64 0, .int .i64 0, .bool false]) ∧ h = [] ∧ nx = 0) := by
 cases b
 ·skip
  refine ac_fn Try.func113 rfl rfl rfl rfl (fun w0 S0 r0 => ?_)
  refine aw_seq ?_
  refine aw_region ?_
  refine st_p (mva rfl) rfl ?_
  refine st_p (mva rfl) rfl ?_
  refine st_p (mva rfl) rfl ?_
  refine al_nil ?_
  refine nm ?_
  refine aw_seq ?_
  refine aw_seq ?_
  refine aw_region ?_
  refine st_p (mv rfl) rfl ?_
  refine st_p (op_notF rfl) rfl ?_
  refine al_nil ?_
  refine nm ?_
  refine aw_yes (rfl) ?_
  refine aw_seq ?_
  refine aw_region ?_
  refine st_p (mva rfl) rfl ?_
  refine st_p (mva rfl) rfl ?_
  refine st_p (mva rfl) rfl ?_
  refine al_nil ?_
  refine nm ?_
  refine aw_ret ?_
  refine rs ?_
  exact ret_v (res3 Try.results113) (.inr ⟨rfl, rfl⟩) ⟨rfl, rfl, rfl⟩
 ·skip
  refine ac_fn Try.func113 rfl rfl rfl rfl (fun w0 S0 r0 => ?_)
  refine aw_seq ?_
  refine aw_region ?_
  refine st_p (mva rfl) rfl ?_
  refine st_p (mva rfl) rfl ?_
  refine st_p (mva rfl) rfl ?_
  refine al_nil ?_
  refine nm ?_
  refine aw_seq ?_
  refine aw_seq ?_
  refine aw_region ?_
  refine st_p (mv rfl) rfl ?_
  refine st_p (op_notT rfl) rfl ?_
  refine al_nil ?_
  refine nm ?_
  refine aw_no (rfl) ?_
  refine aw_skip ?_
  refine nm ?_
  refine aw_seq ?_
  refine aw_region ?_
  refine st_p (mv rfl) rfl ?_
  refine st_p (mv rfl) rfl ?_
  refine st_p (mva rfl) rfl ?_
  refine st_p (mva rfl) rfl ?_
  refine st_p (mva rfl) rfl ?_
  refine al_nil ?_
  refine nm ?_
  refine aw_ret ?_
  exact ret_v (res3 Try.results113) (.inr ⟨rfl, rfl⟩) ⟨rfl, rfl, rfl⟩

theorem take_min {α : Type} (l : List α) (k : Nat) : l.take (min (l.length : Int) (k : Int)).toNat = l.take k := by
 have : (min (l.length : Int) (k : Int)).toNat = min l.length k := by omega
 rw [this]
 rcases Nat.le_total l.length k with h | h
 ·rw [Nat.min_eq_left h, List.take_length, List.take_of_length_le h]
 ·rw [Nat.min_eq_right h]

theorem and_127 : ∀ (y : Fin 256), bits .and .u8 ((y.val : Nat) : Int) 127 = ((y.val % 128 : Nat) : Int) := by decide +kernel
theorem and_128 : ∀ (y : Fin 256), bits .and .u8 ((y.val : Nat) : Int) 128 = if y.val < 128 then 0 else 128 := by decide +kernel
theorem u8_and127 (c : UInt8) : bits .and .u8 (c.toNat : Int) 127 = ((c.toNat % 128 : Nat) : Int) := and_127 ⟨c.toNat, c.toNat_lt⟩
theorem u8_and128 (c : UInt8) : bits .and .u8 (c.toNat : Int) 128 = if c.toNat < 128 then 0 else 128 := and_128 ⟨c.toNat, c.toNat_lt⟩
theorem or_add (v x i : Nat) (hv : v < 128 ^ i) (hx : v + x * 128 ^ i < 9223372036854775808) : bits .or .i64 (v : Int) ((x * 128 ^ i : Nat) : Int) = ((v + x * 128 ^ i : Nat) : Int) := by
 have e7 : 128 ^ i = 2 ^ (7 * i) := by rw [show (128 : Nat) = 2 ^ 7 from rfl, ← Nat.pow_mul]
 have hor : v ||| x * 128 ^ i = v + x * 128 ^ i := by
  have h1 := Nat.shiftLeft_add_eq_or_of_lt (i := 7 * i) (b := v) (by rw [← e7]; exact hv) x
  rw [Nat.shiftLeft_eq, ← e7] at h1
  rw [Nat.or_comm, ← h1, Nat.add_comm]
 have h1 : (BitVec.ofInt 64 (v : Int)).toNat = v := by
  rw [BitVec.ofInt_natCast, BitVec.toNat_ofNat]; exact Nat.mod_eq_of_lt (by omega)
 have h2 : (BitVec.ofInt 64 ((x * 128 ^ i : Nat) : Int)).toNat = x * 128 ^ i := by
  rw [BitVec.ofInt_natCast, BitVec.toNat_ofNat]; exact Nat.mod_eq_of_lt (by omega)
 show IntKind.i64.wrap ((BitVec.ofInt 64 (v : Int) ||| BitVec.ofInt 64 ((x * 128 ^ i : Nat) : Int)).toNat : Int) = _
 rw [BitVec.toNat_or, h1, h2, hor, Abs.wrap_i64 (by omega) (by omega)]
theorem pow_le9 {i : Nat} (h : i ≤ 8) : 128 ^ (i + 1) ≤ 9223372036854775808 := by
 have := Nat.pow_le_pow_right (show 0 < 128 by decide) (show i + 1 ≤ 9 by omega)
 exact this
theorem take_val (v i : Nat) (c : UInt8) (hi : i ≤ 8) (hv : v < 128 ^ i) : bits .or .i64 (v : Int) (IntKind.i64.wrap (IntKind.i64.wrap (bits .and .u8 (c.toNat : Int) 127) * 2 ^ (7 * (i : Int)).toNat)) = ((v + c.toNat % 128 * 128 ^ i : Nat) : Int) ∧ v + c.toNat % 128 * 128 ^ i < 128 ^ (i + 1) := by
 have hc : c.toNat % 128 < 128 := Nat.mod_lt _ (by decide)
 have h9 := pow_le9 hi
 have hlt : v + c.toNat % 128 * 128 ^ i < 128 ^ (i + 1) := by
  have : (c.toNat % 128 + 1) * 128 ^ i ≤ 128 * 128 ^ i := Nat.mul_le_mul_right _ hc
  rw [Nat.add_mul, Nat.one_mul] at this
  rw [Nat.pow_succ, Nat.mul_comm (128 ^ i)]
  omega
 refine ⟨?_, hlt⟩
 have hw : IntKind.i64.wrap ((c.toNat % 128 : Nat) : Int) = ((c.toNat % 128 : Nat) : Int) := Abs.wrap_i64 (by omega) (by omega)
 rw [u8_and127, hw, show (7 * (i : Int)).toNat = 7 * i from by omega]
 have e : ((c.toNat % 128 : Nat) : Int) * 2 ^ (7 * i) = ((c.toNat % 128 * 128 ^ i : Nat) : Int) := by
  rw [show (128 : Nat) = 2 ^ 7 from rfl, ← Nat.pow_mul, Int.natCast_mul, Int.natCast_pow]
  rfl
 rw [e, Abs.wrap_i64 (by omega) (by omega), or_add v _ i hv (by omega)]

theorem num_Take (l : List UInt8) : AC Try.prog 88 [.sl 1 (bl l)] [] 0 false (fun r h nx => r = numA (takeNum l) ∧ h = [] ∧ nx = 0) := by
 generalize hm : l.take 9 = m
 have hml : m.length ≤ 9 := by rw [← hm]; simp; omega
 refine ac_fn Try.func88 rfl rfl rfl rfl (fun w0 S0 r0 => ?_)
 refine aw_seq ?_
 refine aw_region ?_
 refine st_p (mva rfl) rfl ?_
 refine st_p (mva rfl) rfl ?_
 refine st_p (mva rfl) rfl ?_
 refine al_nil ?_
 refine nm ?_
 refine aw_seq ?_
 refine aw_seq ?_
 refine aw_region ?_
 refine st_p (mv rfl) rfl ?_
 refine st_p (mv rfl) rfl ?_
 refine st_p (op_len Try.underlying22 rfl) rfl ?_
 refine st_p (op_min rfl rfl) rfl ?_
 refine st_p (op_sliceL Try.underlying22 z5 rfl (by exact rfl) (by exact ⟨_, rfl⟩) (by first | omega | (simp only [bl_len, List.length_map, List.length_append, List.length_take, List.length_drop]; omega)) (by first | omega | (simp only [bl_len, List.length_map, List.length_append, List.length_take, List.length_drop]; omega)) (by first | omega | (simp only [bl_len, List.length_map, List.length_append, List.length_take, List.length_drop]; omega))) rfl ?_
 refine st_p (op_len Try.underlying22 rfl) rfl ?_
 refine st_p (mv rfl) rfl ?_
 refine al_nil ?_
 refine nm ?_
 refine aw_block ?_
 refine aw_loop (fun p : {p : Nat × Nat // p.1 ≤ m.length ∧ takeN (m.drop p.1) p.1 p.2 = takeNum l ∧ p.2 < 128 ^ p.1} => ⟨[(2, .int .i64 p.1.2), (11, .sl 1 (bl m)), (12, .int .i64 m.length), (13, .int .i64 p.1.1)], [], 0⟩) (fun p => m.length - p.1.1) ⟨(0, 0), Nat.zero_le _, by rw [List.drop_zero, ← hm]; rfl, by decide⟩ ?_ ?_
 ·have e : (min (l.length : Int) 9).toNat = min l.length 9 := by omega
  have e2 : l.take (min l.length 9) = m := by rw [← hm, ← take_min l 9]; congr 1; omega
  refine le_to [] rfl rfl rfl rfl rfl ⟨rfl, ?_, ?_, rfl, trivial⟩ trivial
  ·show AV.sl 1 (((bl l).drop 0).take ((min ((bl l).length : Int) 9).toNat - 0)) = AV.sl 1 (bl m)
   rw [List.drop_zero, bl_len, e, Nat.sub_zero, bl_take, e2]
  ·show AV.int .i64 ((((bl l).drop 0).take ((min ((bl l).length : Int) 9).toNat - 0)).length : Nat) = AV.int .i64 (m.length : Nat)
   rw [List.drop_zero, bl_len, e, Nat.sub_zero, bl_take, e2, bl_len]
 ·rintro ⟨⟨i, v⟩, hi, ht, hv⟩
  dsimp only at hi ht hv ⊢
  by_cases hlt : i < m.length
  ·obtain ⟨c, hc⟩ : ∃ c, m[i]? = some c := ⟨_, List.getElem?_eq_getElem hlt⟩
   have hcb : (bl m)[i]? = some (.int .u8 (c.toNat : Int)) := by simp [bl, hc]
   have hdr : m.drop i = c :: m.drop (i + 1) := by
    rw [List.drop_eq_getElem_cons hlt]; rw [List.getElem?_eq_getElem hlt] at hc; rw [Option.some.inj hc]
   rw [hdr, takeN] at ht
   obtain ⟨hval, hnew⟩ := take_val v i c (by omega) hv
   have hc0 : (0 : Int) ≤ c.toNat := Int.natCast_nonneg _
   by_cases hb : c.toNat < 128
   ·have h128 : bits .and .u8 (c.toNat : Int) 128 = 0 := by rw [u8_and128, if_pos hb]
    rw [if_pos hb] at ht
    rw [Nat.mod_eq_of_lt hb] at hval hnew
    by_cases hok : i = 0 ∨ 0 < c.toNat
    ·rw [if_pos hok] at ht
     by_cases hi0 : i = 0
     ·skip
      refine aw_seq ?_
      refine aw_region ?_
      refine st_p (OpP.conv (op_lt rfl rfl) (yes (by first | assumption | omega))) rfl ?_
      refine al_nil ?_
      refine nm ?_
      refine aw_seq ?_
      refine aw_yes (rfl) ?_
      refine aw_skip ?_
      refine nm ?_
      refine aw_seq ?_
      refine aw_block ?_
      refine aw_seq ?_
      refine aw_region ?_
      refine st_p (mv rfl) rfl ?_
      refine st_p (op_indexAddrL Try.underlying22 z5 rfl rfl (by omega) (by first | assumption | rfl)) rfl ?_
      refine st_p (op_load1L Try.underlying5 rfl rfl rfl) rfl ?_
      refine st_p (mva rfl) rfl ?_
      refine st_p (mva rfl) rfl ?_
      refine al_nil ?_
      refine nm ?_
      refine aw_seq ?_
      refine aw_region ?_
      refine st_p (mv rfl) rfl ?_
      refine st_p (mv rfl) rfl ?_
      refine st_p (op_band rfl rfl) rfl ?_
      refine st_p (op_conv (by rw [Try.underlying5]; rfl) Try.underlying3 rfl) rfl ?_
      refine st_p (mv rfl) rfl ?_
      refine st_p (op_muli rfl rfl (by omega)) rfl ?_
      refine st_p (op_shl rfl rfl (by simp only [IntKind.bits]; omega)) rfl ?_
      refine st_p (op_bor rfl rfl) rfl ?_
      refine st_p (mva rfl) rfl ?_
      refine al_nil ?_
      refine nm ?_
      refine aw_seq ?_
      refine aw_region ?_
      refine st_p (mv rfl) rfl ?_
      refine st_p (op_band rfl rfl) rfl ?_
      refine st_p (OpP.conv (op_eq rfl rfl) (yes (by first | assumption | omega))) rfl ?_
      refine al_nil ?_
      refine nm ?_
      refine aw_yes (rfl) ?_
      refine aw_seq ?_
      refine aw_region ?_
      refine st_p (mv rfl) rfl ?_
      refine st_p (mv rfl) rfl ?_
      refine st_p (op_addi rfl rfl (by omega)) rfl ?_
      refine st_p (mv rfl) rfl ?_
      refine st_p (OpP.conv (op_eq rfl rfl) (yes (by first | assumption | omega))) rfl ?_
      refine st_p (mv rfl) rfl ?_
      refine st_s rfl rfl rfl rfl rfl ?_
      refine st_s rfl rfl rfl rfl rfl ?_
      refine st_p (pkT rfl rfl) rfl ?_
      refine st_call0 (num_result _ _ true) Try.func113 ⟨rfl, rfl⟩ rfl (.cons (.same (by rfl)) (.cons (.same (by rfl)) (.cons (.same (by rfl)) .nil))) rfl ?_
      rintro _ _ _ ⟨rfl, rfl, rfl⟩ r2 h2 n2 hr hh hn
      simp only [AV.ren, rens, Blk.ren, swp, List.map_cons, List.map_nil, List.cons_append, List.nil_append, List.append_nil, Nat.not_lt_zero, if_false, Nat.reduceAdd, Nat.zero_add, Nat.add_zero, ren_bl, if_true] at hr hh hn
      subst hr hh hn
      refine st_p (op_extract rfl rfl) rfl ?_
      refine st_p (op_extract rfl rfl) rfl ?_
      refine st_p (op_extract rfl rfl) rfl ?_
      refine st_p (mva rfl) rfl ?_
      refine st_p (mva rfl) rfl ?_
      refine st_p (mva rfl) rfl ?_
      refine al_nil ?_
      refine nm ?_
      refine aw_ret ?_
      refine rb ?_
      refine rs ?_
      refine rs ?_
      refine rb ?_
      refine rs ?_
      refine ret_a ⟨[(2, .int .i64 (v + c.toNat * 128 ^ i : Nat)), (3, .int .i64 (i + 1 : Nat)), (4, .bool true)], [], 0⟩ (le_to [] rfl rfl rfl rfl rfl ⟨by rw [← hval]; rfl, rfl, rfl, trivial⟩ trivial) (res3 Try.results88) (.inr ⟨rfl, rfl⟩) ⟨by rw [← ht]; rfl, rfl, rfl⟩
     ·skip
      refine aw_seq ?_
      refine aw_region ?_
      refine st_p (OpP.conv (op_lt rfl rfl) (yes (by first | assumption | omega))) rfl ?_
      refine al_nil ?_
      refine nm ?_
      refine aw_seq ?_
      refine aw_yes (rfl) ?_
      refine aw_skip ?_
      refine nm ?_
      refine aw_seq ?_
      refine aw_block ?_
      refine aw_seq ?_
      refine aw_region ?_
      refine st_p (mv rfl) rfl ?_
      refine st_p (op_indexAddrL Try.underlying22 z5 rfl rfl (by omega) (by first | assumption | rfl)) rfl ?_
      refine st_p (op_load1L Try.underlying5 rfl rfl rfl) rfl ?_
      refine st_p (mva rfl) rfl ?_
      refine st_p (mva rfl) rfl ?_
      refine al_nil ?_
      refine nm ?_
      refine aw_seq ?_
      refine aw_region ?_
      refine st_p (mv rfl) rfl ?_
      refine st_p (mv rfl) rfl ?_
      refine st_p (op_band rfl rfl) rfl ?_
      refine st_p (op_conv (by rw [Try.underlying5]; rfl) Try.underlying3 rfl) rfl ?_
      refine st_p (mv rfl) rfl ?_
      refine st_p (op_muli rfl rfl (by omega)) rfl ?_
      refine st_p (op_shl rfl rfl (by simp only [IntKind.bits]; omega)) rfl ?_
      refine st_p (op_bor rfl rfl) rfl ?_
      refine st_p (mva rfl) rfl ?_
      refine al_nil ?_
      refine nm ?_
      refine aw_seq ?_
      refine aw_region ?_
      refine st_p (mv rfl) rfl ?_
      refine st_p (op_band rfl rfl) rfl ?_
      refine st_p (OpP.conv (op_eq rfl rfl) (yes (by first | assumption | omega))) rfl ?_
      refine al_nil ?_
      refine nm ?_
      refine aw_yes (rfl) ?_
      refine aw_seq ?_
      refine aw_region ?_
      refine st_p (mv rfl) rfl ?_
      refine st_p (mv rfl) rfl ?_
      refine st_p (op_addi rfl rfl (by omega)) rfl ?_
      refine st_p (mv rfl) rfl ?_
      refine st_p (OpP.conv (op_eq rfl rfl) (no (by first | assumption | omega))) rfl ?_
      refine st_p (mv rfl) rfl ?_
      refine st_pg rfl rfl rfl (mv rfl) rfl ?_
      refine st_pg rfl rfl rfl (OpP.conv (op_gt rfl rfl) (yes (by first | assumption | omega))) rfl ?_
      refine st_p (pkF rfl rfl) rfl ?_
      refine st_call0 (num_result _ _ true) Try.func113 ⟨rfl, rfl⟩ rfl (.cons (.same (by rfl)) (.cons (.same (by rfl)) (.cons (.same (by rfl)) .nil))) rfl ?_
      rintro _ _ _ ⟨rfl, rfl, rfl⟩ r2 h2 n2 hr hh hn
      simp only [AV.ren, rens, Blk.ren, swp, List.map_cons, List.map_nil, List.cons_append, List.nil_append, List.append_nil, Nat.not_lt_zero, if_false, Nat.reduceAdd, Nat.zero_add, Nat.add_zero, ren_bl, if_true] at hr hh hn
      subst hr hh hn
      refine st_p (op_extract rfl rfl) rfl ?_
      refine st_p (op_extract rfl rfl) rfl ?_
      refine st_p (op_extract rfl rfl) rfl ?_
      refine st_p (mva rfl) rfl ?_
      refine st_p (mva rfl) rfl ?_
      refine st_p (mva rfl) rfl ?_
      refine al_nil ?_
      refine nm ?_
      refine aw_ret ?_
      refine rb ?_
      refine rs ?_
      refine rs ?_
      refine rb ?_
      refine rs ?_
      refine ret_a ⟨[(2, .int .i64 (v + c.toNat * 128 ^ i : Nat)), (3, .int .i64 (i + 1 : Nat)), (4, .bool true)], [], 0⟩ (le_to [] rfl rfl rfl rfl rfl ⟨by rw [← hval]; rfl, rfl, rfl, trivial⟩ trivial) (res3 Try.results88) (.inr ⟨rfl, rfl⟩) ⟨by rw [← ht]; rfl, rfl, rfl⟩
    ·rw [if_neg hok] at ht
     refine aw_seq ?_
     refine aw_region ?_
     refine st_p (OpP.conv (op_lt rfl rfl) (yes (by first | assumption | omega))) rfl ?_
     refine al_nil ?_
     refine nm ?_
     refine aw_seq ?_
     refine aw_yes (rfl) ?_
     refine aw_skip ?_
     refine nm ?_
     refine aw_seq ?_
     refine aw_block ?_
     refine aw_seq ?_
     refine aw_region ?_
     refine st_p (mv rfl) rfl ?_
     refine st_p (op_indexAddrL Try.underlying22 z5 rfl rfl (by omega) (by first | assumption | rfl)) rfl ?_
     refine st_p (op_load1L Try.underlying5 rfl rfl rfl) rfl ?_
     refine st_p (mva rfl) rfl ?_
     refine st_p (mva rfl) rfl ?_
     refine al_nil ?_
     refine nm ?_
     refine aw_seq ?_
     refine aw_region ?_
     refine st_p (mv rfl) rfl ?_
     refine st_p (mv rfl) rfl ?_
     refine st_p (op_band rfl rfl) rfl ?_
     refine st_p (op_conv (by rw [Try.underlying5]; rfl) Try.underlying3 rfl) rfl ?_
     refine st_p (mv rfl) rfl ?_
     refine st_p (op_muli rfl rfl (by omega)) rfl ?_
     refine st_p (op_shl rfl rfl (by simp only [IntKind.bits]; omega)) rfl ?_
     refine st_p (op_bor rfl rfl) rfl ?_
     refine st_p (mva rfl) rfl ?_
     refine al_nil ?_
     refine nm ?_
     refine aw_seq ?_
     refine aw_region ?_
     refine st_p (mv rfl) rfl ?_
     refine st_p (op_band rfl rfl) rfl ?_
     refine st_p (OpP.conv (op_eq rfl rfl) (yes (by first | assumption | omega))) rfl ?_
     refine al_nil ?_
     refine nm ?_
     refine aw_yes (rfl) ?_
     refine aw_seq ?_
     refine aw_region ?_
     refine st_p (mv rfl) rfl ?_
     refine st_p (mv rfl) rfl ?_
     refine st_p (op_addi rfl rfl (by omega)) rfl ?_
     refine st_p (mv rfl) rfl ?_
     refine st_p (OpP.conv (op_eq rfl rfl) (no (by first | assumption | omega))) rfl ?_
     refine st_p (mv rfl) rfl ?_
     refine st_pg rfl rfl rfl (mv rfl) rfl ?_
     refine st_pg rfl rfl rfl (OpP.conv (op_gt rfl rfl) (no (by first | assumption | omega))) rfl ?_
     refine st_p (pkF rfl rfl) rfl ?_
     refine st_call0 (num_result _ _ false) Try.func113 ⟨rfl, rfl⟩ rfl (.cons (.same (by rfl)) (.cons (.same (by rfl)) (.cons (.same (by rfl)) .nil))) rfl ?_
     rintro _ _ _ ⟨rfl, rfl, rfl⟩ r2 h2 n2 hr hh hn
     simp only [AV.ren, rens, Blk.ren, swp, List.map_cons, List.map_nil, List.cons_append, List.nil_append, List.append_nil, Nat.not_lt_zero, if_false, Nat.reduceAdd, Nat.zero_add, Nat.add_zero, ren_bl, Bool.false_eq_true, if_false] at hr hh hn
     subst hr hh hn
     refine st_p (op_extract rfl rfl) rfl ?_
     refine st_p (op_extract rfl rfl) rfl ?_
     refine st_p (op_extract rfl rfl) rfl ?_
     refine st_p (mva rfl) rfl ?_
     refine st_p (mva rfl) rfl ?_
     refine st_p (mva rfl) rfl ?_
     refine al_nil ?_
     refine nm ?_
     refine aw_ret ?_
     refine rb ?_
     refine rs ?_
     refine rs ?_
     refine rb ?_
     refine rs ?_
     refine ret_a ⟨[(2, .int .i64 0), (3, .int .i64 0), (4, .bool false)], [], 0⟩ (le_to [] rfl rfl rfl rfl rfl ⟨rfl, rfl, rfl, trivial⟩ trivial) (res3 Try.results88) (.inr ⟨rfl, rfl⟩) ⟨by rw [← ht]; rfl, rfl, rfl⟩
   ·have h128 : ¬ bits .and .u8 (c.toNat : Int) 128 = 0 := by rw [u8_and128, if_neg hb]; decide
    rw [if_neg hb] at ht
    have hm128 : c.toNat % 128 = c.toNat - 128 := by have := c.toNat_lt; omega
    rw [hm128] at hval hnew
    refine aw_seq ?_
    refine aw_region ?_
    refine st_p (OpP.conv (op_lt rfl rfl) (yes (by first | assumption | omega))) rfl ?_
    refine al_nil ?_
    refine nm ?_
    refine aw_seq ?_
    refine aw_yes (rfl) ?_
    refine aw_skip ?_
    refine nm ?_
    refine aw_seq ?_
    refine aw_block ?_
    refine aw_seq ?_
    refine aw_region ?_
    refine st_p (mv rfl) rfl ?_
    refine st_p (op_indexAddrL Try.underlying22 z5 rfl rfl (by omega) (by first | assumption | rfl)) rfl ?_
    refine st_p (op_load1L Try.underlying5 rfl rfl rfl) rfl ?_
    refine st_p (mva rfl) rfl ?_
    refine st_p (mva rfl) rfl ?_
    refine al_nil ?_
    refine nm ?_
    refine aw_seq ?_
    refine aw_region ?_
    refine st_p (mv rfl) rfl ?_
    refine st_p (mv rfl) rfl ?_
    refine st_p (op_band rfl rfl) rfl ?_
    refine st_p (op_conv (by rw [Try.underlying5]; rfl) Try.underlying3 rfl) rfl ?_
    refine st_p (mv rfl) rfl ?_
    refine st_p (op_muli rfl rfl (by omega)) rfl ?_
    refine st_p (op_shl rfl rfl (by simp only [IntKind.bits]; omega)) rfl ?_
    refine st_p (op_bor rfl rfl) rfl ?_
    refine st_p (mva rfl) rfl ?_
    refine al_nil ?_
    refine nm ?_
    refine aw_seq ?_
    refine aw_region ?_
    refine st_p (mv rfl) rfl ?_
    refine st_p (op_band rfl rfl) rfl ?_
    refine st_p (OpP.conv (op_eq rfl rfl) (no (by first | assumption | omega))) rfl ?_
    refine al_nil ?_
    refine nm ?_
    refine aw_no (rfl) ?_
    refine aw_skip ?_
    refine nmb ?_
    refine nm ?_
    refine aw_region ?_
    refine st_p (op_addi rfl rfl (by omega)) rfl ?_
    refine st_p (mv rfl) rfl ?_
    refine al_nil ?_
    refine nm ?_
    refine ⟨⟨(i + 1, v + (c.toNat - 128) * 128 ^ i), by dsimp only; omega, ht, hnew⟩, by dsimp only; omega, le_to [] rfl rfl rfl rfl rfl ⟨?_, rfl, rfl, rfl, trivial⟩ trivial⟩
    rw [← hval]; rfl
  ·have hnil : m.drop i = [] := List.drop_of_length_le (by omega)
   rw [hnil, takeN] at ht
   refine aw_seq ?_
   refine aw_region ?_
   refine st_p (OpP.conv (op_lt rfl rfl) (no (by first | assumption | omega))) rfl ?_
   refine al_nil ?_
   refine nm ?_
   refine aw_seq ?_
   refine aw_no (rfl) ?_
   refine aw_exit ?_
   refine xs ?_
   refine xs ?_
   refine xb ?_
   refine nm ?_
   refine aw_seq ?_
   refine aw_region ?_
   refine st_p (mva rfl) rfl ?_
   refine st_p (mva rfl) rfl ?_
   refine st_p (mva rfl) rfl ?_
   refine al_nil ?_
   refine nm ?_
   refine aw_ret ?_
   refine ret_a ⟨[(2, .int .i64 0), (3, .int .i64 0), (4, .bool false)], [], 0⟩ (le_to [] rfl rfl rfl rfl rfl ⟨rfl, rfl, rfl, trivial⟩ trivial) (res3 Try.results88) (.inr ⟨rfl, rfl⟩) ⟨by rw [← ht]; rfl, rfl, rfl⟩

end Go.Proofs.Ytpggknkhldecaaa.Abs
end
section
namespace Go.Proofs.Ytpggknkhldecaaa.Abs

def putText (s : List UInt8) : List UInt8 := putNum s.length ++ s

theorem num_PutText (s : List UInt8) (hs : s.length ≤ 255) : AC Try.prog 50 [sb s] [] 0 false (fun r h nx => r = .own 0 0 (putText s).length ∧ h = [(0, .cells 1 (bl (putText s)))] ∧ nx = 1) := by
 have hle := putNum_le s.length (by omega)
 refine ac_fn Try.func50 rfl rfl rfl rfl (fun w0 S0 r0 => ?_)
 refine aw_seq ?_
 refine aw_region ?_
 refine st_p (mva rfl) rfl ?_
 refine al_nil ?_
 refine nm ?_
 refine aw_seq ?_
 refine aw_seq ?_
 refine aw_region ?_
 refine st_p (mv rfl) rfl ?_
 refine st_p (op_lens Try.underlying9 rfl) rfl ?_
 refine st_p (OpP.conv (op_gt rfl rfl) (no (by first | assumption | omega))) rfl ?_
 refine al_nil ?_
 refine nm ?_
 refine aw_no (rfl) ?_
 refine aw_skip ?_
 refine nm ?_
 refine aw_seq ?_
 refine aw_region ?_
 refine st_p (mv rfl) rfl ?_
 refine st_p (op_lens Try.underlying9 rfl) rfl ?_
 refine st_call0 (num_Put (s.length : Int) (by omega) (by omega)) Try.func49 ⟨rfl, rfl⟩ rfl (.cons (.same (by rfl)) .nil) rfl ?_
 rintro _ _ _ ⟨rfl, rfl, rfl⟩ r2 h2 n2 hr hh hn
 simp only [AV.ren, rens, Blk.ren, swp, List.map_cons, List.map_nil, List.cons_append, List.nil_append, List.append_nil, Nat.not_lt_zero, if_false, Nat.reduceAdd, Nat.zero_add, Nat.add_zero, ren_bl, Int.toNat_natCast] at hr hh hn
 subst hr hh hn
 refine st_p (mv rfl) rfl ?_
 refine st_o (op_app Try.underlying22 Try.underlying9 (.inr rfl) i5 o5 rfl rfl rfl (by first | rfl | omega | (simp; done) | (simp; omega)) (SrcStr.ok rfl) (by first | omega | (simp; try omega)) rfl) rfl ?_
 refine st_p (mva rfl) rfl ?_
 refine al_nil ?_
 refine nm ?_
 refine aw_ret ?_
 refine ret_a ⟨[(2, .own 0 0 (putText s).length)], [(0, .cells 1 (bl (putText s)))], 1⟩ (le_to [(0, 1)] rfl rfl rfl rfl rfl ⟨?_, trivial⟩ ⟨?_, trivial⟩) (res1 Try.results50) (.inr ⟨rfl, ?_⟩) ⟨rfl, rfl, rfl⟩
 ·simp [AV.ren, tget, swp, putText, bl]
 ·simp only [Blk.ren, hget, swp, ren_bl, putText, bl_app]; rfl
 ·simp [Blk.nosl, AV.nosl, bl]

def takeText (l : List UInt8) : Option (List UInt8 × Nat) :=
 match takeNum l with
 | some (v, n) => if v ≤ 255 ∧ v + n ≤ l.length then some ((l.drop n).take v, n + v) else none
 | none => none

def textA : Option (List UInt8 × Nat) → AV
 | some (s, n) => .tup [sb s, .int .i64 n, .bool true]
 | none => .tup [sb [], .int .i64 0, .bool false]

theorem takeN_spec : ∀ (m : List UInt8) (i v0 v n : Nat), takeN m i v0 = some (v, n) → v0 < 128 ^ i → n ≤ i + m.length ∧ i < n ∧ v < 128 ^ n := by
 intro m
 induction m with
 | nil => intro i v0 v n h; cases h
 | cons c t ih =>
  intro i v0 v n h h0
  rw [takeN] at h
  have step : ∀ x, x < 128 → v0 + x * 128 ^ i < 128 ^ (i + 1) := fun x hx => by
   have : (x + 1) * 128 ^ i ≤ 128 * 128 ^ i := Nat.mul_le_mul_right _ hx
   rw [Nat.add_mul, Nat.one_mul] at this
   rw [Nat.pow_succ, Nat.mul_comm (128 ^ i)]
   omega
  split at h
  ·rename_i hc
   split at h
   ·obtain ⟨rfl, rfl⟩ := Prod.mk.inj (Option.some.inj h)
    exact ⟨by simp only [List.length_cons]; omega, by omega, step _ hc⟩
   ·cases h
  ·obtain ⟨h1, h2, h3⟩ := ih _ _ _ _ h (step _ (by have := c.toNat_lt; omega))
   exact ⟨by simp only [List.length_cons]; omega, by omega, h3⟩

theorem takeNum_spec {l : List UInt8} {v n : Nat} (h : takeNum l = some (v, n)) : n ≤ l.length ∧ 1 ≤ n ∧ n ≤ 9 ∧ v ≤ 9223372036854775807 := by
 obtain ⟨h1, h2, h3⟩ := takeN_spec _ _ _ _ _ h (by decide)
 simp only [List.length_take] at h1
 have : 128 ^ n ≤ 128 ^ 9 := Nat.pow_le_pow_right (by decide) (by omega)
 have e : (128 : Nat) ^ 9 = 9223372036854775808 := rfl
 exact ⟨by omega, by omega, by omega, by omega⟩

theorem num_TakeText (l : List UInt8) (hl : l.length ≤ 9223372036854775807) : AC Try.prog 90 [.sl 1 (bl l)] [] 0 false (fun r h nx => r = textA (takeText l) ∧ h = [] ∧ nx = 0) := by
 have hbl := bl_len l
 refine ac_fn Try.func90 rfl rfl rfl rfl (fun w0 S0 r0 => ?_)
 refine aw_seq ?_
 refine aw_region ?_
 refine st_p (mva rfl) rfl ?_
 refine st_p (mva rfl) rfl ?_
 refine st_p (mva rfl) rfl ?_
 refine al_nil ?_
 refine nm ?_
 refine aw_seq ?_
 refine aw_region ?_
 refine st_p (mv rfl) rfl ?_
 refine st_call0 (num_Take l) Try.func88 ⟨rfl, rfl⟩ rfl (.cons (.same (by rfl)) .nil) rfl ?_
 cases ht : takeNum l with
 | none =>
  rintro _ _ _ ⟨rfl, rfl, rfl⟩ r2 h2 n2 hr hh hn
  simp only [AV.ren, rens, Blk.ren, swp, List.map_cons, List.map_nil, List.cons_append, List.nil_append, List.append_nil, Nat.not_lt_zero, if_false, Nat.reduceAdd, Nat.zero_add, Nat.add_zero, ren_bl, numA] at hr hh hn
  subst hr hh hn
  refine st_p (mv rfl) rfl ?_
  refine st_p (op_extract rfl rfl) rfl ?_
  refine st_p (op_extract rfl rfl) rfl ?_
  refine st_p (op_extract rfl rfl) rfl ?_
  refine st_p (mva rfl) rfl ?_
  refine st_p (mva rfl) rfl ?_
  refine st_p (mva rfl) rfl ?_
  refine al_nil ?_
  refine nm ?_
  refine aw_seq ?_
  refine aw_seq ?_
  refine aw_region ?_
  refine st_p (mv rfl) rfl ?_
  refine st_p (op_notF rfl) rfl ?_
  refine st_p (mv rfl) rfl ?_
  refine st_s rfl rfl rfl rfl rfl ?_
  refine st_s rfl rfl rfl rfl rfl ?_
  refine st_p (pkT rfl rfl) rfl ?_
  refine st_p (mv rfl) rfl ?_
  refine st_s rfl rfl rfl rfl rfl ?_
  refine st_s rfl rfl rfl rfl rfl ?_
  refine st_s rfl rfl rfl rfl rfl ?_
  refine st_s rfl rfl rfl rfl rfl ?_
  refine st_s rfl rfl rfl rfl rfl ?_
  refine st_s rfl rfl rfl rfl rfl ?_
  refine st_p (pkT rfl rfl) rfl ?_
  refine al_nil ?_
  refine nm ?_
  refine aw_yes (rfl) ?_
  refine aw_seq ?_
  refine aw_region ?_
  refine st_p (mva rfl) rfl ?_
  refine st_p (mva rfl) rfl ?_
  refine st_p (mva rfl) rfl ?_
  refine al_nil ?_
  refine nm ?_
  refine aw_ret ?_
  refine rs ?_
  exact ret_v (res3 Try.results90) (.inr ⟨rfl, rfl⟩) ⟨by unfold takeText; rw [ht]; rfl, rfl, rfl⟩
 | some vn =>
  obtain ⟨v, n⟩ := vn
  obtain ⟨h1, h2, h3, h4⟩ := takeNum_spec ht
  by_cases hv : v ≤ 255
  ·by_cases hn : v + n ≤ l.length
   ·have e : takeText l = some ((l.drop n).take v, n + v) := by unfold takeText; rw [ht]; exact if_pos ⟨hv, hn⟩
    rintro _ _ _ ⟨rfl, rfl, rfl⟩ r2 h2 n2 hr hh hn
    simp only [AV.ren, rens, Blk.ren, swp, List.map_cons, List.map_nil, List.cons_append, List.nil_append, List.append_nil, Nat.not_lt_zero, if_false, Nat.reduceAdd, Nat.zero_add, Nat.add_zero, ren_bl, numA] at hr hh hn
    subst hr hh hn
    refine st_p (mv rfl) rfl ?_
    refine st_p (op_extract rfl rfl) rfl ?_
    refine st_p (op_extract rfl rfl) rfl ?_
    refine st_p (op_extract rfl rfl) rfl ?_
    refine st_p (mva rfl) rfl ?_
    refine st_p (mva rfl) rfl ?_
    refine st_p (mva rfl) rfl ?_
    refine al_nil ?_
    refine nm ?_
    refine aw_seq ?_
    refine aw_seq ?_
    refine aw_region ?_
    refine st_p (mv rfl) rfl ?_
    refine st_p (op_notT rfl) rfl ?_
    refine st_p (mv rfl) rfl ?_
    refine st_pg rfl rfl rfl (mv rfl) rfl ?_
    refine st_pg rfl rfl rfl (OpP.conv (op_gt rfl rfl) (no (by first | assumption | omega))) rfl ?_
    refine st_p (pkF rfl rfl) rfl ?_
    refine st_p (mv rfl) rfl ?_
    refine st_pg rfl rfl rfl (mv rfl) rfl ?_
    refine st_pg rfl rfl rfl (mv rfl) rfl ?_
    refine st_pg rfl rfl rfl (op_len Try.underlying22 rfl) rfl ?_
    refine st_pg rfl rfl rfl (mv rfl) rfl ?_
    refine st_pg rfl rfl rfl (op_subi rfl rfl (by omega)) rfl ?_
    refine st_pg rfl rfl rfl (OpP.conv (op_gt rfl rfl) (no (by first | assumption | omega))) rfl ?_
    refine st_p (pkF rfl rfl) rfl ?_
    refine al_nil ?_
    refine nm ?_
    refine aw_no (rfl) ?_
    refine aw_skip ?_
    refine nm ?_
    refine aw_seq ?_
    refine aw_region ?_
    refine st_p (mv rfl) rfl ?_
    refine st_p (mv rfl) rfl ?_
    refine st_p (mv rfl) rfl ?_
    refine st_p (mv rfl) rfl ?_
    refine st_p (op_addi rfl rfl (by omega)) rfl ?_
    refine st_p (op_sliceL Try.underlying22 z5 rfl (by exact ⟨_, rfl⟩) (by exact ⟨_, rfl⟩) (by first | omega | (simp only [bl_len, List.length_map, List.length_append, List.length_take, List.length_drop]; omega)) (by first | omega | (simp only [bl_len, List.length_map, List.length_append, List.length_take, List.length_drop]; omega)) (by first | omega | (simp only [bl_len, List.length_map, List.length_append, List.length_take, List.length_drop]; omega))) rfl ?_
    refine st_p (op_toStr Try.underlying22 Try.underlying5 Try.underlying9 rfl (.sl (.inr trivial)) (by simp only [bl_take, bl_drop, bl_app, List.take_length, List.drop_zero, List.take_nil, List.drop_nil]; rfl)) rfl ?_
    refine st_p (mv rfl) rfl ?_
    refine st_p (mv rfl) rfl ?_
    refine st_p (op_addi rfl rfl (by omega)) rfl ?_
    refine st_p (mva rfl) rfl ?_
    refine st_p (mva rfl) rfl ?_
    refine st_p (mva rfl) rfl ?_
    refine al_nil ?_
    refine nm ?_
    refine aw_ret ?_
    refine ret_a ⟨[(2, sb ((l.drop n).take v)), (3, .int .i64 (n + v : Nat)), (4, .bool true)], [], 0⟩ (le_to [] rfl rfl rfl rfl rfl ⟨?_, rfl, rfl, trivial⟩ trivial) (res3 Try.results90) (.inr ⟨rfl, rfl⟩) ⟨by rw [e]; rfl, rfl, rfl⟩
    show sb ((l.drop (n : Int).toNat).take (((n : Int) + (v : Int)).toNat - (n : Int).toNat)) = sb ((l.drop n).take v)
    rw [show ((n : Int) + (v : Int)).toNat - (n : Int).toNat = v from by omega]; rfl
   ·have e : takeText l = none := by unfold takeText; rw [ht]; exact if_neg (fun h => hn h.2)
    rintro _ _ _ ⟨rfl, rfl, rfl⟩ r2 h2 n2 hr hh hn
    simp only [AV.ren, rens, Blk.ren, swp, List.map_cons, List.map_nil, List.cons_append, List.nil_append, List.append_nil, Nat.not_lt_zero, if_false, Nat.reduceAdd, Nat.zero_add, Nat.add_zero, ren_bl, numA] at hr hh hn
    subst hr hh hn
    refine st_p (mv rfl) rfl ?_
    refine st_p (op_extract rfl rfl) rfl ?_
    refine st_p (op_extract rfl rfl) rfl ?_
    refine st_p (op_extract rfl rfl) rfl ?_
    refine st_p (mva rfl) rfl ?_
    refine st_p (mva rfl) rfl ?_
    refine st_p (mva rfl) rfl ?_
    refine al_nil ?_
    refine nm ?_
    refine aw_seq ?_
    refine aw_seq ?_
    refine aw_region ?_
    refine st_p (mv rfl) rfl ?_
    refine st_p (op_notT rfl) rfl ?_
    refine st_p (mv rfl) rfl ?_
    refine st_pg rfl rfl rfl (mv rfl) rfl ?_
    refine st_pg rfl rfl rfl (OpP.conv (op_gt rfl rfl) (no (by first | assumption | omega))) rfl ?_
    refine st_p (pkF rfl rfl) rfl ?_
    refine st_p (mv rfl) rfl ?_
    refine st_pg rfl rfl rfl (mv rfl) rfl ?_
    refine st_pg rfl rfl rfl (mv rfl) rfl ?_
    refine st_pg rfl rfl rfl (op_len Try.underlying22 rfl) rfl ?_
    refine st_pg rfl rfl rfl (mv rfl) rfl ?_
    refine st_pg rfl rfl rfl (op_subi rfl rfl (by omega)) rfl ?_
    refine st_pg rfl rfl rfl (OpP.conv (op_gt rfl rfl) (yes (by first | assumption | omega))) rfl ?_
    refine st_p (pkF rfl rfl) rfl ?_
    refine al_nil ?_
    refine nm ?_
    refine aw_yes (rfl) ?_
    refine aw_seq ?_
    refine aw_region ?_
    refine st_p (mva rfl) rfl ?_
    refine st_p (mva rfl) rfl ?_
    refine st_p (mva rfl) rfl ?_
    refine al_nil ?_
    refine nm ?_
    refine aw_ret ?_
    refine rs ?_
    exact ret_v (res3 Try.results90) (.inr ⟨rfl, rfl⟩) ⟨by rw [e]; rfl, rfl, rfl⟩
  ·have e : takeText l = none := by unfold takeText; rw [ht]; exact if_neg (fun h => hv h.1)
   rintro _ _ _ ⟨rfl, rfl, rfl⟩ r2 h2 n2 hr hh hn
   simp only [AV.ren, rens, Blk.ren, swp, List.map_cons, List.map_nil, List.cons_append, List.nil_append, List.append_nil, Nat.not_lt_zero, if_false, Nat.reduceAdd, Nat.zero_add, Nat.add_zero, ren_bl, numA] at hr hh hn
   subst hr hh hn
   refine st_p (mv rfl) rfl ?_
   refine st_p (op_extract rfl rfl) rfl ?_
   refine st_p (op_extract rfl rfl) rfl ?_
   refine st_p (op_extract rfl rfl) rfl ?_
   refine st_p (mva rfl) rfl ?_
   refine st_p (mva rfl) rfl ?_
   refine st_p (mva rfl) rfl ?_
   refine al_nil ?_
   refine nm ?_
   refine aw_seq ?_
   refine aw_seq ?_
   refine aw_region ?_
   refine st_p (mv rfl) rfl ?_
   refine st_p (op_notT rfl) rfl ?_
   refine st_p (mv rfl) rfl ?_
   refine st_pg rfl rfl rfl (mv rfl) rfl ?_
   refine st_pg rfl rfl rfl (OpP.conv (op_gt rfl rfl) (yes (by first | assumption | omega))) rfl ?_
   refine st_p (pkF rfl rfl) rfl ?_
   refine st_p (mv rfl) rfl ?_
   refine st_s rfl rfl rfl rfl rfl ?_
   refine st_s rfl rfl rfl rfl rfl ?_
   refine st_s rfl rfl rfl rfl rfl ?_
   refine st_s rfl rfl rfl rfl rfl ?_
   refine st_s rfl rfl rfl rfl rfl ?_
   refine st_s rfl rfl rfl rfl rfl ?_
   refine st_p (pkT rfl rfl) rfl ?_
   refine al_nil ?_
   refine nm ?_
   refine aw_yes (rfl) ?_
   refine aw_seq ?_
   refine aw_region ?_
   refine st_p (mva rfl) rfl ?_
   refine st_p (mva rfl) rfl ?_
   refine st_p (mva rfl) rfl ?_
   refine al_nil ?_
   refine nm ?_
   refine aw_ret ?_
   refine rs ?_
   exact ret_v (res3 Try.results90) (.inr ⟨rfl, rfl⟩) ⟨by rw [e]; rfl, rfl, rfl⟩

end Go.Proofs.Ytpggknkhldecaaa.Abs
end
section
namespace Go.Proofs.Ytpggknkhldecaaa.Abs

theorem ref_more (x : Nat) : IntKind.u8.wrap (IntKind.u8.wrap (Int.tmod (x : Int) 128) + 128) = ((UInt8.ofNat (x % 128 + 128)).toNat : Int) := by
 have h1 : Int.tmod (x : Int) 128 = ((x % 128 : Nat) : Int) := rfl
 have h2 : (((x % 128 : Nat) : Int) + 128) = ((x % 128 + 128 : Nat) : Int) := by omega
 rw [h1, wrap_u8, Nat.mod_eq_of_lt (show x % 128 < 256 by omega), h2, wrap_u8, u8_nat (by omega), Nat.mod_eq_of_lt (by omega)]

theorem ref_more2 (x : Nat) : IntKind.u8.wrap (IntKind.u8.wrap ((x : Int) % 128) + 128) = ((x : Int) % 128 + 128) % 256 := by
 have h1 : (x : Int) % 128 = ((x % 128 : Nat) : Int) := by omega
 have h2 : (((x % 128 : Nat) : Int) + 128) = ((x % 128 + 128 : Nat) : Int) := by omega
 rw [h1, wrap_u8, Nat.mod_eq_of_lt (show x % 128 < 256 by omega), h2, wrap_u8]
 omega

theorem ref_PutNum (v : Int) (h0 : 0 ≤ v) (h1 : v ≤ 9223372036854775807) : AC Try.prog 52 [.int .i64 v] [] 0 false (fun r h nx => r = .own 0 0 (putNum v.toNat).length ∧ h = [(0, .cells 1 (bl (putNum v.toNat)))] ∧ nx = 1) := by
 have hle := putNum_le v.toNat (by omega)
 refine ac_fn Try.func52 rfl rfl rfl rfl (fun w0 S0 r0 => ?_)
 refine aw_seq ?_
 refine aw_region ?_
 refine st_p (mva rfl) rfl ?_
 refine al_nil ?_
 refine nm ?_
 refine aw_seq ?_
 refine aw_seq ?_
 refine aw_region ?_
 refine st_p (mv rfl) rfl ?_
 refine st_p (OpP.conv (op_lt rfl rfl) (no (by first | assumption | omega))) rfl ?_
 refine al_nil ?_
 refine nm ?_
 refine aw_no (rfl) ?_
 refine aw_skip ?_
 refine nm ?_
 refine aw_seq ?_
 refine aw_region ?_
 refine st_p (mva rfl) rfl ?_
 refine al_nil ?_
 refine nm ?_
 refine aw_seq ?_
 refine aw_block ?_
 refine aw_virt 3 1 rfl ?_
 refine aw_loop (fun p : {p : Nat × List UInt8 // p.2 ++ putNum p.1 = putNum v.toNat ∧ p.1 ≤ 9223372036854775807} => ⟨[(0, .int .i64 p.1.1), (3, .own 0 0 p.1.2.length)], [(0, .cells 1 (bl p.1.2))], 1⟩) (fun p => p.1.1) ⟨(v.toNat, []), rfl, by dsimp only; omega⟩ ?_ ?_
 ·exact le_to [] rfl rfl rfl rfl rfl ⟨by simp only [AV.ren]; rw [Int.toNat_of_nonneg h0]; rfl, rfl, trivial⟩ ⟨rfl, trivial⟩
 ·rintro ⟨⟨x, acc⟩, he, hx⟩
  dsimp only at he hx ⊢
  have hl : acc.length ≤ 9 := by rw [← he] at hle; simp only [List.length_append] at hle; omega
  by_cases hb : 127 < x
  ·skip
   refine aw_seq ?_
   refine aw_seq ?_
   refine aw_region ?_
   refine st_p (mv rfl) rfl ?_
   refine st_p (OpP.conv (op_ge rfl rfl) (yes (by first | assumption | omega))) rfl ?_
   refine al_nil ?_
   refine nm ?_
   refine aw_yes (rfl) ?_
   refine aw_skip ?_
   refine nm ?_
   refine aw_block ?_
   refine aw_seq ?_
   refine aw_region ?_
   refine st_p (mv rfl) rfl ?_
   refine st_p (mv rfl) rfl ?_
   refine st_p (op_remi rfl rfl (by omega) (by omega)) rfl ?_
   refine st_p (op_conv (by rw [Try.underlying3]; rfl) Try.underlying5 rfl) rfl ?_
   refine st_p (op_add rfl rfl) rfl ?_
   refine st_o (bsl Try.underlying22 i5 o5 (by decide) rfl rfl rfl (by decide)) rfl ?_
   refine st_o (op_app Try.underlying22 Try.underlying22 (.inl ⟨_, rfl⟩) i5 o5 rfl rfl rfl (by first | rfl | omega | (simp; done) | (simp; omega)) ((SrcA.whole rfl (by first | rfl | (simp; done))).ok rfl (by first | assumption | intro z hz; simp only [List.mem_singleton, List.drop_zero, List.take_succ_cons, List.take_zero, List.mem_cons, List.not_mem_nil, or_false, List.mem_map] at hz; first | (subst hz; rfl) | (obtain ⟨_, _, rfl⟩ := hz; rfl) | (rcases hz with rfl | rfl <;> rfl))) (by first | omega | (simp; try omega)) rfl) rfl ?_
   refine st_p (mva rfl) rfl ?_
   refine al_nil ?_
   refine nm ?_
   refine aw_region ?_
   refine st_p (mv rfl) rfl ?_
   refine st_p (op_quoi rfl rfl (by omega) (by omega)) rfl ?_
   refine st_p (mva rfl) rfl ?_
   refine al_nil ?_
   refine nmb ?_
   refine nm ?_
   refine ⟨⟨(x / 128, acc ++ [UInt8.ofNat (x % 128 + 128)]), by show (acc ++ [UInt8.ofNat (x % 128 + 128)]) ++ putNum (x / 128) = _; rw [List.append_assoc, ← he, putNum_hi (v := x) (by omega)]; rfl, by dsimp only; omega⟩, by dsimp only; omega, le_to [(0, 2)] rfl rfl rfl rfl rfl ⟨?_, ?_, trivial⟩ ⟨?_, trivial⟩⟩
   ·simp only [AV.ren, tget]; rfl
   ·simp [AV.ren, tget, swp, bl]
   ·simp only [Blk.ren, hget, swp, ren_bl]; simp [bl, ref_more2]
  ·skip
   refine aw_seq ?_
   refine aw_seq ?_
   refine aw_region ?_
   refine st_p (mv rfl) rfl ?_
   refine st_p (OpP.conv (op_ge rfl rfl) (no (by first | assumption | omega))) rfl ?_
   refine al_nil ?_
   refine nm ?_
   refine aw_no (rfl) ?_
   refine aw_exit ?_
   refine xs ?_
   refine xs ?_
   refine xb ?_
   refine nm ?_
   refine aw_seq ?_
   refine aw_region ?_
   refine st_p (mv rfl) rfl ?_
   refine st_p (mv rfl) rfl ?_
   refine st_p (op_conv (by rw [Try.underlying3]; rfl) Try.underlying5 rfl) rfl ?_
   refine st_o (bsl Try.underlying22 i5 o5 (by decide) rfl rfl rfl (by decide)) rfl ?_
   refine st_o (op_app Try.underlying22 Try.underlying22 (.inl ⟨_, rfl⟩) i5 o5 rfl rfl rfl (by first | rfl | omega | (simp; done) | (simp; omega)) ((SrcA.whole rfl (by first | rfl | (simp; done))).ok rfl (by first | assumption | intro z hz; simp only [List.mem_singleton, List.drop_zero, List.take_succ_cons, List.take_zero, List.mem_cons, List.not_mem_nil, or_false, List.mem_map] at hz; first | (subst hz; rfl) | (obtain ⟨_, _, rfl⟩ := hz; rfl) | (rcases hz with rfl | rfl <;> rfl))) (by first | omega | (simp; try omega)) rfl) rfl ?_
   refine st_p (mva rfl) rfl ?_
   refine al_nil ?_
   refine nm ?_
   refine aw_ret ?_
   refine ret_a ⟨[(2, .own 0 0 (putNum v.toNat).length)], [(0, .cells 1 (bl (putNum v.toNat)))], 1⟩ (le_to [(0, 2)] rfl rfl rfl rfl rfl ⟨?_, trivial⟩ ⟨?_, trivial⟩) (res1 Try.results52) (.inr ⟨rfl, ?_⟩) ⟨rfl, rfl, rfl⟩
   ·rw [← he, putNum_lo (by omega)]; simp [AV.ren, tget, swp, bl]
   ·rw [← he, putNum_lo (by omega)]; simp only [Blk.ren, hget, swp, ren_bl, low_byte x (by omega)]; simp [bl]
   ·simp [Blk.nosl, AV.nosl]

def dec : List UInt8 → Nat
 | [] => 0
 | c :: t => c.toNat % 128 + 128 * dec t

theorem dec_lt : ∀ (p : List UInt8), dec p < 128 ^ p.length := by
 intro p
 induction p with
 | nil => decide
 | cons c t ih =>
  have : c.toNat % 128 < 128 := Nat.mod_lt _ (by decide)
  simp only [dec, List.length_cons, Nat.pow_succ]
  omega

theorem takeN_dec : ∀ (q : List UInt8) (c : UInt8) (rest : List UInt8) (i v : Nat), (∀ x ∈ q, 128 ≤ x.toNat) → c.toNat < 128 →
  takeN (q ++ c :: rest) i v = if i + q.length = 0 ∨ 0 < c.toNat then some (v + dec (q ++ [c]) * 128 ^ i, i + q.length + 1) else none := by
 intro q
 induction q with
 | nil =>
  intro c rest i v _ hc
  show takeN (c :: rest) i v = _
  rw [takeN, if_pos hc]
  simp [dec, Nat.mod_eq_of_lt hc]
 | cons x q ih =>
  intro c rest i v hq hc
  have hx := hq x List.mem_cons_self
  have hx2 := x.toNat_lt
  show takeN (x :: (q ++ c :: rest)) i v = _
  rw [takeN, if_neg (by omega), ih c rest (i + 1) _ (fun y hy => hq y (List.mem_cons_of_mem _ hy)) hc]
  have e1 : i + 1 + q.length = i + (x :: q).length := by simp only [List.length_cons]; omega
  have e2 : v + (x.toNat - 128) * 128 ^ i + dec (q ++ [c]) * 128 ^ (i + 1) = v + dec (x :: q ++ [c]) * 128 ^ i := by
   have : x.toNat % 128 = x.toNat - 128 := by omega
   simp only [List.cons_append, dec, this, Nat.add_mul, Nat.pow_succ]
   rw [Nat.mul_comm 128 (dec (q ++ [c])), Nat.mul_assoc, Nat.mul_comm 128 (128 ^ i)]
   omega
  rw [e1, e2]

theorem putNum_last : ∀ (n v : Nat), v ≤ n → ∀ (q : List UInt8), putNum v = q ++ [0] → q = [] := by
 intro n
 induction n with
 | zero =>
  intro v hv q h
  have : v = 0 := by omega
  subst this
  rw [putNum_lo (by decide)] at h
  cases q with
  | nil => rfl
  | cons x q => have := congrArg List.length h; simp at this
 | succ n ih =>
  intro v hv q h
  by_cases hlt : v < 128
  ·rw [putNum_lo hlt] at h
   cases q with
   | nil => rfl
   | cons x q => have := congrArg List.length h; simp at this
  ·rw [putNum_hi hlt] at h
   cases q with
   | nil => rfl
   | cons x q =>
    have h2 : putNum (v / 128) = q ++ [0] := (List.cons.inj h).2
    have hq := ih (v / 128) (by omega) q h2
    subst hq
    exfalso
    by_cases hl : v / 128 < 128
    ·rw [putNum_lo hl] at h2
     have h3 : UInt8.ofNat (v / 128) = 0 := (List.cons.inj h2).1
     have h4 := congrArg UInt8.toNat h3
     rw [UInt8.toNat_ofNat', Nat.mod_eq_of_lt (by simp; omega)] at h4
     have h5 : v / 128 = 0 := h4
     omega
    ·rw [putNum_hi hl] at h2
     have := congrArg List.length h2
     have hp := putNum_pos (v / 128 / 128)
     simp at this
     rw [this] at hp
     simp at hp

theorem dec_pos : ∀ (q : List UInt8) (c : UInt8), c.toNat < 128 → 0 < c.toNat → 0 < dec (q ++ [c]) := by
 intro q
 induction q with
 | nil => intro c h1 h2; simp only [List.nil_append, dec]; omega
 | cons x q ih => intro c h1 h2; have := ih c h1 h2; simp only [List.cons_append, dec]; omega

theorem putNum_dec : ∀ (q : List UInt8) (c : UInt8), (∀ x ∈ q, 128 ≤ x.toNat) → c.toNat < 128 → (q = [] ∨ 0 < c.toNat) → putNum (dec (q ++ [c])) = q ++ [c] := by
 intro q
 induction q with
 | nil =>
  intro c _ hc _
  simp only [List.nil_append, dec, Nat.mul_zero, Nat.add_zero, Nat.mod_eq_of_lt hc]
  rw [putNum_lo hc]
  simp
 | cons x q ih =>
  intro c hq hc h
  have hc0 : 0 < c.toNat := h.resolve_left (by simp)
  have hx := hq x List.mem_cons_self
  have hx2 := x.toNat_lt
  have hp := dec_pos q c hc hc0
  have hi := ih c (fun y hy => hq y (List.mem_cons_of_mem _ hy)) hc (.inr hc0)
  have e : dec (x :: q ++ [c]) = x.toNat % 128 + 128 * dec (q ++ [c]) := rfl
  rw [e, putNum_hi (by omega)]
  have e1 : (x.toNat % 128 + 128 * dec (q ++ [c])) / 128 = dec (q ++ [c]) := by omega
  have e2 : (x.toNat % 128 + 128 * dec (q ++ [c])) % 128 + 128 = x.toNat := by omega
  rw [e1, e2, hi]
  simp

theorem takeNum_ref {l : List UInt8} {k : Nat} {c : UInt8} (hk : k < 9) (hc : l[k]? = some c) (hlo : ∀ (j : Nat) (x : UInt8), j < k → l[j]? = some x → 128 ≤ x.toNat) (hcl : c.toNat < 128) :
  takeNum l = if putNum (dec (l.take (k + 1))) = l.take (k + 1) then some (dec (l.take (k + 1)), k + 1) else none := by
 have hkl : k < l.length := (List.getElem?_eq_some_iff.1 hc).1
 have hp : l.take (k + 1) = l.take k ++ [c] := by rw [List.take_add_one, hc]; rfl
 have h9 : l.take 9 = l.take k ++ c :: (l.take 9).drop (k + 1) := by
  have h1 : (l.take 9).take (k + 1) = l.take (k + 1) := by rw [List.take_take, Nat.min_eq_left (by omega)]
  have := List.take_append_drop (k + 1) (l.take 9)
  rw [h1, hp, List.append_assoc] at this
  exact this.symm
 have hq : ∀ x ∈ l.take k, 128 ≤ x.toNat := fun x hx => by
  obtain ⟨j, hj, hx⟩ := List.mem_iff_getElem.1 hx
  have hj' : j < k := by simp at hj; omega
  exact hlo j x hj' (by rw [← hx, List.getElem_take]; exact List.getElem?_eq_getElem _)
 have hlen : (l.take k).length = k := by simp; omega
 unfold takeNum
 rw [h9, takeN_dec _ _ _ _ _ hq hcl, hp, hlen]
 by_cases hcan : l.take k = [] ∨ 0 < c.toNat
 ·rw [if_pos (putNum_dec _ _ hq hcl hcan), if_pos (hcan.imp (fun h => by rw [h] at hlen; simp at hlen; omega) id)]
  simp
 ·have hne : ¬ putNum (dec (l.take k ++ [c])) = l.take k ++ [c] := fun h => hcan (by
   by_cases hc0 : c = 0
   ·subst hc0; exact .inl (putNum_last _ _ (Nat.le_refl _) _ h)
   ·refine .inr (Nat.pos_of_ne_zero fun h0 => hc0 ?_)
    exact UInt8.toNat_inj.1 h0)
  rw [if_neg hne, if_neg (fun h => hcan (h.imp (fun h => List.eq_nil_of_length_eq_zero (by omega)) id))]

theorem takeN_none : ∀ (q : List UInt8) (i v : Nat), (∀ x ∈ q, 128 ≤ x.toNat) → takeN q i v = none := by
 intro q
 induction q with
 | nil => intro i v _; rfl
 | cons x q ih => intro i v h; rw [takeN, if_neg (by have := h x List.mem_cons_self; omega)]; exact ih _ _ (fun y hy => h y (List.mem_cons_of_mem _ hy))

theorem ref_TakeNum (l : List UInt8) (hl : l.length ≤ 281474976710656) : AC Try.prog 92 [.sl 1 (bl l)] [] 0 false (fun r h nx => r = numA (takeNum l) ∧ h = [] ∧ nx = 0) := by
 have hbl := bl_len l
 refine ac_fn Try.func92 rfl rfl rfl rfl (fun w0 S0 r0 => ?_)
 refine aw_seq ?_
 refine aw_region ?_
 refine st_p (mva rfl) rfl ?_
 refine st_p (mva rfl) rfl ?_
 refine st_p (mva rfl) rfl ?_
 refine al_nil ?_
 refine nm ?_
 refine aw_seq ?_
 refine aw_seq ?_
 refine aw_region ?_
 refine st_p (mva rfl) rfl ?_
 refine al_nil ?_
 refine nm ?_
 refine aw_block ?_
 refine aw_loop (fun k : {k : Nat // k ≤ l.length ∧ k ≤ 9 ∧ ∀ (j : Nat) (x : UInt8), j < k → l[j]? = some x → 128 ≤ x.toNat} => ⟨[(0, .sl 1 (bl l)), (2, .int .i64 0), (3, .int .i64 0), (4, .bool false), (5, .int .i64 (k.1 + 1 : Nat))], [], 0⟩) (fun k => 9 - k.1) ⟨0, Nat.zero_le _, Nat.zero_le _, fun j x hj => absurd hj (Nat.not_lt_zero _)⟩ ?_ ?_
 ·exact le_to [] rfl rfl rfl rfl rfl ⟨rfl, rfl, rfl, rfl, rfl, trivial⟩ trivial
 ·rintro ⟨k, hk, hk9, ha⟩
  dsimp only
  by_cases hin : k < 9 ∧ k < l.length
  ·obtain ⟨h9, hlt⟩ := hin
   obtain ⟨c, hc⟩ : ∃ c, l[k]? = some c := ⟨_, List.getElem?_eq_getElem hlt⟩
   have hcb : (bl l)[(((k + 1 : Nat) : Int) - 1).toNat]? = some (.int .u8 (c.toNat : Int)) := by
    rw [show (((k + 1 : Nat) : Int) - 1).toNat = k from by omega]; simp [bl, hc]
   by_cases hge : 128 ≤ c.toNat
   ·skip
    refine aw_seq ?_
    refine aw_seq ?_
    refine aw_region ?_
    refine st_p (mv rfl) rfl ?_
    refine st_p (OpP.conv (op_le rfl rfl) (yes (by first | assumption | omega))) rfl ?_
    refine st_p (mv rfl) rfl ?_
    refine st_pg rfl rfl rfl (mv rfl) rfl ?_
    refine st_pg rfl rfl rfl (mv rfl) rfl ?_
    refine st_pg rfl rfl rfl (op_len Try.underlying22 rfl) rfl ?_
    refine st_pg rfl rfl rfl (OpP.conv (op_le rfl rfl) (yes (by first | assumption | omega))) rfl ?_
    refine st_p (pkT rfl rfl) rfl ?_
    refine al_nil ?_
    refine nm ?_
    refine aw_yes (rfl) ?_
    refine aw_skip ?_
    refine nm ?_
    refine aw_seq ?_
    refine aw_block ?_
    refine aw_seq ?_
    refine aw_seq ?_
    refine aw_region ?_
    refine st_p (mv rfl) rfl ?_
    refine st_p (mv rfl) rfl ?_
    refine st_p (op_subi rfl rfl (by omega)) rfl ?_
    refine st_p (op_indexAddrL Try.underlying22 z5 rfl rfl (by omega) (by first | assumption | rfl)) rfl ?_
    refine st_p (op_load1L Try.underlying5 rfl rfl rfl) rfl ?_
    refine st_p (OpP.conv (op_ge rfl rfl) (yes (by first | assumption | omega))) rfl ?_
    refine al_nil ?_
    refine nm ?_
    refine aw_yes (rfl) ?_
    refine aw_exit ?_
    refine xs ?_
    refine xb ?_
    refine nm ?_
    refine aw_region ?_
    refine st_p (mv rfl) rfl ?_
    refine st_p (op_addi rfl rfl (by omega)) rfl ?_
    refine st_p (mva rfl) rfl ?_
    refine al_nil ?_
    refine nm ?_
    exact ⟨⟨k + 1, hlt, h9, fun j x hj hx => by
     rcases Nat.lt_succ_iff_lt_or_eq.1 hj with h | rfl
     ·exact ha j x h hx
     ·rw [hc] at hx; obtain rfl := Option.some.inj hx; exact hge⟩, by dsimp only; omega, le_to [] rfl rfl rfl rfl rfl ⟨rfl, rfl, rfl, rfl, rfl, trivial⟩ trivial⟩
   ·have href := takeNum_ref h9 hc ha (by omega)
    generalize hp : l.take (k + 1) = p at href
    have hpl : p.length = k + 1 := by rw [← hp]; simp; omega
    refine aw_seq ?_
    refine aw_seq ?_
    refine aw_region ?_
    refine st_p (mv rfl) rfl ?_
    refine st_p (OpP.conv (op_le rfl rfl) (yes (by first | assumption | omega))) rfl ?_
    refine st_p (mv rfl) rfl ?_
    refine st_pg rfl rfl rfl (mv rfl) rfl ?_
    refine st_pg rfl rfl rfl (mv rfl) rfl ?_
    refine st_pg rfl rfl rfl (op_len Try.underlying22 rfl) rfl ?_
    refine st_pg rfl rfl rfl (OpP.conv (op_le rfl rfl) (yes (by first | assumption | omega))) rfl ?_
    refine st_p (pkT rfl rfl) rfl ?_
    refine al_nil ?_
    refine nm ?_
    refine aw_yes (rfl) ?_
    refine aw_skip ?_
    refine nm ?_
    refine aw_seq ?_
    refine aw_block ?_
    refine aw_seq ?_
    refine aw_seq ?_
    refine aw_region ?_
    refine st_p (mv rfl) rfl ?_
    refine st_p (mv rfl) rfl ?_
    refine st_p (op_subi rfl rfl (by omega)) rfl ?_
    refine st_p (op_indexAddrL Try.underlying22 z5 rfl rfl (by omega) (by first | assumption | rfl)) rfl ?_
    refine st_p (op_load1L Try.underlying5 rfl rfl rfl) rfl ?_
    refine st_p (OpP.conv (op_ge rfl rfl) (no (by first | assumption | omega))) rfl ?_
    refine al_nil ?_
    refine nm ?_
    refine aw_no (rfl) ?_
    refine aw_skip ?_
    refine nm ?_
    refine aw_seq ?_
    refine aw_region ?_
    refine st_p (mva rfl) rfl ?_
    refine al_nil ?_
    refine nm ?_
    refine aw_seq ?_
    refine aw_seq ?_
    refine aw_region ?_
    refine st_p (mv rfl) rfl ?_
    refine st_p (op_subi rfl rfl (by omega)) rfl ?_
    refine st_p (mva rfl) rfl ?_
    refine al_nil ?_
    refine nm ?_
    refine aw_block ?_
    refine aw_loop (fun i : {i : Nat // i ≤ k + 1} => ⟨[(0, .sl 1 (bl l)), (2, .int .i64 0), (3, .int .i64 0), (4, .bool false), (5, .int .i64 (k + 1 : Nat)), (6, .int .i64 (dec (p.drop i.1))), (7, .int .i64 ((i.1 : Int) - 1))], [], 0⟩) (fun i => i.1) ⟨k + 1, Nat.le_refl _⟩ ?_ ?_
    ·refine le_to [] rfl rfl rfl rfl rfl ⟨rfl, rfl, rfl, rfl, rfl, ?_, ?_, trivial⟩ trivial
     ·show AV.int .i64 0 = AV.int .i64 ((dec (p.drop (k + 1)) : Nat) : Int)
      rw [List.drop_of_length_le (by omega)]; rfl
     ·rfl
    ·rintro ⟨i, hi⟩
     dsimp only
     by_cases hpos : 0 < i
     ·obtain ⟨x, hx⟩ : ∃ x, l[i - 1]? = some x := ⟨_, List.getElem?_eq_getElem (by omega)⟩
      have hxb : (bl l)[((i : Int) - 1).toNat]? = some (.int .u8 (x.toNat : Int)) := by rw [show ((i : Int) - 1).toNat = i - 1 from by omega]; simp [bl, hx]
      have hdl := dec_lt (p.drop i)
      have hpw : 128 ^ (p.drop i).length ≤ 128 ^ 8 := Nat.pow_le_pow_right (by decide) (by rw [List.length_drop]; omega)
      have e8 : (128 : Nat) ^ 8 = 72057594037927936 := rfl
      have hdb : dec (p.drop i) < 72057594037927936 := by omega
      have hxp : p[i - 1]? = some x := by rw [← hp, List.getElem?_take_of_lt (by omega)]; exact hx
      have hdr : p.drop (i - 1) = x :: p.drop i := by
       have hlt' : i - 1 < p.length := by omega
       rw [List.drop_eq_getElem_cons hlt']; rw [List.getElem?_eq_getElem hlt'] at hxp; rw [Option.some.inj hxp, show i - 1 + 1 = i from by omega]
      refine aw_seq ?_
      refine aw_seq ?_
      refine aw_region ?_
      refine st_p (mv rfl) rfl ?_
      refine st_p (OpP.conv (op_ge rfl rfl) (yes (by first | assumption | omega))) rfl ?_
      refine al_nil ?_
      refine nm ?_
      refine aw_yes (rfl) ?_
      refine aw_skip ?_
      refine nm ?_
      refine aw_seq ?_
      refine aw_block ?_
      refine aw_region ?_
      refine st_p (mv rfl) rfl ?_
      refine st_p (op_muli rfl rfl (by omega)) rfl ?_
      refine st_p (mv rfl) rfl ?_
      refine st_p (mv rfl) rfl ?_
      refine st_p (op_indexAddrL Try.underlying22 z5 rfl rfl (by omega) (by first | assumption | rfl)) rfl ?_
      refine st_p (op_load1L Try.underlying5 rfl rfl rfl) rfl ?_
      refine st_p (op_remi rfl rfl (by omega) (by omega)) rfl ?_
      refine st_p (op_convi (by rw [Try.underlying5]; rfl) Try.underlying3 rfl (by omega)) rfl ?_
      refine st_p (op_addi rfl rfl (by omega)) rfl ?_
      refine st_p (mva rfl) rfl ?_
      refine al_nil ?_
      refine nmb ?_
      refine nm ?_
      refine aw_region ?_
      refine st_p (mv rfl) rfl ?_
      refine st_p (op_subi rfl rfl (by omega)) rfl ?_
      refine st_p (mva rfl) rfl ?_
      refine al_nil ?_
      refine nm ?_
      refine ⟨⟨i - 1, by omega⟩, by dsimp only; omega, le_to [] rfl rfl rfl rfl rfl ⟨rfl, rfl, rfl, rfl, rfl, ?_, ?_, trivial⟩ trivial⟩
      ·show AV.int .i64 (((dec (p.drop i) : Nat) : Int) * 128 + (x.toNat : Int) % 128) = AV.int .i64 ((dec (p.drop (i - 1)) : Nat) : Int)
       rw [hdr, dec]
       congr 1
       omega
      ·show AV.int .i64 ((i : Int) - 1 - 1) = AV.int .i64 (((i - 1 : Nat) : Int) - 1)
       congr 1
       omega
     ·have hi0 : i = 0 := by omega
      subst hi0
      rw [List.drop_zero]
      have hdl := dec_lt p
      have hpw : 128 ^ p.length ≤ 128 ^ 9 := Nat.pow_le_pow_right (by decide) (by omega)
      have e9 : (128 : Nat) ^ 9 = 9223372036854775808 := rfl
      have hput := ref_PutNum ((dec p : Nat) : Int) (by omega) (by omega)
      rw [Int.toNat_natCast] at hput
      have htk : ((l.drop (0 : Int).toNat).take ((((k + 1 : Nat) : Int)).toNat - (0 : Int).toNat)) = p := by rw [← hp]; rfl
      by_cases hcan : putNum (dec p) = p
      ·rw [if_pos hcan] at href
       refine aw_seq ?_
       refine aw_seq ?_
       refine aw_region ?_
       refine st_p (mv rfl) rfl ?_
       refine st_p (OpP.conv (op_ge rfl rfl) (no (by first | assumption | omega))) rfl ?_
       refine al_nil ?_
       refine nm ?_
       refine aw_no (rfl) ?_
       refine aw_exit ?_
       refine xs ?_
       refine xs ?_
       refine xb ?_
       refine nm ?_
       refine aw_seq ?_
       refine aw_seq ?_
       refine dr_go ?_
       refine dr_f 0 0 [6] rfl (fun H => mv rfl) ?_
       refine dr_fq 0 0 [39] rfl (fun H => op_callq (hput) Try.func52 ⟨rfl, rfl⟩ rfl rfl (fun nx => (.cons (.same (by rfl)) .nil)) (by rintro _ _ _ ⟨rfl, rfl, rfl⟩; exact .whole rfl (by simp) (by first | rfl | simp [AV.plain, plains, bl_plain]))) ?_
       refine dr_q 0 0 [40] rfl (op_toStr Try.underlying22 Try.underlying5 Try.underlying9 rfl (.sl (.inr trivial)) rfl) ?_
       refine dr_f 0 0 [0] rfl (fun H => mv rfl) ?_
       refine dr_f 0 0 [5] rfl (fun H => mv rfl) ?_
       refine dr_q 0 0 [42, 43] rfl (op_sliceL Try.underlying22 z5 rfl (by exact rfl) (by exact ⟨_, rfl⟩) (by first | omega | (simp only [bl_len, List.length_map, List.length_append, List.length_take, List.length_drop]; omega)) (by first | omega | (simp only [bl_len, List.length_map, List.length_append, List.length_take, List.length_drop]; omega)) (by first | omega | (simp only [bl_len, List.length_map, List.length_append, List.length_take, List.length_drop]; omega))) ?_
       refine dr_q 0 0 [44] rfl (op_toStr Try.underlying22 Try.underlying5 Try.underlying9 rfl (.sl (.inr trivial)) (by simp only [bl_take, bl_drop, bl_app, List.take_length, List.drop_zero, List.take_nil, List.drop_nil]; rfl)) ?_
       refine dr_f 0 0 [41, 45] rfl (fun H => op_nes rfl rfl) ?_
       refine dr_end [] (by kernel_rfl) (by kernel_rfl) (by kernel_rfl) (by kernel_rfl) trivial ?_
       refine nm ?_
       refine aw_no (by show AV.bool (decide (putNum (dec p) ≠ _)) = _; rw [decide_eq_false]; exact fun h => h (hcan.trans htk.symm)) ?_
       refine aw_skip ?_
       refine nm ?_
       refine aw_seq ?_
       refine aw_region ?_
       refine st_p (mv rfl) rfl ?_
       refine st_p (mv rfl) rfl ?_
       refine st_p (mva rfl) rfl ?_
       refine st_p (mva rfl) rfl ?_
       refine st_p (mva rfl) rfl ?_
       refine al_nil ?_
       refine nm ?_
       refine aw_ret ?_
       refine rb ?_
       refine rs ?_
       refine rs ?_
       refine rb ?_
       refine rs ?_
       refine ret_a ⟨[(2, .int .i64 (dec p : Nat)), (3, .int .i64 (k + 1 : Nat)), (4, .bool true)], [], 0⟩ (le_to [] rfl rfl rfl rfl rfl ⟨rfl, rfl, rfl, trivial⟩ trivial) (res3 Try.results92) (.inr ⟨rfl, rfl⟩) ⟨by rw [href]; rfl, rfl, rfl⟩
      ·rw [if_neg hcan] at href
       refine aw_seq ?_
       refine aw_seq ?_
       refine aw_region ?_
       refine st_p (mv rfl) rfl ?_
       refine st_p (OpP.conv (op_ge rfl rfl) (no (by first | assumption | omega))) rfl ?_
       refine al_nil ?_
       refine nm ?_
       refine aw_no (rfl) ?_
       refine aw_exit ?_
       refine xs ?_
       refine xs ?_
       refine xb ?_
       refine nm ?_
       refine aw_seq ?_
       refine aw_seq ?_
       refine dr_go ?_
       refine dr_f 0 0 [6] rfl (fun H => mv rfl) ?_
       refine dr_fq 0 0 [39] rfl (fun H => op_callq (hput) Try.func52 ⟨rfl, rfl⟩ rfl rfl (fun nx => (.cons (.same (by rfl)) .nil)) (by rintro _ _ _ ⟨rfl, rfl, rfl⟩; exact .whole rfl (by simp) (by first | rfl | simp [AV.plain, plains, bl_plain]))) ?_
       refine dr_q 0 0 [40] rfl (op_toStr Try.underlying22 Try.underlying5 Try.underlying9 rfl (.sl (.inr trivial)) rfl) ?_
       refine dr_f 0 0 [0] rfl (fun H => mv rfl) ?_
       refine dr_f 0 0 [5] rfl (fun H => mv rfl) ?_
       refine dr_q 0 0 [42, 43] rfl (op_sliceL Try.underlying22 z5 rfl (by exact rfl) (by exact ⟨_, rfl⟩) (by first | omega | (simp only [bl_len, List.length_map, List.length_append, List.length_take, List.length_drop]; omega)) (by first | omega | (simp only [bl_len, List.length_map, List.length_append, List.length_take, List.length_drop]; omega)) (by first | omega | (simp only [bl_len, List.length_map, List.length_append, List.length_take, List.length_drop]; omega))) ?_
       refine dr_q 0 0 [44] rfl (op_toStr Try.underlying22 Try.underlying5 Try.underlying9 rfl (.sl (.inr trivial)) (by simp only [bl_take, bl_drop, bl_app, List.take_length, List.drop_zero, List.take_nil, List.drop_nil]; rfl)) ?_
       refine dr_f 0 0 [41, 45] rfl (fun H => op_nes rfl rfl) ?_
       refine dr_end [] (by kernel_rfl) (by kernel_rfl) (by kernel_rfl) (by kernel_rfl) trivial ?_
       refine nm ?_
       refine aw_yes (by show AV.bool (decide (putNum (dec p) ≠ _)) = _; rw [decide_eq_true]; exact fun h => hcan (h.trans htk)) ?_
       refine aw_seq ?_
       refine aw_region ?_
       refine st_p (mva rfl) rfl ?_
       refine st_p (mva rfl) rfl ?_
       refine st_p (mva rfl) rfl ?_
       refine al_nil ?_
       refine nm ?_
       refine aw_ret ?_
       refine rs ?_
       refine rb ?_
       refine rs ?_
       refine rs ?_
       refine rb ?_
       refine rs ?_
       refine ret_a ⟨[(2, .int .i64 0), (3, .int .i64 0), (4, .bool false)], [], 0⟩ (le_to [] rfl rfl rfl rfl rfl ⟨rfl, rfl, rfl, trivial⟩ trivial) (res3 Try.results92) (.inr ⟨rfl, rfl⟩) ⟨by rw [href]; rfl, rfl, rfl⟩
  ·have hnone : takeNum l = none := takeN_none _ _ _ (fun x hx => by
    obtain ⟨j, hj, hx⟩ := List.mem_iff_getElem.1 hx
    have hj2 : j < 9 ∧ j < l.length := by simp at hj; omega
    exact ha j x (by omega) (by rw [← hx, List.getElem_take]; exact List.getElem?_eq_getElem _))
   by_cases h9 : k < 9
   ·skip
    refine aw_seq ?_
    refine aw_seq ?_
    refine aw_region ?_
    refine st_p (mv rfl) rfl ?_
    refine st_p (OpP.conv (op_le rfl rfl) (yes (by first | assumption | omega))) rfl ?_
    refine st_p (mv rfl) rfl ?_
    refine st_pg rfl rfl rfl (mv rfl) rfl ?_
    refine st_pg rfl rfl rfl (mv rfl) rfl ?_
    refine st_pg rfl rfl rfl (op_len Try.underlying22 rfl) rfl ?_
    refine st_pg rfl rfl rfl (OpP.conv (op_le rfl rfl) (no (by first | assumption | omega))) rfl ?_
    refine st_p (pkT rfl rfl) rfl ?_
    refine al_nil ?_
    refine nm ?_
    refine aw_no (rfl) ?_
    refine aw_exit ?_
    refine xs ?_
    refine xs ?_
    refine xb ?_
    refine nm ?_
    refine aw_seq ?_
    refine aw_region ?_
    refine st_p (mva rfl) rfl ?_
    refine st_p (mva rfl) rfl ?_
    refine st_p (mva rfl) rfl ?_
    refine al_nil ?_
    refine nm ?_
    refine aw_ret ?_
    exact ret_v (res3 Try.results92) (.inr ⟨rfl, rfl⟩) ⟨by rw [hnone]; rfl, rfl, rfl⟩
   ·skip
    refine aw_seq ?_
    refine aw_seq ?_
    refine aw_region ?_
    refine st_p (mv rfl) rfl ?_
    refine st_p (OpP.conv (op_le rfl rfl) (no (by first | assumption | omega))) rfl ?_
    refine st_p (mv rfl) rfl ?_
    refine st_s rfl rfl rfl rfl rfl ?_
    refine st_s rfl rfl rfl rfl rfl ?_
    refine st_s rfl rfl rfl rfl rfl ?_
    refine st_s rfl rfl rfl rfl rfl ?_
    refine st_p (pkF rfl rfl) rfl ?_
    refine al_nil ?_
    refine nm ?_
    refine aw_no (rfl) ?_
    refine aw_exit ?_
    refine xs ?_
    refine xs ?_
    refine xb ?_
    refine nm ?_
    refine aw_seq ?_
    refine aw_region ?_
    refine st_p (mva rfl) rfl ?_
    refine st_p (mva rfl) rfl ?_
    refine st_p (mva rfl) rfl ?_
    refine al_nil ?_
    refine nm ?_
    refine aw_ret ?_
    exact ret_v (res3 Try.results92) (.inr ⟨rfl, rfl⟩) ⟨by rw [hnone]; rfl, rfl, rfl⟩

end Go.Proofs.Ytpggknkhldecaaa.Abs
end
section
namespace Go.Proofs.Ytpggknkhldecaaa.Abs

theorem ref_PutText (s : List UInt8) (hs : s.length ≤ 255) : AC Try.prog 53 [sb s] [] 0 false (fun r h nx => r = .own 0 0 (putText s).length ∧ h = [(0, .cells 1 (bl (putText s)))] ∧ nx = 1) := by
 have hle := putNum_le s.length (by omega)
 refine ac_fn Try.func53 rfl rfl rfl rfl (fun w0 S0 r0 => ?_)
 refine aw_seq ?_
 refine aw_region ?_
 refine st_p (mva rfl) rfl ?_
 refine al_nil ?_
 refine nm ?_
 refine aw_seq ?_
 refine aw_seq ?_
 refine aw_region ?_
 refine st_p (mv rfl) rfl ?_
 refine st_p (op_lens Try.underlying9 rfl) rfl ?_
 refine st_p (OpP.conv (op_gt rfl rfl) (no (by first | assumption | omega))) rfl ?_
 refine al_nil ?_
 refine nm ?_
 refine aw_no (rfl) ?_
 refine aw_skip ?_
 refine nm ?_
 refine aw_seq ?_
 refine aw_region ?_
 refine st_p (mv rfl) rfl ?_
 refine st_p (op_lens Try.underlying9 rfl) rfl ?_
 refine st_call0 (ref_PutNum (s.length : Int) (by omega) (by omega)) Try.func52 ⟨rfl, rfl⟩ rfl (.cons (.same (by rfl)) .nil) rfl ?_
 rintro _ _ _ ⟨rfl, rfl, rfl⟩ r2 h2 n2 hr hh hn
 simp only [AV.ren, rens, Blk.ren, swp, List.map_cons, List.map_nil, List.cons_append, List.nil_append, List.append_nil, Nat.not_lt_zero, if_false, Nat.reduceAdd, Nat.zero_add, Nat.add_zero, ren_bl, Int.toNat_natCast] at hr hh hn
 subst hr hh hn
 refine st_p (mv rfl) rfl ?_
 refine st_o (op_app Try.underlying22 Try.underlying9 (.inr rfl) i5 o5 rfl rfl rfl (by first | rfl | omega | (simp; done) | (simp; omega)) (SrcStr.ok rfl) (by first | omega | (simp; try omega)) rfl) rfl ?_
 refine st_p (mva rfl) rfl ?_
 refine al_nil ?_
 refine nm ?_
 refine aw_ret ?_
 refine ret_a ⟨[(2, .own 0 0 (putText s).length)], [(0, .cells 1 (bl (putText s)))], 1⟩ (le_to [(0, 1)] rfl rfl rfl rfl rfl ⟨?_, trivial⟩ ⟨?_, trivial⟩) (res1 Try.results53) (.inr ⟨rfl, ?_⟩) ⟨rfl, rfl, rfl⟩
 ·simp [AV.ren, tget, swp, putText, bl]
 ·simp only [Blk.ren, hget, swp, ren_bl, putText, bl_app]; rfl
 ·simp [Blk.nosl, AV.nosl, bl]

theorem ref_TakeText (l : List UInt8) (hl : l.length ≤ 281474976710656) : AC Try.prog 93 [.sl 1 (bl l)] [] 0 false (fun r h nx => r = textA (takeText l) ∧ h = [] ∧ nx = 0) := by
 have hbl := bl_len l
 refine ac_fn Try.func93 rfl rfl rfl rfl (fun w0 S0 r0 => ?_)
 refine aw_seq ?_
 refine aw_region ?_
 refine st_p (mva rfl) rfl ?_
 refine st_p (mva rfl) rfl ?_
 refine st_p (mva rfl) rfl ?_
 refine al_nil ?_
 refine nm ?_
 refine aw_seq ?_
 refine aw_region ?_
 refine st_p (mv rfl) rfl ?_
 refine st_call0 (ref_TakeNum l hl) Try.func92 ⟨rfl, rfl⟩ rfl (.cons (.same (by rfl)) .nil) rfl ?_
 cases ht : takeNum l with
 | none =>
  rintro _ _ _ ⟨rfl, rfl, rfl⟩ r2 h2 n2 hr hh hn
  simp only [AV.ren, rens, Blk.ren, swp, List.map_cons, List.map_nil, List.cons_append, List.nil_append, List.append_nil, Nat.not_lt_zero, if_false, Nat.reduceAdd, Nat.zero_add, Nat.add_zero, ren_bl, numA] at hr hh hn
  subst hr hh hn
  refine st_p (mv rfl) rfl ?_
  refine st_p (op_extract rfl rfl) rfl ?_
  refine st_p (op_extract rfl rfl) rfl ?_
  refine st_p (op_extract rfl rfl) rfl ?_
  refine st_p (mva rfl) rfl ?_
  refine st_p (mva rfl) rfl ?_
  refine st_p (mva rfl) rfl ?_
  refine al_nil ?_
  refine nm ?_
  refine aw_seq ?_
  refine aw_seq ?_
  refine aw_region ?_
  refine st_p (mv rfl) rfl ?_
  refine st_p (op_notF rfl) rfl ?_
  refine st_p (mv rfl) rfl ?_
  refine st_s rfl rfl rfl rfl rfl ?_
  refine st_s rfl rfl rfl rfl rfl ?_
  refine st_p (pkT rfl rfl) rfl ?_
  refine st_p (mv rfl) rfl ?_
  refine st_s rfl rfl rfl rfl rfl ?_
  refine st_s rfl rfl rfl rfl rfl ?_
  refine st_s rfl rfl rfl rfl rfl ?_
  refine st_s rfl rfl rfl rfl rfl ?_
  refine st_s rfl rfl rfl rfl rfl ?_
  refine st_s rfl rfl rfl rfl rfl ?_
  refine st_p (pkT rfl rfl) rfl ?_
  refine al_nil ?_
  refine nm ?_
  refine aw_yes (rfl) ?_
  refine aw_seq ?_
  refine aw_region ?_
  refine st_p (mva rfl) rfl ?_
  refine st_p (mva rfl) rfl ?_
  refine st_p (mva rfl) rfl ?_
  refine al_nil ?_
  refine nm ?_
  refine aw_ret ?_
  refine rs ?_
  exact ret_v (res3 Try.results93) (.inr ⟨rfl, rfl⟩) ⟨by unfold takeText; rw [ht]; rfl, rfl, rfl⟩
 | some vn =>
  obtain ⟨v, n⟩ := vn
  obtain ⟨h1, h2, h3, h4⟩ := takeNum_spec ht
  by_cases hv : v ≤ 255
  ·by_cases hn : v + n ≤ l.length
   ·have e : takeText l = some ((l.drop n).take v, n + v) := by unfold takeText; rw [ht]; exact if_pos ⟨hv, hn⟩
    rintro _ _ _ ⟨rfl, rfl, rfl⟩ r2 h2 n2 hr hh hn
    simp only [AV.ren, rens, Blk.ren, swp, List.map_cons, List.map_nil, List.cons_append, List.nil_append, List.append_nil, Nat.not_lt_zero, if_false, Nat.reduceAdd, Nat.zero_add, Nat.add_zero, ren_bl, numA] at hr hh hn
    subst hr hh hn
    refine st_p (mv rfl) rfl ?_
    refine st_p (op_extract rfl rfl) rfl ?_
    refine st_p (op_extract rfl rfl) rfl ?_
    refine st_p (op_extract rfl rfl) rfl ?_
    refine st_p (mva rfl) rfl ?_
    refine st_p (mva rfl) rfl ?_
    refine st_p (mva rfl) rfl ?_
    refine al_nil ?_
    refine nm ?_
    refine aw_seq ?_
    refine aw_seq ?_
    refine aw_region ?_
    refine st_p (mv rfl) rfl ?_
    refine st_p (op_notT rfl) rfl ?_
    refine st_p (mv rfl) rfl ?_
    refine st_pg rfl rfl rfl (mv rfl) rfl ?_
    refine st_pg rfl rfl rfl (OpP.conv (op_gt rfl rfl) (no (by first | assumption | omega))) rfl ?_
    refine st_p (pkF rfl rfl) rfl ?_
    refine st_p (mv rfl) rfl ?_
    refine st_pg rfl rfl rfl (mv rfl) rfl ?_
    refine st_pg rfl rfl rfl (mv rfl) rfl ?_
    refine st_pg rfl rfl rfl (op_len Try.underlying22 rfl) rfl ?_
    refine st_pg rfl rfl rfl (mv rfl) rfl ?_
    refine st_pg rfl rfl rfl (op_subi rfl rfl (by omega)) rfl ?_
    refine st_pg rfl rfl rfl (OpP.conv (op_gt rfl rfl) (no (by first | assumption | omega))) rfl ?_
    refine st_p (pkF rfl rfl) rfl ?_
    refine al_nil ?_
    refine nm ?_
    refine aw_no (rfl) ?_
    refine aw_skip ?_
    refine nm ?_
    refine aw_seq ?_
    refine aw_region ?_
    refine st_p (mv rfl) rfl ?_
    refine st_p (mv rfl) rfl ?_
    refine st_p (mv rfl) rfl ?_
    refine st_p (mv rfl) rfl ?_
    refine st_p (op_addi rfl rfl (by omega)) rfl ?_
    refine st_p (op_sliceL Try.underlying22 z5 rfl (by exact ⟨_, rfl⟩) (by exact ⟨_, rfl⟩) (by first | omega | (simp only [bl_len, List.length_map, List.length_append, List.length_take, List.length_drop]; omega)) (by first | omega | (simp only [bl_len, List.length_map, List.length_append, List.length_take, List.length_drop]; omega)) (by first | omega | (simp only [bl_len, List.length_map, List.length_append, List.length_take, List.length_drop]; omega))) rfl ?_
    refine st_p (op_toStr Try.underlying22 Try.underlying5 Try.underlying9 rfl (.sl (.inr trivial)) (by simp only [bl_take, bl_drop, bl_app, List.take_length, List.drop_zero, List.take_nil, List.drop_nil]; rfl)) rfl ?_
    refine st_p (mv rfl) rfl ?_
    refine st_p (mv rfl) rfl ?_
    refine st_p (op_addi rfl rfl (by omega)) rfl ?_
    refine st_p (mva rfl) rfl ?_
    refine st_p (mva rfl) rfl ?_
    refine st_p (mva rfl) rfl ?_
    refine al_nil ?_
    refine nm ?_
    refine aw_ret ?_
    refine ret_a ⟨[(2, sb ((l.drop n).take v)), (3, .int .i64 (n + v : Nat)), (4, .bool true)], [], 0⟩ (le_to [] rfl rfl rfl rfl rfl ⟨?_, rfl, rfl, trivial⟩ trivial) (res3 Try.results93) (.inr ⟨rfl, rfl⟩) ⟨by rw [e]; rfl, rfl, rfl⟩
    show sb ((l.drop (n : Int).toNat).take (((n : Int) + (v : Int)).toNat - (n : Int).toNat)) = sb ((l.drop n).take v)
    rw [show ((n : Int) + (v : Int)).toNat - (n : Int).toNat = v from by omega]; rfl
   ·have e : takeText l = none := by unfold takeText; rw [ht]; exact if_neg (fun h => hn h.2)
    rintro _ _ _ ⟨rfl, rfl, rfl⟩ r2 h2 n2 hr hh hn
    simp only [AV.ren, rens, Blk.ren, swp, List.map_cons, List.map_nil, List.cons_append, List.nil_append, List.append_nil, Nat.not_lt_zero, if_false, Nat.reduceAdd, Nat.zero_add, Nat.add_zero, ren_bl, numA] at hr hh hn
    subst hr hh hn
    refine st_p (mv rfl) rfl ?_
    refine st_p (op_extract rfl rfl) rfl ?_
    refine st_p (op_extract rfl rfl) rfl ?_
    refine st_p (op_extract rfl rfl) rfl ?_
    refine st_p (mva rfl) rfl ?_
    refine st_p (mva rfl) rfl ?_
    refine st_p (mva rfl) rfl ?_
    refine al_nil ?_
    refine nm ?_
    refine aw_seq ?_
    refine aw_seq ?_
    refine aw_region ?_
    refine st_p (mv rfl) rfl ?_
    refine st_p (op_notT rfl) rfl ?_
    refine st_p (mv rfl) rfl ?_
    refine st_pg rfl rfl rfl (mv rfl) rfl ?_
    refine st_pg rfl rfl rfl (OpP.conv (op_gt rfl rfl) (no (by first | assumption | omega))) rfl ?_
    refine st_p (pkF rfl rfl) rfl ?_
    refine st_p (mv rfl) rfl ?_
    refine st_pg rfl rfl rfl (mv rfl) rfl ?_
    refine st_pg rfl rfl rfl (mv rfl) rfl ?_
    refine st_pg rfl rfl rfl (op_len Try.underlying22 rfl) rfl ?_
    refine st_pg rfl rfl rfl (mv rfl) rfl ?_
    refine st_pg rfl rfl rfl (op_subi rfl rfl (by omega)) rfl ?_
    refine st_pg rfl rfl rfl (OpP.conv (op_gt rfl rfl) (yes (by first | assumption | omega))) rfl ?_
    refine st_p (pkF rfl rfl) rfl ?_
    refine al_nil ?_
    refine nm ?_
    refine aw_yes (rfl) ?_
    refine aw_seq ?_
    refine aw_region ?_
    refine st_p (mva rfl) rfl ?_
    refine st_p (mva rfl) rfl ?_
    refine st_p (mva rfl) rfl ?_
    refine al_nil ?_
    refine nm ?_
    refine aw_ret ?_
    refine rs ?_
    exact ret_v (res3 Try.results93) (.inr ⟨rfl, rfl⟩) ⟨by rw [e]; rfl, rfl, rfl⟩
  ·have e : takeText l = none := by unfold takeText; rw [ht]; exact if_neg (fun h => hv h.1)
   rintro _ _ _ ⟨rfl, rfl, rfl⟩ r2 h2 n2 hr hh hn
   simp only [AV.ren, rens, Blk.ren, swp, List.map_cons, List.map_nil, List.cons_append, List.nil_append, List.append_nil, Nat.not_lt_zero, if_false, Nat.reduceAdd, Nat.zero_add, Nat.add_zero, ren_bl, numA] at hr hh hn
   subst hr hh hn
   refine st_p (mv rfl) rfl ?_
   refine st_p (op_extract rfl rfl) rfl ?_
   refine st_p (op_extract rfl rfl) rfl ?_
   refine st_p (op_extract rfl rfl) rfl ?_
   refine st_p (mva rfl) rfl ?_
   refine st_p (mva rfl) rfl ?_
   refine st_p (mva rfl) rfl ?_
   refine al_nil ?_
   refine nm ?_
   refine aw_seq ?_
   refine aw_seq ?_
   refine aw_region ?_
   refine st_p (mv rfl) rfl ?_
   refine st_p (op_notT rfl) rfl ?_
   refine st_p (mv rfl) rfl ?_
   refine st_pg rfl rfl rfl (mv rfl) rfl ?_
   refine st_pg rfl rfl rfl (OpP.conv (op_gt rfl rfl) (yes (by first | assumption | omega))) rfl ?_
   refine st_p (pkF rfl rfl) rfl ?_
   refine st_p (mv rfl) rfl ?_
   refine st_s rfl rfl rfl rfl rfl ?_
   refine st_s rfl rfl rfl rfl rfl ?_
   refine st_s rfl rfl rfl rfl rfl ?_
   refine st_s rfl rfl rfl rfl rfl ?_
   refine st_s rfl rfl rfl rfl rfl ?_
   refine st_s rfl rfl rfl rfl rfl ?_
   refine st_p (pkT rfl rfl) rfl ?_
   refine al_nil ?_
   refine nm ?_
   refine aw_yes (rfl) ?_
   refine aw_seq ?_
   refine aw_region ?_
   refine st_p (mva rfl) rfl ?_
   refine st_p (mva rfl) rfl ?_
   refine st_p (mva rfl) rfl ?_
   refine al_nil ?_
   refine nm ?_
   refine aw_ret ?_
   refine rs ?_
   exact ret_v (res3 Try.results93) (.inr ⟨rfl, rfl⟩) ⟨by rw [e]; rfl, rfl, rfl⟩

end Go.Proofs.Ytpggknkhldecaaa.Abs
end
section
namespace Go.Proofs.Ytpggknkhldecaaa.Abs

structure RD where
 key : List UInt8
 ver : Int
 val : List UInt8
 there : Bool
structure WR where
 key : List UInt8
 val : List UInt8
 gone : Bool
structure TX where
 ses : Int
 seq : Int
 reads : List RD
 writes : List WR

def rdA (r : RD) : AV := .agg [sb r.key, .int .i64 r.ver, sb r.val, .bool r.there]
def wrA (w : WR) : AV := .agg [sb w.key, sb w.val, .bool w.gone]
def txA (t : TX) : AV := .agg [.int .i64 t.ses, .int .i64 t.seq, .sl 4 (t.reads.map rdA), .sl 3 (t.writes.map wrA)]

def readB (r : RD) : Bool := !(!r.there && decide (r.val ≠ []) || r.there && decide (r.ver = 0)) && (decide (0 ≤ r.ver) && decide (r.val.length ≤ 16))
def writeB (w : WR) : Bool := decide (w.val.length ≤ 16) && (!w.gone || decide (w.val = []))

theorem txn_read (r : RD) : AC Try.prog 43 [rdA r] [] 0 false (fun v h nx => v = .bool (readB r) ∧ h = [] ∧ nx = 0) := by
 obtain ⟨k, ver, val, there⟩ := r
 dsimp only [rdA]
 cases there with
 | false =>
  by_cases h1 : val = []
  ·subst h1
   by_cases h2 : 0 ≤ ver
   ·skip
    refine ac_fn Try.func43 rfl rfl rfl rfl (fun w0 S0 r0 => ?_)
    refine aw_seq ?_
    refine aw_region ?_
    refine st_o (bx rfl rfl) rfl ?_
    refine st_p (mva rfl) rfl ?_
    refine al_nil ?_
    refine nm ?_
    refine aw_seq ?_
    refine aw_seq ?_
    refine aw_region ?_
    refine st_p (op_fieldAddr Try.underlying67 rfl z4 (by decide) rfl) rfl ?_
    refine st_p (op_load1 Try.underlying4 rfl rfl rfl rfl rfl) rfl ?_
    refine st_p (op_notF rfl) rfl ?_
    refine st_p (mv rfl) rfl ?_
    refine st_pg rfl rfl rfl (op_fieldAddr Try.underlying67 rfl z9 (by decide) rfl) rfl ?_
    refine st_pg rfl rfl rfl (op_load1 Try.underlying9 rfl rfl rfl rfl rfl) rfl ?_
    refine st_pg rfl rfl rfl (op_nes rfl rfl) rfl ?_
    refine st_p (pkT rfl rfl) rfl ?_
    refine st_p (mv rfl) rfl ?_
    refine st_pg rfl rfl rfl (op_fieldAddr Try.underlying67 rfl z4 (by decide) rfl) rfl ?_
    refine st_pg rfl rfl rfl (op_load1 Try.underlying4 rfl rfl rfl rfl rfl) rfl ?_
    refine st_pg rfl rfl rfl (mv rfl) rfl ?_
    refine st_s rfl rfl rfl rfl rfl ?_
    refine st_s rfl rfl rfl rfl rfl ?_
    refine st_s rfl rfl rfl rfl rfl ?_
    refine st_pg rfl rfl rfl (pkF rfl rfl) rfl ?_
    refine st_p (pkF rfl rfl) rfl ?_
    refine al_nil ?_
    refine nm ?_
    refine aw_no (rfl) ?_
    refine aw_skip ?_
    refine nm ?_
    refine aw_seq ?_
    refine aw_region ?_
    refine st_p (op_fieldAddr Try.underlying67 rfl z3 (by decide) rfl) rfl ?_
    refine st_p (op_load1 Try.underlying3 rfl rfl rfl rfl rfl) rfl ?_
    refine st_p (OpP.conv (op_ge rfl rfl) (yes (by first | assumption | omega))) rfl ?_
    refine st_p (mv rfl) rfl ?_
    refine st_pg rfl rfl rfl (op_fieldAddr Try.underlying67 rfl z9 (by decide) rfl) rfl ?_
    refine st_pg rfl rfl rfl (op_load1 Try.underlying9 rfl rfl rfl rfl rfl) rfl ?_
    refine st_pg rfl rfl rfl (op_lens Try.underlying9 rfl) rfl ?_
    refine st_pg rfl rfl rfl (op_le rfl rfl) rfl ?_
    refine st_p (pkT rfl rfl) rfl ?_
    refine st_p (mva rfl) rfl ?_
    refine al_nil ?_
    refine nm ?_
    refine aw_ret ?_
    exact ret_a ⟨[(2, .bool true)], [], 0⟩ (le_to [] rfl rfl rfl rfl rfl ⟨rfl, trivial⟩ trivial) (res1 Try.results43) (.inr ⟨rfl, rfl⟩) ⟨by simp [readB, h2, tget], rfl, rfl⟩
   ·skip
    refine ac_fn Try.func43 rfl rfl rfl rfl (fun w0 S0 r0 => ?_)
    refine aw_seq ?_
    refine aw_region ?_
    refine st_o (bx rfl rfl) rfl ?_
    refine st_p (mva rfl) rfl ?_
    refine al_nil ?_
    refine nm ?_
    refine aw_seq ?_
    refine aw_seq ?_
    refine aw_region ?_
    refine st_p (op_fieldAddr Try.underlying67 rfl z4 (by decide) rfl) rfl ?_
    refine st_p (op_load1 Try.underlying4 rfl rfl rfl rfl rfl) rfl ?_
    refine st_p (op_notF rfl) rfl ?_
    refine st_p (mv rfl) rfl ?_
    refine st_pg rfl rfl rfl (op_fieldAddr Try.underlying67 rfl z9 (by decide) rfl) rfl ?_
    refine st_pg rfl rfl rfl (op_load1 Try.underlying9 rfl rfl rfl rfl rfl) rfl ?_
    refine st_pg rfl rfl rfl (op_nes rfl rfl) rfl ?_
    refine st_p (pkT rfl rfl) rfl ?_
    refine st_p (mv rfl) rfl ?_
    refine st_pg rfl rfl rfl (op_fieldAddr Try.underlying67 rfl z4 (by decide) rfl) rfl ?_
    refine st_pg rfl rfl rfl (op_load1 Try.underlying4 rfl rfl rfl rfl rfl) rfl ?_
    refine st_pg rfl rfl rfl (mv rfl) rfl ?_
    refine st_s rfl rfl rfl rfl rfl ?_
    refine st_s rfl rfl rfl rfl rfl ?_
    refine st_s rfl rfl rfl rfl rfl ?_
    refine st_pg rfl rfl rfl (pkF rfl rfl) rfl ?_
    refine st_p (pkF rfl rfl) rfl ?_
    refine al_nil ?_
    refine nm ?_
    refine aw_no (rfl) ?_
    refine aw_skip ?_
    refine nm ?_
    refine aw_seq ?_
    refine aw_region ?_
    refine st_p (op_fieldAddr Try.underlying67 rfl z3 (by decide) rfl) rfl ?_
    refine st_p (op_load1 Try.underlying3 rfl rfl rfl rfl rfl) rfl ?_
    refine st_p (OpP.conv (op_ge rfl rfl) (no (by first | assumption | omega))) rfl ?_
    refine st_p (mv rfl) rfl ?_
    refine st_s rfl rfl rfl rfl rfl ?_
    refine st_s rfl rfl rfl rfl rfl ?_
    refine st_s rfl rfl rfl rfl rfl ?_
    refine st_s rfl rfl rfl rfl rfl ?_
    refine st_p (pkF rfl rfl) rfl ?_
    refine st_p (mva rfl) rfl ?_
    refine al_nil ?_
    refine nm ?_
    refine aw_ret ?_
    exact ret_a ⟨[(2, .bool false)], [], 0⟩ (le_to [] rfl rfl rfl rfl rfl ⟨rfl, trivial⟩ trivial) (res1 Try.results43) (.inr ⟨rfl, rfl⟩) ⟨by simp [readB, h2, tget], rfl, rfl⟩
  ·skip
   refine ac_fn Try.func43 rfl rfl rfl rfl (fun w0 S0 r0 => ?_)
   refine aw_seq ?_
   refine aw_region ?_
   refine st_o (bx rfl rfl) rfl ?_
   refine st_p (mva rfl) rfl ?_
   refine al_nil ?_
   refine nm ?_
   refine aw_seq ?_
   refine aw_seq ?_
   refine aw_region ?_
   refine st_p (op_fieldAddr Try.underlying67 rfl z4 (by decide) rfl) rfl ?_
   refine st_p (op_load1 Try.underlying4 rfl rfl rfl rfl rfl) rfl ?_
   refine st_p (op_notF rfl) rfl ?_
   refine st_p (mv rfl) rfl ?_
   refine st_pg rfl rfl rfl (op_fieldAddr Try.underlying67 rfl z9 (by decide) rfl) rfl ?_
   refine st_pg rfl rfl rfl (op_load1 Try.underlying9 rfl rfl rfl rfl rfl) rfl ?_
   refine st_pg rfl rfl rfl (OpP.conv (op_nes rfl rfl) (yes (by first | assumption | omega))) rfl ?_
   refine st_p (pkT rfl rfl) rfl ?_
   refine st_p (mv rfl) rfl ?_
   refine st_s rfl rfl rfl rfl rfl ?_
   refine st_s rfl rfl rfl rfl rfl ?_
   refine st_s rfl rfl rfl rfl rfl ?_
   refine st_s rfl rfl rfl rfl rfl ?_
   refine st_s rfl rfl rfl rfl rfl ?_
   refine st_s rfl rfl rfl rfl rfl ?_
   refine st_s rfl rfl rfl rfl rfl ?_
   refine st_p (pkT rfl rfl) rfl ?_
   refine al_nil ?_
   refine nm ?_
   refine aw_yes (rfl) ?_
   refine aw_seq ?_
   refine aw_region ?_
   refine st_p (mva rfl) rfl ?_
   refine al_nil ?_
   refine nm ?_
   refine aw_ret ?_
   refine rs ?_
   exact ret_a ⟨[(2, .bool false)], [], 0⟩ (le_to [] rfl rfl rfl rfl rfl ⟨rfl, trivial⟩ trivial) (res1 Try.results43) (.inr ⟨rfl, rfl⟩) ⟨by simp [readB, h1, tget], rfl, rfl⟩
 | true =>
  by_cases h1 : ver = 0
  ·skip
   refine ac_fn Try.func43 rfl rfl rfl rfl (fun w0 S0 r0 => ?_)
   refine aw_seq ?_
   refine aw_region ?_
   refine st_o (bx rfl rfl) rfl ?_
   refine st_p (mva rfl) rfl ?_
   refine al_nil ?_
   refine nm ?_
   refine aw_seq ?_
   refine aw_seq ?_
   refine aw_region ?_
   refine st_p (op_fieldAddr Try.underlying67 rfl z4 (by decide) rfl) rfl ?_
   refine st_p (op_load1 Try.underlying4 rfl rfl rfl rfl rfl) rfl ?_
   refine st_p (op_notT rfl) rfl ?_
   refine st_p (mv rfl) rfl ?_
   refine st_s rfl rfl rfl rfl rfl ?_
   refine st_s rfl rfl rfl rfl rfl ?_
   refine st_s rfl rfl rfl rfl rfl ?_
   refine st_p (pkF rfl rfl) rfl ?_
   refine st_p (mv rfl) rfl ?_
   refine st_pg rfl rfl rfl (op_fieldAddr Try.underlying67 rfl z4 (by decide) rfl) rfl ?_
   refine st_pg rfl rfl rfl (op_load1 Try.underlying4 rfl rfl rfl rfl rfl) rfl ?_
   refine st_pg rfl rfl rfl (mv rfl) rfl ?_
   refine st_pg rfl rfl rfl (op_fieldAddr Try.underlying67 rfl z3 (by decide) rfl) rfl ?_
   refine st_pg rfl rfl rfl (op_load1 Try.underlying3 rfl rfl rfl rfl rfl) rfl ?_
   refine st_pg rfl rfl rfl (OpP.conv (op_eq rfl rfl) (yes (by first | assumption | omega))) rfl ?_
   refine st_pg rfl rfl rfl (pkT rfl rfl) rfl ?_
   refine st_p (pkF rfl rfl) rfl ?_
   refine al_nil ?_
   refine nm ?_
   refine aw_yes (rfl) ?_
   refine aw_seq ?_
   refine aw_region ?_
   refine st_p (mva rfl) rfl ?_
   refine al_nil ?_
   refine nm ?_
   refine aw_ret ?_
   refine rs ?_
   exact ret_a ⟨[(2, .bool false)], [], 0⟩ (le_to [] rfl rfl rfl rfl rfl ⟨rfl, trivial⟩ trivial) (res1 Try.results43) (.inr ⟨rfl, rfl⟩) ⟨by simp [readB, h1, tget], rfl, rfl⟩
  ·by_cases h2 : 0 ≤ ver
   ·by_cases h3 : val.length ≤ 16
    ·skip
     refine ac_fn Try.func43 rfl rfl rfl rfl (fun w0 S0 r0 => ?_)
     refine aw_seq ?_
     refine aw_region ?_
     refine st_o (bx rfl rfl) rfl ?_
     refine st_p (mva rfl) rfl ?_
     refine al_nil ?_
     refine nm ?_
     refine aw_seq ?_
     refine aw_seq ?_
     refine aw_region ?_
     refine st_p (op_fieldAddr Try.underlying67 rfl z4 (by decide) rfl) rfl ?_
     refine st_p (op_load1 Try.underlying4 rfl rfl rfl rfl rfl) rfl ?_
     refine st_p (op_notT rfl) rfl ?_
     refine st_p (mv rfl) rfl ?_
     refine st_s rfl rfl rfl rfl rfl ?_
     refine st_s rfl rfl rfl rfl rfl ?_
     refine st_s rfl rfl rfl rfl rfl ?_
     refine st_p (pkF rfl rfl) rfl ?_
     refine st_p (mv rfl) rfl ?_
     refine st_pg rfl rfl rfl (op_fieldAddr Try.underlying67 rfl z4 (by decide) rfl) rfl ?_
     refine st_pg rfl rfl rfl (op_load1 Try.underlying4 rfl rfl rfl rfl rfl) rfl ?_
     refine st_pg rfl rfl rfl (mv rfl) rfl ?_
     refine st_pg rfl rfl rfl (op_fieldAddr Try.underlying67 rfl z3 (by decide) rfl) rfl ?_
     refine st_pg rfl rfl rfl (op_load1 Try.underlying3 rfl rfl rfl rfl rfl) rfl ?_
     refine st_pg rfl rfl rfl (OpP.conv (op_eq rfl rfl) (no (by first | assumption | omega))) rfl ?_
     refine st_pg rfl rfl rfl (pkT rfl rfl) rfl ?_
     refine st_p (pkF rfl rfl) rfl ?_
     refine al_nil ?_
     refine nm ?_
     refine aw_no (rfl) ?_
     refine aw_skip ?_
     refine nm ?_
     refine aw_seq ?_
     refine aw_region ?_
     refine st_p (op_fieldAddr Try.underlying67 rfl z3 (by decide) rfl) rfl ?_
     refine st_p (op_load1 Try.underlying3 rfl rfl rfl rfl rfl) rfl ?_
     refine st_p (OpP.conv (op_ge rfl rfl) (yes (by first | assumption | omega))) rfl ?_
     refine st_p (mv rfl) rfl ?_
     refine st_pg rfl rfl rfl (op_fieldAddr Try.underlying67 rfl z9 (by decide) rfl) rfl ?_
     refine st_pg rfl rfl rfl (op_load1 Try.underlying9 rfl rfl rfl rfl rfl) rfl ?_
     refine st_pg rfl rfl rfl (op_lens Try.underlying9 rfl) rfl ?_
     refine st_pg rfl rfl rfl (OpP.conv (op_le rfl rfl) (yes (by first | assumption | omega))) rfl ?_
     refine st_p (pkT rfl rfl) rfl ?_
     refine st_p (mva rfl) rfl ?_
     refine al_nil ?_
     refine nm ?_
     refine aw_ret ?_
     exact ret_a ⟨[(2, .bool true)], [], 0⟩ (le_to [] rfl rfl rfl rfl rfl ⟨rfl, trivial⟩ trivial) (res1 Try.results43) (.inr ⟨rfl, rfl⟩) ⟨by simp [readB, h1, h2, h3, tget], rfl, rfl⟩
    ·skip
     refine ac_fn Try.func43 rfl rfl rfl rfl (fun w0 S0 r0 => ?_)
     refine aw_seq ?_
     refine aw_region ?_
     refine st_o (bx rfl rfl) rfl ?_
     refine st_p (mva rfl) rfl ?_
     refine al_nil ?_
     refine nm ?_
     refine aw_seq ?_
     refine aw_seq ?_
     refine aw_region ?_
     refine st_p (op_fieldAddr Try.underlying67 rfl z4 (by decide) rfl) rfl ?_
     refine st_p (op_load1 Try.underlying4 rfl rfl rfl rfl rfl) rfl ?_
     refine st_p (op_notT rfl) rfl ?_
     refine st_p (mv rfl) rfl ?_
     refine st_s rfl rfl rfl rfl rfl ?_
     refine st_s rfl rfl rfl rfl rfl ?_
     refine st_s rfl rfl rfl rfl rfl ?_
     refine st_p (pkF rfl rfl) rfl ?_
     refine st_p (mv rfl) rfl ?_
     refine st_pg rfl rfl rfl (op_fieldAddr Try.underlying67 rfl z4 (by decide) rfl) rfl ?_
     refine st_pg rfl rfl rfl (op_load1 Try.underlying4 rfl rfl rfl rfl rfl) rfl ?_
     refine st_pg rfl rfl rfl (mv rfl) rfl ?_
     refine st_pg rfl rfl rfl (op_fieldAddr Try.underlying67 rfl z3 (by decide) rfl) rfl ?_
     refine st_pg rfl rfl rfl (op_load1 Try.underlying3 rfl rfl rfl rfl rfl) rfl ?_
     refine st_pg rfl rfl rfl (OpP.conv (op_eq rfl rfl) (no (by first | assumption | omega))) rfl ?_
     refine st_pg rfl rfl rfl (pkT rfl rfl) rfl ?_
     refine st_p (pkF rfl rfl) rfl ?_
     refine al_nil ?_
     refine nm ?_
     refine aw_no (rfl) ?_
     refine aw_skip ?_
     refine nm ?_
     refine aw_seq ?_
     refine aw_region ?_
     refine st_p (op_fieldAddr Try.underlying67 rfl z3 (by decide) rfl) rfl ?_
     refine st_p (op_load1 Try.underlying3 rfl rfl rfl rfl rfl) rfl ?_
     refine st_p (OpP.conv (op_ge rfl rfl) (yes (by first | assumption | omega))) rfl ?_
     refine st_p (mv rfl) rfl ?_
     refine st_pg rfl rfl rfl (op_fieldAddr Try.underlying67 rfl z9 (by decide) rfl) rfl ?_
     refine st_pg rfl rfl rfl (op_load1 Try.underlying9 rfl rfl rfl rfl rfl) rfl ?_
     refine st_pg rfl rfl rfl (op_lens Try.underlying9 rfl) rfl ?_
     refine st_pg rfl rfl rfl (OpP.conv (op_le rfl rfl) (no (by first | assumption | omega))) rfl ?_
     refine st_p (pkT rfl rfl) rfl ?_
     refine st_p (mva rfl) rfl ?_
     refine al_nil ?_
     refine nm ?_
     refine aw_ret ?_
     exact ret_a ⟨[(2, .bool false)], [], 0⟩ (le_to [] rfl rfl rfl rfl rfl ⟨rfl, trivial⟩ trivial) (res1 Try.results43) (.inr ⟨rfl, rfl⟩) ⟨by simp [readB, h3, tget], rfl, rfl⟩
   ·skip
    refine ac_fn Try.func43 rfl rfl rfl rfl (fun w0 S0 r0 => ?_)
    refine aw_seq ?_
    refine aw_region ?_
    refine st_o (bx rfl rfl) rfl ?_
    refine st_p (mva rfl) rfl ?_
    refine al_nil ?_
    refine nm ?_
    refine aw_seq ?_
    refine aw_seq ?_
    refine aw_region ?_
    refine st_p (op_fieldAddr Try.underlying67 rfl z4 (by decide) rfl) rfl ?_
    refine st_p (op_load1 Try.underlying4 rfl rfl rfl rfl rfl) rfl ?_
    refine st_p (op_notT rfl) rfl ?_
    refine st_p (mv rfl) rfl ?_
    refine st_s rfl rfl rfl rfl rfl ?_
    refine st_s rfl rfl rfl rfl rfl ?_
    refine st_s rfl rfl rfl rfl rfl ?_
    refine st_p (pkF rfl rfl) rfl ?_
    refine st_p (mv rfl) rfl ?_
    refine st_pg rfl rfl rfl (op_fieldAddr Try.underlying67 rfl z4 (by decide) rfl) rfl ?_
    refine st_pg rfl rfl rfl (op_load1 Try.underlying4 rfl rfl rfl rfl rfl) rfl ?_
    refine st_pg rfl rfl rfl (mv rfl) rfl ?_
    refine st_pg rfl rfl rfl (op_fieldAddr Try.underlying67 rfl z3 (by decide) rfl) rfl ?_
    refine st_pg rfl rfl rfl (op_load1 Try.underlying3 rfl rfl rfl rfl rfl) rfl ?_
    refine st_pg rfl rfl rfl (OpP.conv (op_eq rfl rfl) (no (by first | assumption | omega))) rfl ?_
    refine st_pg rfl rfl rfl (pkT rfl rfl) rfl ?_
    refine st_p (pkF rfl rfl) rfl ?_
    refine al_nil ?_
    refine nm ?_
    refine aw_no (rfl) ?_
    refine aw_skip ?_
    refine nm ?_
    refine aw_seq ?_
    refine aw_region ?_
    refine st_p (op_fieldAddr Try.underlying67 rfl z3 (by decide) rfl) rfl ?_
    refine st_p (op_load1 Try.underlying3 rfl rfl rfl rfl rfl) rfl ?_
    refine st_p (OpP.conv (op_ge rfl rfl) (no (by first | assumption | omega))) rfl ?_
    refine st_p (mv rfl) rfl ?_
    refine st_s rfl rfl rfl rfl rfl ?_
    refine st_s rfl rfl rfl rfl rfl ?_
    refine st_s rfl rfl rfl rfl rfl ?_
    refine st_s rfl rfl rfl rfl rfl ?_
    refine st_p (pkF rfl rfl) rfl ?_
    refine st_p (mva rfl) rfl ?_
    refine al_nil ?_
    refine nm ?_
    refine aw_ret ?_
    exact ret_a ⟨[(2, .bool false)], [], 0⟩ (le_to [] rfl rfl rfl rfl rfl ⟨rfl, trivial⟩ trivial) (res1 Try.results43) (.inr ⟨rfl, rfl⟩) ⟨by simp [readB, h2, tget], rfl, rfl⟩

theorem txn_write (w : WR) : AC Try.prog 46 [wrA w] [] 0 false (fun v h nx => v = .bool (writeB w) ∧ h = [] ∧ nx = 0) := by
 obtain ⟨k, val, gone⟩ := w
 dsimp only [wrA]
 by_cases h1 : val.length ≤ 16
 ·cases gone with
  | false =>
   refine ac_fn Try.func46 rfl rfl rfl rfl (fun w0 S0 r0 => ?_)
   refine aw_seq ?_
   refine aw_region ?_
   refine st_o (bx rfl rfl) rfl ?_
   refine st_p (mva rfl) rfl ?_
   refine al_nil ?_
   refine nm ?_
   refine aw_seq ?_
   refine aw_region ?_
   refine st_p (op_fieldAddr Try.underlying65 rfl z9 (by decide) rfl) rfl ?_
   refine st_p (op_load1 Try.underlying9 rfl rfl rfl rfl rfl) rfl ?_
   refine st_p (op_lens Try.underlying9 rfl) rfl ?_
   refine st_p (OpP.conv (op_le rfl rfl) (yes (by first | assumption | omega))) rfl ?_
   refine st_p (mv rfl) rfl ?_
   refine st_pg rfl rfl rfl (op_fieldAddr Try.underlying65 rfl z4 (by decide) rfl) rfl ?_
   refine st_pg rfl rfl rfl (op_load1 Try.underlying4 rfl rfl rfl rfl rfl) rfl ?_
   refine st_pg rfl rfl rfl (op_notF rfl) rfl ?_
   refine st_pg rfl rfl rfl (mv rfl) rfl ?_
   refine st_s rfl rfl rfl rfl rfl ?_
   refine st_s rfl rfl rfl rfl rfl ?_
   refine st_s rfl rfl rfl rfl rfl ?_
   refine st_pg rfl rfl rfl (pkT rfl rfl) rfl ?_
   refine st_p (pkT rfl rfl) rfl ?_
   refine st_p (mva rfl) rfl ?_
   refine al_nil ?_
   refine nm ?_
   refine aw_ret ?_
   exact ret_a ⟨[(2, .bool true)], [], 0⟩ (le_to [] rfl rfl rfl rfl rfl ⟨rfl, trivial⟩ trivial) (res1 Try.results46) (.inr ⟨rfl, rfl⟩) ⟨by simp [writeB, h1, tget], rfl, rfl⟩
  | true =>
   by_cases h2 : val = []
   ·skip
    refine ac_fn Try.func46 rfl rfl rfl rfl (fun w0 S0 r0 => ?_)
    refine aw_seq ?_
    refine aw_region ?_
    refine st_o (bx rfl rfl) rfl ?_
    refine st_p (mva rfl) rfl ?_
    refine al_nil ?_
    refine nm ?_
    refine aw_seq ?_
    refine aw_region ?_
    refine st_p (op_fieldAddr Try.underlying65 rfl z9 (by decide) rfl) rfl ?_
    refine st_p (op_load1 Try.underlying9 rfl rfl rfl rfl rfl) rfl ?_
    refine st_p (op_lens Try.underlying9 rfl) rfl ?_
    refine st_p (OpP.conv (op_le rfl rfl) (yes (by first | assumption | omega))) rfl ?_
    refine st_p (mv rfl) rfl ?_
    refine st_pg rfl rfl rfl (op_fieldAddr Try.underlying65 rfl z4 (by decide) rfl) rfl ?_
    refine st_pg rfl rfl rfl (op_load1 Try.underlying4 rfl rfl rfl rfl rfl) rfl ?_
    refine st_pg rfl rfl rfl (op_notT rfl) rfl ?_
    refine st_pg rfl rfl rfl (mv rfl) rfl ?_
    refine st_pg rfl rfl rfl (op_fieldAddr Try.underlying65 rfl z9 (by decide) rfl) rfl ?_
    refine st_pg rfl rfl rfl (op_load1 Try.underlying9 rfl rfl rfl rfl rfl) rfl ?_
    refine st_pg rfl rfl rfl (OpP.conv (op_eqs rfl rfl) (yes (by first | assumption | omega))) rfl ?_
    refine st_pg rfl rfl rfl (pkF rfl rfl) rfl ?_
    refine st_p (pkT rfl rfl) rfl ?_
    refine st_p (mva rfl) rfl ?_
    refine al_nil ?_
    refine nm ?_
    refine aw_ret ?_
    exact ret_a ⟨[(2, .bool true)], [], 0⟩ (le_to [] rfl rfl rfl rfl rfl ⟨rfl, trivial⟩ trivial) (res1 Try.results46) (.inr ⟨rfl, rfl⟩) ⟨by simp [writeB, h1, h2, tget], rfl, rfl⟩
   ·skip
    refine ac_fn Try.func46 rfl rfl rfl rfl (fun w0 S0 r0 => ?_)
    refine aw_seq ?_
    refine aw_region ?_
    refine st_o (bx rfl rfl) rfl ?_
    refine st_p (mva rfl) rfl ?_
    refine al_nil ?_
    refine nm ?_
    refine aw_seq ?_
    refine aw_region ?_
    refine st_p (op_fieldAddr Try.underlying65 rfl z9 (by decide) rfl) rfl ?_
    refine st_p (op_load1 Try.underlying9 rfl rfl rfl rfl rfl) rfl ?_
    refine st_p (op_lens Try.underlying9 rfl) rfl ?_
    refine st_p (OpP.conv (op_le rfl rfl) (yes (by first | assumption | omega))) rfl ?_
    refine st_p (mv rfl) rfl ?_
    refine st_pg rfl rfl rfl (op_fieldAddr Try.underlying65 rfl z4 (by decide) rfl) rfl ?_
    refine st_pg rfl rfl rfl (op_load1 Try.underlying4 rfl rfl rfl rfl rfl) rfl ?_
    refine st_pg rfl rfl rfl (op_notT rfl) rfl ?_
    refine st_pg rfl rfl rfl (mv rfl) rfl ?_
    refine st_pg rfl rfl rfl (op_fieldAddr Try.underlying65 rfl z9 (by decide) rfl) rfl ?_
    refine st_pg rfl rfl rfl (op_load1 Try.underlying9 rfl rfl rfl rfl rfl) rfl ?_
    refine st_pg rfl rfl rfl (OpP.conv (op_eqs rfl rfl) (no (by first | assumption | omega))) rfl ?_
    refine st_pg rfl rfl rfl (pkF rfl rfl) rfl ?_
    refine st_p (pkT rfl rfl) rfl ?_
    refine st_p (mva rfl) rfl ?_
    refine al_nil ?_
    refine nm ?_
    refine aw_ret ?_
    exact ret_a ⟨[(2, .bool false)], [], 0⟩ (le_to [] rfl rfl rfl rfl rfl ⟨rfl, trivial⟩ trivial) (res1 Try.results46) (.inr ⟨rfl, rfl⟩) ⟨by simp [writeB, h1, h2, tget], rfl, rfl⟩
 ·skip
  refine ac_fn Try.func46 rfl rfl rfl rfl (fun w0 S0 r0 => ?_)
  refine aw_seq ?_
  refine aw_region ?_
  refine st_o (bx rfl rfl) rfl ?_
  refine st_p (mva rfl) rfl ?_
  refine al_nil ?_
  refine nm ?_
  refine aw_seq ?_
  refine aw_region ?_
  refine st_p (op_fieldAddr Try.underlying65 rfl z9 (by decide) rfl) rfl ?_
  refine st_p (op_load1 Try.underlying9 rfl rfl rfl rfl rfl) rfl ?_
  refine st_p (op_lens Try.underlying9 rfl) rfl ?_
  refine st_p (OpP.conv (op_le rfl rfl) (no (by first | assumption | omega))) rfl ?_
  refine st_p (mv rfl) rfl ?_
  refine st_s rfl rfl rfl rfl rfl ?_
  refine st_s rfl rfl rfl rfl rfl ?_
  refine st_s rfl rfl rfl rfl rfl ?_
  refine st_s rfl rfl rfl rfl rfl ?_
  refine st_s rfl rfl rfl rfl rfl ?_
  refine st_s rfl rfl rfl rfl rfl ?_
  refine st_s rfl rfl rfl rfl rfl ?_
  refine st_s rfl rfl rfl rfl rfl ?_
  refine st_p (pkF rfl rfl) rfl ?_
  refine st_p (mva rfl) rfl ?_
  refine al_nil ?_
  refine nm ?_
  refine aw_ret ?_
  exact ret_a ⟨[(2, .bool false)], [], 0⟩ (le_to [] rfl rfl rfl rfl rfl ⟨rfl, trivial⟩ trivial) (res1 Try.results46) (.inr ⟨rfl, rfl⟩) ⟨by simp [writeB, h1, tget], rfl, rfl⟩

end Go.Proofs.Ytpggknkhldecaaa.Abs
end
section
namespace Go.Proofs.Ytpggknkhldecaaa.Abs

theorem txn_keys (t : TX) (hr : t.reads.length ≤ 1000000) (hw : t.writes.length ≤ 1000000) : AC Try.prog 39 [txA t] [] 0 false (fun v h nx => v = .tup [.own 0 0 t.reads.length, .own 1 0 t.writes.length] ∧
  h = [(0, .cells 1 (t.reads.map fun r => sb r.key)), (1, .cells 1 (t.writes.map fun w => sb w.key))] ∧ nx = 2) := by
 obtain ⟨ses, seq, rs, ws⟩ := t
 dsimp only [txA] at hr hw ⊢
 have hrl : (rs.map rdA).length = rs.length := List.length_map _
 have hwl : (ws.map wrA).length = ws.length := List.length_map _
 refine ac_fn Try.func39 rfl rfl rfl rfl (fun w0 S0 r0 => ?_)
 refine aw_seq ?_
 refine aw_region ?_
 refine st_o (bx rfl rfl) rfl ?_
 refine st_p (mva rfl) rfl ?_
 refine st_p (mva rfl) rfl ?_
 refine al_nil ?_
 refine nm ?_
 refine aw_seq ?_
 refine aw_seq ?_
 refine aw_region ?_
 refine st_p (op_fieldAddr Try.underlying26 rfl z23 (by decide) rfl) rfl ?_
 refine st_p (op_load1 Try.underlying23 rfl rfl rfl rfl rfl) rfl ?_
 refine st_p (op_len Try.underlying23 rfl) rfl ?_
 refine st_p (mv rfl) rfl ?_
 refine al_nil ?_
 refine nm ?_
 refine aw_block ?_
 refine aw_virt 2 1 rfl ?_
 refine aw_virt 3 1 rfl ?_
 refine aw_loop (fun i : {i : Nat // i ≤ rs.length} => ⟨[(1, .ptr 0 0 0), (2, .own 1 0 i.1), (3, .own 2 0 0), (9, .sl 4 (rs.map rdA)), (10, .int .i64 rs.length), (11, .int .i64 i.1)], [(0, .cells 4 [.agg [.int .i64 ses, .int .i64 seq, .sl 4 (rs.map rdA), .sl 3 (ws.map wrA)]]), (1, .cells 1 ((rs.take i.1).map fun r => sb r.key)), (2, .cells 1 [])], 3⟩) (fun i => rs.length - i.1) ⟨0, Nat.zero_le _⟩ ?_ ?_
 ·exact le_to [(0, 0), (1, 1), (2, 2)] rfl rfl rfl rfl rfl ⟨rfl, rfl, rfl, rfl, by rw [← hrl]; rfl, rfl, trivial⟩ ⟨rfl, rfl, rfl, trivial⟩
 ·rintro ⟨i, hi⟩
  dsimp only
  by_cases hlt : i < rs.length
  ·obtain ⟨x, hx⟩ : ∃ x, rs[i]? = some x := ⟨_, List.getElem?_eq_getElem hlt⟩
   have hxb : (rs.map rdA)[((i : Nat) : Int).toNat]? = some (.agg [sb x.key, .int .i64 x.ver, sb x.val, .bool x.there]) := by rw [Int.toNat_natCast, List.getElem?_map, hx]; rfl
   have htl : ((rs.take i).map fun r => sb r.key).length = i := by simp; omega
   refine aw_seq ?_
   refine aw_region ?_
   refine st_p (OpP.conv (op_lt rfl rfl) (yes (by first | assumption | omega))) rfl ?_
   refine al_nil ?_
   refine nm ?_
   refine aw_seq ?_
   refine aw_yes (rfl) ?_
   refine aw_skip ?_
   refine nm ?_
   refine aw_seq ?_
   refine aw_block ?_
   refine aw_seq ?_
   refine aw_region ?_
   refine st_p (op_indexAddrL Try.underlying23 z67 rfl rfl (by omega) (by first | assumption | rfl)) rfl ?_
   refine st_p (op_loadAL Try.underlying67 rfl z67 rfl rfl) rfl ?_
   refine st_o (op_alloc a67 rfl rfl) rfl ?_
   refine st_n (stA z67 rfl rfl rfl rfl rfl rfl rfl rfl rfl rfl) ?_
   refine al_nil ?_
   refine nm ?_
   refine aw_region ?_
   refine st_p (mv rfl) rfl ?_
   refine st_p (op_fieldAddr Try.underlying67 rfl z9 (by decide) rfl) rfl ?_
   refine st_p (op_load1 Try.underlying9 rfl rfl rfl rfl rfl) rfl ?_
   refine st_o (bsl Try.underlying71 i9 o9 (by decide) rfl rfl rfl (by decide)) rfl ?_
   refine st_o (op_app Try.underlying71 Try.underlying71 (.inl ⟨_, rfl⟩) i9 o9 rfl rfl rfl (by first | rfl | omega | (simp; done) | (simp; omega)) ((SrcA.whole rfl (by first | rfl | (simp; done))).ok rfl (by first | assumption | intro z hz; simp only [List.mem_singleton, List.drop_zero, List.take_succ_cons, List.take_zero, List.mem_cons, List.not_mem_nil, or_false, List.mem_map] at hz; first | (subst hz; rfl) | (obtain ⟨_, _, rfl⟩ := hz; rfl) | (rcases hz with rfl | rfl <;> rfl))) (by first | omega | (simp; try omega)) rfl) rfl ?_
   refine st_p (mva rfl) rfl ?_
   refine al_nil ?_
   refine nmb ?_
   refine nm ?_
   refine aw_region ?_
   refine st_p (op_addi rfl rfl (by omega)) rfl ?_
   refine st_p (mv rfl) rfl ?_
   refine al_nil ?_
   refine nm ?_
   refine ⟨⟨i + 1, hlt⟩, by dsimp only; omega, le_to [(0, 0), (1, 5), (2, 2)] rfl rfl rfl rfl rfl ⟨rfl, ?_, rfl, rfl, rfl, rfl, trivial⟩ ⟨rfl, ?_, rfl, trivial⟩⟩
   ·simp [AV.ren, tget, swp]; omega
   ·simp [Blk.ren, hget, swp, AV.ren, List.take_add_one, hx, sb]; rfl
  ·have e : rs.take i = rs := List.take_of_length_le (by omega)
   refine aw_seq ?_
   refine aw_region ?_
   refine st_p (OpP.conv (op_lt rfl rfl) (no (by first | assumption | omega))) rfl ?_
   refine al_nil ?_
   refine nm ?_
   refine aw_seq ?_
   refine aw_no (rfl) ?_
   refine aw_exit ?_
   refine xs ?_
   refine xs ?_
   refine xb ?_
   refine nm ?_
   refine aw_seq ?_
   refine aw_seq ?_
   refine aw_region ?_
   refine st_p (op_fieldAddr Try.underlying26 rfl z24 (by decide) rfl) rfl ?_
   refine st_p (op_load1 Try.underlying24 rfl rfl rfl rfl rfl) rfl ?_
   refine st_p (op_len Try.underlying24 rfl) rfl ?_
   refine st_p (mv rfl) rfl ?_
   refine al_nil ?_
   refine nm ?_
   refine aw_block ?_
   refine aw_loop (fun j : {j : Nat // j ≤ ws.length} => ⟨[(1, .ptr 0 0 0), (2, .own 1 0 rs.length), (3, .own 2 0 j.1), (22, .sl 3 (ws.map wrA)), (23, .int .i64 ws.length), (24, .int .i64 j.1)], [(0, .cells 4 [.agg [.int .i64 ses, .int .i64 seq, .sl 4 (rs.map rdA), .sl 3 (ws.map wrA)]]), (1, .cells 1 (rs.map fun r => sb r.key)), (2, .cells 1 ((ws.take j.1).map fun w => sb w.key))], 3⟩) (fun j => ws.length - j.1) ⟨0, Nat.zero_le _⟩ ?_ ?_
   ·refine le_to [(0, 0), (1, 1), (2, 2)] rfl rfl rfl rfl rfl ⟨rfl, ?_, rfl, rfl, by rw [← hwl]; rfl, rfl, trivial⟩ ⟨rfl, ?_, rfl, trivial⟩
    ·rw [show rs.length = i from by omega]; rfl
    ·rw [e]; simp [Blk.ren, hget, swp, AV.ren, sb]
   ·rintro ⟨j, hj⟩
    dsimp only
    by_cases hjt : j < ws.length
    ·obtain ⟨x, hx⟩ : ∃ x, ws[j]? = some x := ⟨_, List.getElem?_eq_getElem hjt⟩
     have hxb : (ws.map wrA)[((j : Nat) : Int).toNat]? = some (.agg [sb x.key, sb x.val, .bool x.gone]) := by rw [Int.toNat_natCast, List.getElem?_map, hx]; rfl
     have htl : ((ws.take j).map fun w => sb w.key).length = j := by simp; omega
     refine aw_seq ?_
     refine aw_region ?_
     refine st_p (OpP.conv (op_lt rfl rfl) (yes (by first | assumption | omega))) rfl ?_
     refine al_nil ?_
     refine nm ?_
     refine aw_seq ?_
     refine aw_yes (rfl) ?_
     refine aw_skip ?_
     refine nm ?_
     refine aw_seq ?_
     refine aw_block ?_
     refine aw_seq ?_
     refine aw_region ?_
     refine st_p (op_indexAddrL Try.underlying24 z65 rfl rfl (by omega) (by first | assumption | rfl)) rfl ?_
     refine st_p (op_loadAL Try.underlying65 rfl z65 rfl rfl) rfl ?_
     refine st_o (op_alloc a65 rfl rfl) rfl ?_
     refine st_n (stA z65 rfl rfl rfl rfl rfl rfl rfl rfl rfl rfl) ?_
     refine al_nil ?_
     refine nm ?_
     refine aw_region ?_
     refine st_p (mv rfl) rfl ?_
     refine st_p (op_fieldAddr Try.underlying65 rfl z9 (by decide) rfl) rfl ?_
     refine st_p (op_load1 Try.underlying9 rfl rfl rfl rfl rfl) rfl ?_
     refine st_o (bsl Try.underlying71 i9 o9 (by decide) rfl rfl rfl (by decide)) rfl ?_
     refine st_o (op_app Try.underlying71 Try.underlying71 (.inl ⟨_, rfl⟩) i9 o9 rfl rfl rfl (by first | rfl | omega | (simp; done) | (simp; omega)) ((SrcA.whole rfl (by first | rfl | (simp; done))).ok rfl (by first | assumption | intro z hz; simp only [List.mem_singleton, List.drop_zero, List.take_succ_cons, List.take_zero, List.mem_cons, List.not_mem_nil, or_false, List.mem_map] at hz; first | (subst hz; rfl) | (obtain ⟨_, _, rfl⟩ := hz; rfl) | (rcases hz with rfl | rfl <;> rfl))) (by first | omega | (simp; try omega)) rfl) rfl ?_
     refine st_p (mva rfl) rfl ?_
     refine al_nil ?_
     refine nmb ?_
     refine nm ?_
     refine aw_region ?_
     refine st_p (op_addi rfl rfl (by omega)) rfl ?_
     refine st_p (mv rfl) rfl ?_
     refine al_nil ?_
     refine nm ?_
     refine ⟨⟨j + 1, hjt⟩, by dsimp only; omega, le_to [(0, 0), (1, 1), (2, 5)] rfl rfl rfl rfl rfl ⟨rfl, rfl, ?_, rfl, rfl, rfl, trivial⟩ ⟨rfl, ?_, ?_, trivial⟩⟩
     ·simp [AV.ren, tget, swp]; omega
     ·simp [Blk.ren, hget, swp, AV.ren, sb]
     ·simp [Blk.ren, hget, swp, AV.ren, List.take_add_one, hx, sb]; rfl
    ·have e2 : ws.take j = ws := List.take_of_length_le (by omega)
     have e3 : j = ws.length := by omega
     refine aw_seq ?_
     refine aw_region ?_
     refine st_p (OpP.conv (op_lt rfl rfl) (no (by first | assumption | omega))) rfl ?_
     refine al_nil ?_
     refine nm ?_
     refine aw_seq ?_
     refine aw_no (rfl) ?_
     refine aw_exit ?_
     refine xs ?_
     refine xs ?_
     refine xb ?_
     refine nm ?_
     refine aw_seq ?_
     refine aw_region ?_
     refine st_p (mv rfl) rfl ?_
     refine st_p (mv rfl) rfl ?_
     refine st_p (mva rfl) rfl ?_
     refine st_p (mva rfl) rfl ?_
     refine al_nil ?_
     refine nm ?_
     refine aw_ret ?_
     refine ret_a ⟨[(2, .own 0 0 rs.length), (3, .own 1 0 ws.length)], [(0, .cells 1 (rs.map fun r => sb r.key)), (1, .cells 1 (ws.map fun w => sb w.key))], 2⟩ (le_to [(0, 1), (1, 2)] rfl rfl rfl rfl rfl ⟨rfl, ?_, trivial⟩ ⟨?_, ?_, trivial⟩) (res2 Try.results39) (.inr ⟨rfl, ?_⟩) ⟨rfl, rfl, rfl⟩
     ·rw [← e3]; rfl
     ·simp [Blk.ren, hget, swp, AV.ren, sb]
     ·rw [e2]; simp [Blk.ren, hget, swp, AV.ren, sb]
     ·simp [Blk.nosl, AV.nosl, sb]

end Go.Proofs.Ytpggknkhldecaaa.Abs
end
section
namespace Go.Proofs.Ytpggknkhldecaaa.Abs

def firstI {α : Type} (p : α → Bool) (l : List α) : Int := match l.findIdx? p with
 | some i => i
 | none => -1

theorem firstI_at {α : Type} {p : α → Bool} {l : List α} {i : Nat} {x : α} (hx : l[i]? = some x) (hp : p x = true) (h : ∀ (j : Nat) (y : α), j < i → l[j]? = some y → p y = false) : firstI p l = i := by
 obtain ⟨hil, hie⟩ := List.getElem?_eq_some_iff.1 hx
 unfold firstI
 rw [show l.findIdx? p = some i from List.findIdx?_eq_some_iff_getElem.2 ⟨hil, by rw [hie]; exact hp, fun j hj => by
  have hjl : j < l.length := by omega
  have := h j (l[j]'hjl) hj (List.getElem?_eq_getElem hjl)
  simp [this]⟩]
theorem firstI_none {α : Type} {p : α → Bool} {l : List α} (h : ∀ (j : Nat) (y : α), l[j]? = some y → p y = false) : firstI p l = -1 := by
 unfold firstI
 rw [List.findIdx?_eq_none_iff.2 (fun x hx => by
  obtain ⟨j, hj, rfl⟩ := List.mem_iff_getElem.1 hx
  exact h j _ (List.getElem?_eq_getElem hj))]
theorem firstI_all {α : Type} (p : α → Bool) (l : List α) : (0 ≤ firstI (fun x => !p x) l → l.all p = false) ∧ (l.all p = false → 0 ≤ firstI (fun x => !p x) l) := by
 unfold firstI
 cases h : l.findIdx? (fun x => !p x) with
 | none =>
  have h1 := List.findIdx?_eq_none_iff.1 h
  refine ⟨fun h => absurd h (by decide), fun h2 => ?_⟩
  rw [List.all_eq_false] at h2
  obtain ⟨x, hx, hp⟩ := h2
  have := h1 x hx
  cases hq : p x <;> simp_all
 | some i =>
  obtain ⟨hi, hp, _⟩ := List.findIdx?_eq_some_iff_getElem.1 h
  refine ⟨fun _ => ?_, fun _ => Int.natCast_nonneg _⟩
  rw [List.all_eq_false]
  exact ⟨l[i], List.getElem_mem _, by simpa using hp⟩

theorem may_reads (x : RD) : AC Try.prog 42 [rdA x] [] 0 false (fun v h nx => v = .bool (!readB x) ∧ h = [] ∧ nx = 0) := by
 have hx := txn_read x
 cases hp : readB x with
 | true =>
  rw [hp] at hx
  refine ac_fn Try.func42 rfl rfl rfl rfl (fun w0 S0 r0 => ?_)
  refine aw_seq ?_
  refine aw_region ?_
  refine st_o (bx rfl rfl) rfl ?_
  refine st_p (mva rfl) rfl ?_
  refine al_nil ?_
  refine nm ?_
  refine aw_seq ?_
  refine aw_region ?_
  refine st_p (op_loadA Try.underlying67 rfl z67 rfl rfl rfl rfl) rfl ?_
  refine st_o ((op_callq (hx) Try.func43 ⟨rfl, rfl⟩ rfl rfl (fun nx => (.cons (.same (by rfl)) .nil)) (by rintro _ _ _ ⟨rfl, rfl, rfl⟩; exact .same rfl)).ok) rfl ?_
  refine st_p (op_notT rfl) rfl ?_
  refine st_p (mva rfl) rfl ?_
  refine al_nil ?_
  refine nm ?_
  refine aw_ret ?_
  exact ret_a ⟨[(2, .bool false)], [], 0⟩ (le_to [] rfl rfl rfl rfl rfl ⟨rfl, trivial⟩ trivial) (res1 Try.results42) (.inr ⟨rfl, rfl⟩) ⟨rfl, rfl, rfl⟩
 | false =>
  rw [hp] at hx
  refine ac_fn Try.func42 rfl rfl rfl rfl (fun w0 S0 r0 => ?_)
  refine aw_seq ?_
  refine aw_region ?_
  refine st_o (bx rfl rfl) rfl ?_
  refine st_p (mva rfl) rfl ?_
  refine al_nil ?_
  refine nm ?_
  refine aw_seq ?_
  refine aw_region ?_
  refine st_p (op_loadA Try.underlying67 rfl z67 rfl rfl rfl rfl) rfl ?_
  refine st_o ((op_callq (hx) Try.func43 ⟨rfl, rfl⟩ rfl rfl (fun nx => (.cons (.same (by rfl)) .nil)) (by rintro _ _ _ ⟨rfl, rfl, rfl⟩; exact .same rfl)).ok) rfl ?_
  refine st_p (op_notF rfl) rfl ?_
  refine st_p (mva rfl) rfl ?_
  refine al_nil ?_
  refine nm ?_
  refine aw_ret ?_
  exact ret_a ⟨[(2, .bool true)], [], 0⟩ (le_to [] rfl rfl rfl rfl rfl ⟨rfl, trivial⟩ trivial) (res1 Try.results42) (.inr ⟨rfl, rfl⟩) ⟨rfl, rfl, rfl⟩

theorem index_reads (l : List RD) (hl : l.length ≤ 1000000) : AC Try.prog 80 [.sl 4 (l.map rdA), .fn (.func 42) [] []] [] 0 false (fun v h nx => v = .int .i64 (firstI (fun x => !readB x) l) ∧ h = [] ∧ nx = 0) := by
 have hlm : (l.map rdA).length = l.length := List.length_map _
 refine ac_fn Try.func80 rfl rfl rfl rfl (fun w0 S0 r0 => ?_)
 refine aw_seq ?_
 refine aw_region ?_
 refine st_p (mva rfl) rfl ?_
 refine al_nil ?_
 refine nm ?_
 refine aw_seq ?_
 refine aw_seq ?_
 refine aw_region ?_
 refine st_p (mv rfl) rfl ?_
 refine st_p (op_len Try.underlying23 rfl) rfl ?_
 refine st_p (mv rfl) rfl ?_
 refine al_nil ?_
 refine nm ?_
 refine aw_block ?_
 refine aw_loop (fun i : {i : Nat // i ≤ l.length ∧ ∀ (j : Nat) (x : RD), j < i → l[j]? = some x → readB x = true} => ⟨[(0, .sl 4 (l.map rdA)), (1, .fn (.func 42) [] []), (7, .int .i64 l.length), (8, .int .i64 i.1)], [], 0⟩) (fun i => l.length - i.1) ⟨0, Nat.zero_le _, fun j x hj => absurd hj (Nat.not_lt_zero _)⟩ ?_ ?_
 ·exact le_to [] rfl rfl rfl rfl rfl ⟨rfl, rfl, by rw [← hlm]; rfl, rfl, trivial⟩ trivial
 ·rintro ⟨i, hi, ha⟩
  dsimp only
  by_cases hlt : i < l.length
  ·obtain ⟨x, hx⟩ : ∃ x, l[i]? = some x := ⟨_, List.getElem?_eq_getElem hlt⟩
   have hxb : (l.map rdA)[((i : Nat) : Int).toNat]? = some (.agg [sb x.key, .int .i64 x.ver, sb x.val, .bool x.there]) := by rw [Int.toNat_natCast, List.getElem?_map, hx]; rfl
   have hc := may_reads x
   cases hp : readB x with
   | false =>
    rw [hp] at hc
    refine aw_seq ?_
    refine aw_region ?_
    refine st_p (OpP.conv (op_lt rfl rfl) (yes (by first | assumption | omega))) rfl ?_
    refine al_nil ?_
    refine nm ?_
    refine aw_seq ?_
    refine aw_yes (rfl) ?_
    refine aw_skip ?_
    refine nm ?_
    refine aw_seq ?_
    refine aw_block ?_
    refine aw_seq ?_
    refine aw_region ?_
    refine st_p (mv rfl) rfl ?_
    refine st_p (mva rfl) rfl ?_
    refine al_nil ?_
    refine nm ?_
    refine aw_seq ?_
    refine aw_region ?_
    refine st_p (mv rfl) rfl ?_
    refine st_p (mv rfl) rfl ?_
    refine st_p (mv rfl) rfl ?_
    refine st_p (op_indexAddrL Try.underlying23 z67 rfl rfl (by omega) (by first | assumption | rfl)) rfl ?_
    refine st_p (op_loadAL Try.underlying67 rfl z67 rfl rfl) rfl ?_
    refine st_o ((op_callq (hc) Try.func42 ⟨rfl, rfl⟩ rfl rfl (fun nx => (.cons (.same (by rfl)) .nil)) (by rintro _ _ _ ⟨rfl, rfl, rfl⟩; exact .same rfl)).ok) rfl ?_
    refine al_nil ?_
    refine nm ?_
    refine aw_yes (rfl) ?_
    refine aw_seq ?_
    refine aw_region ?_
    refine st_p (mv rfl) rfl ?_
    refine st_p (mva rfl) rfl ?_
    refine al_nil ?_
    refine nm ?_
    refine aw_ret ?_
    refine rb ?_
    refine rs ?_
    refine rs ?_
    refine rb ?_
    refine rs ?_
    exact ret_a ⟨[(4, .int .i64 i)], [], 0⟩ (le_to [] rfl rfl rfl rfl rfl ⟨rfl, trivial⟩ trivial) (res1 Try.results80) (.inr ⟨rfl, rfl⟩) ⟨by rw [firstI_at hx (by rw [hp]; rfl) (fun j y hj hy => by rw [ha j y hj hy]; rfl)]; rfl, rfl, rfl⟩
   | true =>
    rw [hp] at hc
    refine aw_seq ?_
    refine aw_region ?_
    refine st_p (OpP.conv (op_lt rfl rfl) (yes (by first | assumption | omega))) rfl ?_
    refine al_nil ?_
    refine nm ?_
    refine aw_seq ?_
    refine aw_yes (rfl) ?_
    refine aw_skip ?_
    refine nm ?_
    refine aw_seq ?_
    refine aw_block ?_
    refine aw_seq ?_
    refine aw_region ?_
    refine st_p (mv rfl) rfl ?_
    refine st_p (mva rfl) rfl ?_
    refine al_nil ?_
    refine nm ?_
    refine aw_seq ?_
    refine aw_region ?_
    refine st_p (mv rfl) rfl ?_
    refine st_p (mv rfl) rfl ?_
    refine st_p (mv rfl) rfl ?_
    refine st_p (op_indexAddrL Try.underlying23 z67 rfl rfl (by omega) (by first | assumption | rfl)) rfl ?_
    refine st_p (op_loadAL Try.underlying67 rfl z67 rfl rfl) rfl ?_
    refine st_o ((op_callq (hc) Try.func42 ⟨rfl, rfl⟩ rfl rfl (fun nx => (.cons (.same (by rfl)) .nil)) (by rintro _ _ _ ⟨rfl, rfl, rfl⟩; exact .same rfl)).ok) rfl ?_
    refine al_nil ?_
    refine nm ?_
    refine aw_no (rfl) ?_
    refine aw_skip ?_
    refine nmb ?_
    refine nm ?_
    refine aw_region ?_
    refine st_p (op_addi rfl rfl (by omega)) rfl ?_
    refine st_p (mv rfl) rfl ?_
    refine al_nil ?_
    refine nm ?_
    exact ⟨⟨i + 1, hlt, fun j y hj hy => by
     rcases Nat.lt_succ_iff_lt_or_eq.1 hj with h | rfl
     ·exact ha j y h hy
     ·rw [hx] at hy; obtain rfl := Option.some.inj hy; exact hp⟩, by dsimp only; omega, le_to [] rfl rfl rfl rfl rfl ⟨rfl, rfl, rfl, rfl, trivial⟩ trivial⟩
  ·skip
   refine aw_seq ?_
   refine aw_region ?_
   refine st_p (OpP.conv (op_lt rfl rfl) (no (by first | assumption | omega))) rfl ?_
   refine al_nil ?_
   refine nm ?_
   refine aw_seq ?_
   refine aw_no (rfl) ?_
   refine aw_exit ?_
   refine xs ?_
   refine xs ?_
   refine xb ?_
   refine nm ?_
   refine aw_seq ?_
   refine aw_region ?_
   refine st_p (mva rfl) rfl ?_
   refine al_nil ?_
   refine nm ?_
   refine aw_ret ?_
   exact ret_a ⟨[(4, .int .i64 (-1))], [], 0⟩ (le_to [] rfl rfl rfl rfl rfl ⟨rfl, trivial⟩ trivial) (res1 Try.results80) (.inr ⟨rfl, rfl⟩) ⟨by rw [firstI_none (fun j y hy => by rw [ha j y (by have := (List.getElem?_eq_some_iff.1 hy).1; omega) hy]; rfl)]; rfl, rfl, rfl⟩

theorem contains_reads (l : List RD) (hl : l.length ≤ 1000000) : AC Try.prog 41 [.sl 4 (l.map rdA), .fn (.func 42) [] []] [] 0 false (fun v h nx => v = .bool (!l.all readB) ∧ h = [] ∧ nx = 0) := by
 have hi := index_reads l hl
 have hs := firstI_all readB l
 cases ha : l.all readB with
 | true =>
  have hneg : ¬ 0 ≤ firstI (fun x => !readB x) l := fun h => by rw [hs.1 h] at ha; cases ha
  refine ac_fn Try.func41 rfl rfl rfl rfl (fun w0 S0 r0 => ?_)
  refine aw_seq ?_
  refine aw_region ?_
  refine st_p (mva rfl) rfl ?_
  refine al_nil ?_
  refine nm ?_
  refine aw_seq ?_
  refine aw_region ?_
  refine st_p (mv rfl) rfl ?_
  refine st_p (mv rfl) rfl ?_
  refine st_o ((op_callq (hi) Try.func80 ⟨rfl, rfl⟩ rfl rfl (fun nx => (.cons (.same (by rfl)) (.cons (.same (by rfl)) .nil))) (by rintro _ _ _ ⟨rfl, rfl, rfl⟩; exact .same rfl)).ok) rfl ?_
  refine st_p (OpP.conv (op_ge rfl rfl) (no (by first | assumption | omega))) rfl ?_
  refine st_p (mva rfl) rfl ?_
  refine al_nil ?_
  refine nm ?_
  refine aw_ret ?_
  exact ret_v (res1 Try.results41) (.inr ⟨rfl, rfl⟩) ⟨rfl, rfl, rfl⟩
 | false =>
  have hpos : 0 ≤ firstI (fun x => !readB x) l := hs.2 ha
  refine ac_fn Try.func41 rfl rfl rfl rfl (fun w0 S0 r0 => ?_)
  refine aw_seq ?_
  refine aw_region ?_
  refine st_p (mva rfl) rfl ?_
  refine al_nil ?_
  refine nm ?_
  refine aw_seq ?_
  refine aw_region ?_
  refine st_p (mv rfl) rfl ?_
  refine st_p (mv rfl) rfl ?_
  refine st_o ((op_callq (hi) Try.func80 ⟨rfl, rfl⟩ rfl rfl (fun nx => (.cons (.same (by rfl)) (.cons (.same (by rfl)) .nil))) (by rintro _ _ _ ⟨rfl, rfl, rfl⟩; exact .same rfl)).ok) rfl ?_
  refine st_p (OpP.conv (op_ge rfl rfl) (yes (by first | assumption | omega))) rfl ?_
  refine st_p (mva rfl) rfl ?_
  refine al_nil ?_
  refine nm ?_
  refine aw_ret ?_
  exact ret_v (res1 Try.results41) (.inr ⟨rfl, rfl⟩) ⟨rfl, rfl, rfl⟩

theorem may_writes (x : WR) : AC Try.prog 45 [wrA x] [] 0 false (fun v h nx => v = .bool (!writeB x) ∧ h = [] ∧ nx = 0) := by
 have hx := txn_write x
 cases hp : writeB x with
 | true =>
  rw [hp] at hx
  refine ac_fn Try.func45 rfl rfl rfl rfl (fun w0 S0 r0 => ?_)
  refine aw_seq ?_
  refine aw_region ?_
  refine st_o (bx rfl rfl) rfl ?_
  refine st_p (mva rfl) rfl ?_
  refine al_nil ?_
  refine nm ?_
  refine aw_seq ?_
  refine aw_region ?_
  refine st_p (op_loadA Try.underlying65 rfl z65 rfl rfl rfl rfl) rfl ?_
  refine st_o ((op_callq (hx) Try.func46 ⟨rfl, rfl⟩ rfl rfl (fun nx => (.cons (.same (by rfl)) .nil)) (by rintro _ _ _ ⟨rfl, rfl, rfl⟩; exact .same rfl)).ok) rfl ?_
  refine st_p (op_notT rfl) rfl ?_
  refine st_p (mva rfl) rfl ?_
  refine al_nil ?_
  refine nm ?_
  refine aw_ret ?_
  exact ret_a ⟨[(2, .bool false)], [], 0⟩ (le_to [] rfl rfl rfl rfl rfl ⟨rfl, trivial⟩ trivial) (res1 Try.results45) (.inr ⟨rfl, rfl⟩) ⟨rfl, rfl, rfl⟩
 | false =>
  rw [hp] at hx
  refine ac_fn Try.func45 rfl rfl rfl rfl (fun w0 S0 r0 => ?_)
  refine aw_seq ?_
  refine aw_region ?_
  refine st_o (bx rfl rfl) rfl ?_
  refine st_p (mva rfl) rfl ?_
  refine al_nil ?_
  refine nm ?_
  refine aw_seq ?_
  refine aw_region ?_
  refine st_p (op_loadA Try.underlying65 rfl z65 rfl rfl rfl rfl) rfl ?_
  refine st_o ((op_callq (hx) Try.func46 ⟨rfl, rfl⟩ rfl rfl (fun nx => (.cons (.same (by rfl)) .nil)) (by rintro _ _ _ ⟨rfl, rfl, rfl⟩; exact .same rfl)).ok) rfl ?_
  refine st_p (op_notF rfl) rfl ?_
  refine st_p (mva rfl) rfl ?_
  refine al_nil ?_
  refine nm ?_
  refine aw_ret ?_
  exact ret_a ⟨[(2, .bool true)], [], 0⟩ (le_to [] rfl rfl rfl rfl rfl ⟨rfl, trivial⟩ trivial) (res1 Try.results45) (.inr ⟨rfl, rfl⟩) ⟨rfl, rfl, rfl⟩

theorem index_writes (l : List WR) (hl : l.length ≤ 1000000) : AC Try.prog 81 [.sl 3 (l.map wrA), .fn (.func 45) [] []] [] 0 false (fun v h nx => v = .int .i64 (firstI (fun x => !writeB x) l) ∧ h = [] ∧ nx = 0) := by
 have hlm : (l.map wrA).length = l.length := List.length_map _
 refine ac_fn Try.func81 rfl rfl rfl rfl (fun w0 S0 r0 => ?_)
 refine aw_seq ?_
 refine aw_region ?_
 refine st_p (mva rfl) rfl ?_
 refine al_nil ?_
 refine nm ?_
 refine aw_seq ?_
 refine aw_seq ?_
 refine aw_region ?_
 refine st_p (mv rfl) rfl ?_
 refine st_p (op_len Try.underlying24 rfl) rfl ?_
 refine st_p (mv rfl) rfl ?_
 refine al_nil ?_
 refine nm ?_
 refine aw_block ?_
 refine aw_loop (fun i : {i : Nat // i ≤ l.length ∧ ∀ (j : Nat) (x : WR), j < i → l[j]? = some x → writeB x = true} => ⟨[(0, .sl 3 (l.map wrA)), (1, .fn (.func 45) [] []), (7, .int .i64 l.length), (8, .int .i64 i.1)], [], 0⟩) (fun i => l.length - i.1) ⟨0, Nat.zero_le _, fun j x hj => absurd hj (Nat.not_lt_zero _)⟩ ?_ ?_
 ·exact le_to [] rfl rfl rfl rfl rfl ⟨rfl, rfl, by rw [← hlm]; rfl, rfl, trivial⟩ trivial
 ·rintro ⟨i, hi, ha⟩
  dsimp only
  by_cases hlt : i < l.length
  ·obtain ⟨x, hx⟩ : ∃ x, l[i]? = some x := ⟨_, List.getElem?_eq_getElem hlt⟩
   have hxb : (l.map wrA)[((i : Nat) : Int).toNat]? = some (.agg [sb x.key, sb x.val, .bool x.gone]) := by rw [Int.toNat_natCast, List.getElem?_map, hx]; rfl
   have hc := may_writes x
   cases hp : writeB x with
   | false =>
    rw [hp] at hc
    refine aw_seq ?_
    refine aw_region ?_
    refine st_p (OpP.conv (op_lt rfl rfl) (yes (by first | assumption | omega))) rfl ?_
    refine al_nil ?_
    refine nm ?_
    refine aw_seq ?_
    refine aw_yes (rfl) ?_
    refine aw_skip ?_
    refine nm ?_
    refine aw_seq ?_
    refine aw_block ?_
    refine aw_seq ?_
    refine aw_region ?_
    refine st_p (mv rfl) rfl ?_
    refine st_p (mva rfl) rfl ?_
    refine al_nil ?_
    refine nm ?_
    refine aw_seq ?_
    refine aw_region ?_
    refine st_p (mv rfl) rfl ?_
    refine st_p (mv rfl) rfl ?_
    refine st_p (mv rfl) rfl ?_
    refine st_p (op_indexAddrL Try.underlying24 z65 rfl rfl (by omega) (by first | assumption | rfl)) rfl ?_
    refine st_p (op_loadAL Try.underlying65 rfl z65 rfl rfl) rfl ?_
    refine st_o ((op_callq (hc) Try.func45 ⟨rfl, rfl⟩ rfl rfl (fun nx => (.cons (.same (by rfl)) .nil)) (by rintro _ _ _ ⟨rfl, rfl, rfl⟩; exact .same rfl)).ok) rfl ?_
    refine al_nil ?_
    refine nm ?_
    refine aw_yes (rfl) ?_
    refine aw_seq ?_
    refine aw_region ?_
    refine st_p (mv rfl) rfl ?_
    refine st_p (mva rfl) rfl ?_
    refine al_nil ?_
    refine nm ?_
    refine aw_ret ?_
    refine rb ?_
    refine rs ?_
    refine rs ?_
    refine rb ?_
    refine rs ?_
    exact ret_a ⟨[(4, .int .i64 i)], [], 0⟩ (le_to [] rfl rfl rfl rfl rfl ⟨rfl, trivial⟩ trivial) (res1 Try.results81) (.inr ⟨rfl, rfl⟩) ⟨by rw [firstI_at hx (by rw [hp]; rfl) (fun j y hj hy => by rw [ha j y hj hy]; rfl)]; rfl, rfl, rfl⟩
   | true =>
    rw [hp] at hc
    refine aw_seq ?_
    refine aw_region ?_
    refine st_p (OpP.conv (op_lt rfl rfl) (yes (by first | assumption | omega))) rfl ?_
    refine al_nil ?_
    refine nm ?_
    refine aw_seq ?_
    refine aw_yes (rfl) ?_
    refine aw_skip ?_
    refine nm ?_
    refine aw_seq ?_
    refine aw_block ?_
    refine aw_seq ?_
    refine aw_region ?_
    refine st_p (mv rfl) rfl ?_
    refine st_p (mva rfl) rfl ?_
    refine al_nil ?_
    refine nm ?_
    refine aw_seq ?_
    refine aw_region ?_
    refine st_p (mv rfl) rfl ?_
    refine st_p (mv rfl) rfl ?_
    refine st_p (mv rfl) rfl ?_
    refine st_p (op_indexAddrL Try.underlying24 z65 rfl rfl (by omega) (by first | assumption | rfl)) rfl ?_
    refine st_p (op_loadAL Try.underlying65 rfl z65 rfl rfl) rfl ?_
    refine st_o ((op_callq (hc) Try.func45 ⟨rfl, rfl⟩ rfl rfl (fun nx => (.cons (.same (by rfl)) .nil)) (by rintro _ _ _ ⟨rfl, rfl, rfl⟩; exact .same rfl)).ok) rfl ?_
    refine al_nil ?_
    refine nm ?_
    refine aw_no (rfl) ?_
    refine aw_skip ?_
    refine nmb ?_
    refine nm ?_
    refine aw_region ?_
    refine st_p (op_addi rfl rfl (by omega)) rfl ?_
    refine st_p (mv rfl) rfl ?_
    refine al_nil ?_
    refine nm ?_
    exact ⟨⟨i + 1, hlt, fun j y hj hy => by
     rcases Nat.lt_succ_iff_lt_or_eq.1 hj with h | rfl
     ·exact ha j y h hy
     ·rw [hx] at hy; obtain rfl := Option.some.inj hy; exact hp⟩, by dsimp only; omega, le_to [] rfl rfl rfl rfl rfl ⟨rfl, rfl, rfl, rfl, trivial⟩ trivial⟩
  ·skip
   refine aw_seq ?_
   refine aw_region ?_
   refine st_p (OpP.conv (op_lt rfl rfl) (no (by first | assumption | omega))) rfl ?_
   refine al_nil ?_
   refine nm ?_
   refine aw_seq ?_
   refine aw_no (rfl) ?_
   refine aw_exit ?_
   refine xs ?_
   refine xs ?_
   refine xb ?_
   refine nm ?_
   refine aw_seq ?_
   refine aw_region ?_
   refine st_p (mva rfl) rfl ?_
   refine al_nil ?_
   refine nm ?_
   refine aw_ret ?_
   exact ret_a ⟨[(4, .int .i64 (-1))], [], 0⟩ (le_to [] rfl rfl rfl rfl rfl ⟨rfl, trivial⟩ trivial) (res1 Try.results81) (.inr ⟨rfl, rfl⟩) ⟨by rw [firstI_none (fun j y hy => by rw [ha j y (by have := (List.getElem?_eq_some_iff.1 hy).1; omega) hy]; rfl)]; rfl, rfl, rfl⟩

theorem contains_writes (l : List WR) (hl : l.length ≤ 1000000) : AC Try.prog 44 [.sl 3 (l.map wrA), .fn (.func 45) [] []] [] 0 false (fun v h nx => v = .bool (!l.all writeB) ∧ h = [] ∧ nx = 0) := by
 have hi := index_writes l hl
 have hs := firstI_all writeB l
 cases ha : l.all writeB with
 | true =>
  have hneg : ¬ 0 ≤ firstI (fun x => !writeB x) l := fun h => by rw [hs.1 h] at ha; cases ha
  refine ac_fn Try.func44 rfl rfl rfl rfl (fun w0 S0 r0 => ?_)
  refine aw_seq ?_
  refine aw_region ?_
  refine st_p (mva rfl) rfl ?_
  refine al_nil ?_
  refine nm ?_
  refine aw_seq ?_
  refine aw_region ?_
  refine st_p (mv rfl) rfl ?_
  refine st_p (mv rfl) rfl ?_
  refine st_o ((op_callq (hi) Try.func81 ⟨rfl, rfl⟩ rfl rfl (fun nx => (.cons (.same (by rfl)) (.cons (.same (by rfl)) .nil))) (by rintro _ _ _ ⟨rfl, rfl, rfl⟩; exact .same rfl)).ok) rfl ?_
  refine st_p (OpP.conv (op_ge rfl rfl) (no (by first | assumption | omega))) rfl ?_
  refine st_p (mva rfl) rfl ?_
  refine al_nil ?_
  refine nm ?_
  refine aw_ret ?_
  exact ret_v (res1 Try.results44) (.inr ⟨rfl, rfl⟩) ⟨rfl, rfl, rfl⟩
 | false =>
  have hpos : 0 ≤ firstI (fun x => !writeB x) l := hs.2 ha
  refine ac_fn Try.func44 rfl rfl rfl rfl (fun w0 S0 r0 => ?_)
  refine aw_seq ?_
  refine aw_region ?_
  refine st_p (mva rfl) rfl ?_
  refine al_nil ?_
  refine nm ?_
  refine aw_seq ?_
  refine aw_region ?_
  refine st_p (mv rfl) rfl ?_
  refine st_p (mv rfl) rfl ?_
  refine st_o ((op_callq (hi) Try.func81 ⟨rfl, rfl⟩ rfl rfl (fun nx => (.cons (.same (by rfl)) (.cons (.same (by rfl)) .nil))) (by rintro _ _ _ ⟨rfl, rfl, rfl⟩; exact .same rfl)).ok) rfl ?_
  refine st_p (OpP.conv (op_ge rfl rfl) (yes (by first | assumption | omega))) rfl ?_
  refine st_p (mva rfl) rfl ?_
  refine al_nil ?_
  refine nm ?_
  refine aw_ret ?_
  exact ret_v (res1 Try.results44) (.inr ⟨rfl, rfl⟩) ⟨rfl, rfl, rfl⟩

end Go.Proofs.Ytpggknkhldecaaa.Abs
end
section
namespace Go.Proofs.Ytpggknkhldecaaa.Abs

theorem Lend.whole {h : Heap} {τ : Nat → Nat} {ps : List Nat} {al : Bool} {b len sz : Nat} {xs ys : List AV} (hal : al = false) (hn : ps.contains b = false) (hb : hget h b = some (.cells sz xs)) (hl : len = xs.length) (hy : xs = ys) (hpl : xs.all AV.plain = true) : Lend al h τ ps (.own b 0 len) (.sl sz ys) := by
 have := Lend.own (τ := τ) (st := 0) (len := len) hal hn hb (by omega) hpl
 rw [List.drop_zero, hl, List.take_length, hy] at this
 rwa [hl, hy]

def mayTxB (t : TX) : Bool := decide (1 ≤ t.ses) && (decide (t.ses ≤ 9) && (decide (1 ≤ t.seq) && (decide (t.seq ≤ 1000) && (decide (t.reads.length ≤ 6) && (risingB (t.reads.map RD.key) && (decide (t.writes.length ≤ 4) && (risingB (t.writes.map WR.key) && (t.reads.all readB && t.writes.all writeB))))))))

set_option maxHeartbeats 4000000 in
theorem txn_May (t : TX) (hr : t.reads.length ≤ 1000000) (hw : t.writes.length ≤ 1000000) (hkr : ∀ r ∈ t.reads, r.key.length ≤ 281474976710656) (hkw : ∀ w ∈ t.writes, w.key.length ≤ 281474976710656) :
  AC Try.prog 10 [txA t] [] 0 false (fun v h nx => v = .bool (mayTxB t) ∧ h = [] ∧ nx = 0) := by
 have hkeys := txn_keys t hr hw
 obtain ⟨ses, seq, rs, ws⟩ := t
 dsimp only at hr hw hkr hkw
 dsimp only [txA] at hkeys ⊢
 have h5 := key_Rising (rs.map RD.key) (by rw [List.length_map]; omega) (fun k hk => by obtain ⟨r, hr, rfl⟩ := List.mem_map.1 hk; exact hkr r hr)
 have h7 := key_Rising (ws.map WR.key) (by rw [List.length_map]; omega) (fun k hk => by obtain ⟨w, hw, rfl⟩ := List.mem_map.1 hk; exact hkw w hw)
 have h8 := contains_reads rs hr
 have h9 := contains_writes ws hw
 by_cases c0 : 1 ≤ ses
 ·by_cases c1 : ses ≤ 9
  ·by_cases c2 : 1 ≤ seq
   ·by_cases c3 : seq ≤ 1000
    ·by_cases c4 : rs.length ≤ 6
     ·cases c5 : risingB (rs.map RD.key) with
      | true =>
       rw [c5] at h5
       by_cases c6 : ws.length ≤ 4
       ·cases c7 : risingB (ws.map WR.key) with
        | true =>
         rw [c7] at h7
         cases c8 : rs.all readB with
         | true =>
          rw [c8] at h8
          cases c9 : ws.all writeB with
          | true =>
           rw [c9] at h9
           refine ac_fn Try.func10 rfl rfl rfl rfl (fun w0 S0 r0 => ?_)
           refine aw_seq ?_
           refine aw_region ?_
           refine st_o (bx rfl rfl) rfl ?_
           refine st_p (mva rfl) rfl ?_
           refine al_nil ?_
           refine nm ?_
           refine aw_seq ?_
           refine aw_region ?_
           refine st_p (op_loadA Try.underlying26 rfl z26 rfl rfl rfl rfl) rfl ?_
           refine st_call0 (hkeys) Try.func39 ⟨rfl, rfl⟩ rfl (.cons (.same (by rfl)) .nil) rfl ?_
           rintro _ _ _ ⟨rfl, rfl, rfl⟩ r2 h2 n2 hr hh hn
           simp only [AV.ren, rens, Blk.ren, swp, List.map_cons, List.map_nil, List.cons_append, List.nil_append, List.append_nil, Nat.not_lt_zero, if_false, Nat.reduceAdd, Nat.zero_add, Nat.add_zero, ren_bl] at hr hh hn
           subst hr hh hn
           refine st_p (mv rfl) rfl ?_
           refine st_p (op_extract rfl rfl) rfl ?_
           refine st_p (op_extract rfl rfl) rfl ?_
           refine st_p (mva rfl) rfl ?_
           refine st_p (mva rfl) rfl ?_
           refine al_nil ?_
           refine nm ?_
           refine aw_seq ?_
           refine aw_region ?_
           refine st_p (op_fieldAddr Try.underlying26 rfl z3 (by decide) rfl) rfl ?_
           refine st_p (op_load1 Try.underlying3 rfl rfl rfl rfl rfl) rfl ?_
           refine st_p (OpP.conv (op_ge rfl rfl) (yes (by first | assumption | omega))) rfl ?_
           refine st_p (mv rfl) rfl ?_
           refine st_pg rfl rfl rfl (op_fieldAddr Try.underlying26 rfl z3 (by decide) rfl) rfl ?_
           refine st_pg rfl rfl rfl (op_load1 Try.underlying3 rfl rfl rfl rfl rfl) rfl ?_
           refine st_pg rfl rfl rfl (OpP.conv (op_le rfl rfl) (yes (by first | assumption | omega))) rfl ?_
           refine st_p (pkT rfl rfl) rfl ?_
           refine st_p (mv rfl) rfl ?_
           refine st_pg rfl rfl rfl (op_fieldAddr Try.underlying26 rfl z3 (by decide) rfl) rfl ?_
           refine st_pg rfl rfl rfl (op_load1 Try.underlying3 rfl rfl rfl rfl rfl) rfl ?_
           refine st_pg rfl rfl rfl (OpP.conv (op_ge rfl rfl) (yes (by first | assumption | omega))) rfl ?_
           refine st_p (pkT rfl rfl) rfl ?_
           refine st_p (mv rfl) rfl ?_
           refine st_pg rfl rfl rfl (op_fieldAddr Try.underlying26 rfl z3 (by decide) rfl) rfl ?_
           refine st_pg rfl rfl rfl (op_load1 Try.underlying3 rfl rfl rfl rfl rfl) rfl ?_
           refine st_pg rfl rfl rfl (OpP.conv (op_le rfl rfl) (yes (by first | assumption | omega))) rfl ?_
           refine st_p (pkT rfl rfl) rfl ?_
           refine st_p (mv rfl) rfl ?_
           refine st_pg rfl rfl rfl (mv rfl) rfl ?_
           refine st_pg rfl rfl rfl (op_leno Try.underlying71 rfl) rfl ?_
           refine st_pg rfl rfl rfl (OpP.conv (op_le rfl rfl) (yes (by first | assumption | omega))) rfl ?_
           refine st_p (pkT rfl rfl) rfl ?_
           refine st_p (mv rfl) rfl ?_
           refine st_pg rfl rfl rfl (mv rfl) rfl ?_
           refine st_og rfl rfl rfl ((op_callq (h5) Try.func40 ⟨rfl, rfl⟩ rfl rfl (fun nx => (.cons (.whole rfl rfl rfl (by first | rfl | simp) (by first | rfl | simp [Function.comp_def, AV.ren, sb]) (by first | rfl | simp [AV.plain, plains, bl_plain, sb, AV.ren])) .nil)) (by rintro _ _ _ ⟨rfl, rfl, rfl⟩; exact .same rfl)).ok) rfl ?_
           refine st_p (pkT rfl rfl) rfl ?_
           refine st_p (mv rfl) rfl ?_
           refine st_pg rfl rfl rfl (mv rfl) rfl ?_
           refine st_pg rfl rfl rfl (op_leno Try.underlying71 rfl) rfl ?_
           refine st_pg rfl rfl rfl (OpP.conv (op_le rfl rfl) (yes (by first | assumption | omega))) rfl ?_
           refine st_p (pkT rfl rfl) rfl ?_
           refine st_p (mv rfl) rfl ?_
           refine st_pg rfl rfl rfl (mv rfl) rfl ?_
           refine st_og rfl rfl rfl ((op_callq (h7) Try.func40 ⟨rfl, rfl⟩ rfl rfl (fun nx => (.cons (.whole rfl rfl rfl (by first | rfl | simp) (by first | rfl | simp [Function.comp_def, AV.ren, sb]) (by first | rfl | simp [AV.plain, plains, bl_plain, sb, AV.ren])) .nil)) (by rintro _ _ _ ⟨rfl, rfl, rfl⟩; exact .same rfl)).ok) rfl ?_
           refine st_p (pkT rfl rfl) rfl ?_
           refine st_p (mv rfl) rfl ?_
           refine st_pg rfl rfl rfl (op_fieldAddr Try.underlying26 rfl z23 (by decide) rfl) rfl ?_
           refine st_pg rfl rfl rfl (op_load1 Try.underlying23 rfl rfl rfl rfl rfl) rfl ?_
           refine st_og rfl rfl rfl ((op_callq (h8) Try.func41 ⟨rfl, rfl⟩ rfl rfl (fun nx => (.cons (.same (by rfl)) (.cons (.same (by rfl)) .nil))) (by rintro _ _ _ ⟨rfl, rfl, rfl⟩; exact .same rfl)).ok) rfl ?_
           refine st_pg rfl rfl rfl (op_notF rfl) rfl ?_
           refine st_p (pkT rfl rfl) rfl ?_
           refine st_p (mv rfl) rfl ?_
           refine st_pg rfl rfl rfl (op_fieldAddr Try.underlying26 rfl z24 (by decide) rfl) rfl ?_
           refine st_pg rfl rfl rfl (op_load1 Try.underlying24 rfl rfl rfl rfl rfl) rfl ?_
           refine st_og rfl rfl rfl ((op_callq (h9) Try.func44 ⟨rfl, rfl⟩ rfl rfl (fun nx => (.cons (.same (by rfl)) (.cons (.same (by rfl)) .nil))) (by rintro _ _ _ ⟨rfl, rfl, rfl⟩; exact .same rfl)).ok) rfl ?_
           refine st_pg rfl rfl rfl (op_notF rfl) rfl ?_
           refine st_p (pkT rfl rfl) rfl ?_
           refine st_p (mva rfl) rfl ?_
           refine al_nil ?_
           refine nm ?_
           refine aw_ret ?_
           exact ret_a ⟨[(2, .bool true)], [], 0⟩ (le_to [] rfl rfl rfl rfl rfl ⟨rfl, trivial⟩ trivial) (res1 Try.results10) (.inr ⟨rfl, rfl⟩) ⟨by simp [mayTxB, tget, c0, c1, c2, c3, c4, c5, c6, c7, c8, c9], rfl, rfl⟩
          | false =>
           rw [c9] at h9
           refine ac_fn Try.func10 rfl rfl rfl rfl (fun w0 S0 r0 => ?_)
           refine aw_seq ?_
           refine aw_region ?_
           refine st_o (bx rfl rfl) rfl ?_
           refine st_p (mva rfl) rfl ?_
           refine al_nil ?_
           refine nm ?_
           refine aw_seq ?_
           refine aw_region ?_
           refine st_p (op_loadA Try.underlying26 rfl z26 rfl rfl rfl rfl) rfl ?_
           refine st_call0 (hkeys) Try.func39 ⟨rfl, rfl⟩ rfl (.cons (.same (by rfl)) .nil) rfl ?_
           rintro _ _ _ ⟨rfl, rfl, rfl⟩ r2 h2 n2 hr hh hn
           simp only [AV.ren, rens, Blk.ren, swp, List.map_cons, List.map_nil, List.cons_append, List.nil_append, List.append_nil, Nat.not_lt_zero, if_false, Nat.reduceAdd, Nat.zero_add, Nat.add_zero, ren_bl] at hr hh hn
           subst hr hh hn
           refine st_p (mv rfl) rfl ?_
           refine st_p (op_extract rfl rfl) rfl ?_
           refine st_p (op_extract rfl rfl) rfl ?_
           refine st_p (mva rfl) rfl ?_
           refine st_p (mva rfl) rfl ?_
           refine al_nil ?_
           refine nm ?_
           refine aw_seq ?_
           refine aw_region ?_
           refine st_p (op_fieldAddr Try.underlying26 rfl z3 (by decide) rfl) rfl ?_
           refine st_p (op_load1 Try.underlying3 rfl rfl rfl rfl rfl) rfl ?_
           refine st_p (OpP.conv (op_ge rfl rfl) (yes (by first | assumption | omega))) rfl ?_
           refine st_p (mv rfl) rfl ?_
           refine st_pg rfl rfl rfl (op_fieldAddr Try.underlying26 rfl z3 (by decide) rfl) rfl ?_
           refine st_pg rfl rfl rfl (op_load1 Try.underlying3 rfl rfl rfl rfl rfl) rfl ?_
           refine st_pg rfl rfl rfl (OpP.conv (op_le rfl rfl) (yes (by first | assumption | omega))) rfl ?_
           refine st_p (pkT rfl rfl) rfl ?_
           refine st_p (mv rfl) rfl ?_
           refine st_pg rfl rfl rfl (op_fieldAddr Try.underlying26 rfl z3 (by decide) rfl) rfl ?_
           refine st_pg rfl rfl rfl (op_load1 Try.underlying3 rfl rfl rfl rfl rfl) rfl ?_
           refine st_pg rfl rfl rfl (OpP.conv (op_ge rfl rfl) (yes (by first | assumption | omega))) rfl ?_
           refine st_p (pkT rfl rfl) rfl ?_
           refine st_p (mv rfl) rfl ?_
           refine st_pg rfl rfl rfl (op_fieldAddr Try.underlying26 rfl z3 (by decide) rfl) rfl ?_
           refine st_pg rfl rfl rfl (op_load1 Try.underlying3 rfl rfl rfl rfl rfl) rfl ?_
           refine st_pg rfl rfl rfl (OpP.conv (op_le rfl rfl) (yes (by first | assumption | omega))) rfl ?_
           refine st_p (pkT rfl rfl) rfl ?_
           refine st_p (mv rfl) rfl ?_
           refine st_pg rfl rfl rfl (mv rfl) rfl ?_
           refine st_pg rfl rfl rfl (op_leno Try.underlying71 rfl) rfl ?_
           refine st_pg rfl rfl rfl (OpP.conv (op_le rfl rfl) (yes (by first | assumption | omega))) rfl ?_
           refine st_p (pkT rfl rfl) rfl ?_
           refine st_p (mv rfl) rfl ?_
           refine st_pg rfl rfl rfl (mv rfl) rfl ?_
           refine st_og rfl rfl rfl ((op_callq (h5) Try.func40 ⟨rfl, rfl⟩ rfl rfl (fun nx => (.cons (.whole rfl rfl rfl (by first | rfl | simp) (by first | rfl | simp [Function.comp_def, AV.ren, sb]) (by first | rfl | simp [AV.plain, plains, bl_plain, sb, AV.ren])) .nil)) (by rintro _ _ _ ⟨rfl, rfl, rfl⟩; exact .same rfl)).ok) rfl ?_
           refine st_p (pkT rfl rfl) rfl ?_
           refine st_p (mv rfl) rfl ?_
           refine st_pg rfl rfl rfl (mv rfl) rfl ?_
           refine st_pg rfl rfl rfl (op_leno Try.underlying71 rfl) rfl ?_
           refine st_pg rfl rfl rfl (OpP.conv (op_le rfl rfl) (yes (by first | assumption | omega))) rfl ?_
           refine st_p (pkT rfl rfl) rfl ?_
           refine st_p (mv rfl) rfl ?_
           refine st_pg rfl rfl rfl (mv rfl) rfl ?_
           refine st_og rfl rfl rfl ((op_callq (h7) Try.func40 ⟨rfl, rfl⟩ rfl rfl (fun nx => (.cons (.whole rfl rfl rfl (by first | rfl | simp) (by first | rfl | simp [Function.comp_def, AV.ren, sb]) (by first | rfl | simp [AV.plain, plains, bl_plain, sb, AV.ren])) .nil)) (by rintro _ _ _ ⟨rfl, rfl, rfl⟩; exact .same rfl)).ok) rfl ?_
           refine st_p (pkT rfl rfl) rfl ?_
           refine st_p (mv rfl) rfl ?_
           refine st_pg rfl rfl rfl (op_fieldAddr Try.underlying26 rfl z23 (by decide) rfl) rfl ?_
           refine st_pg rfl rfl rfl (op_load1 Try.underlying23 rfl rfl rfl rfl rfl) rfl ?_
           refine st_og rfl rfl rfl ((op_callq (h8) Try.func41 ⟨rfl, rfl⟩ rfl rfl (fun nx => (.cons (.same (by rfl)) (.cons (.same (by rfl)) .nil))) (by rintro _ _ _ ⟨rfl, rfl, rfl⟩; exact .same rfl)).ok) rfl ?_
           refine st_pg rfl rfl rfl (op_notF rfl) rfl ?_
           refine st_p (pkT rfl rfl) rfl ?_
           refine st_p (mv rfl) rfl ?_
           refine st_pg rfl rfl rfl (op_fieldAddr Try.underlying26 rfl z24 (by decide) rfl) rfl ?_
           refine st_pg rfl rfl rfl (op_load1 Try.underlying24 rfl rfl rfl rfl rfl) rfl ?_
           refine st_og rfl rfl rfl ((op_callq (h9) Try.func44 ⟨rfl, rfl⟩ rfl rfl (fun nx => (.cons (.same (by rfl)) (.cons (.same (by rfl)) .nil))) (by rintro _ _ _ ⟨rfl, rfl, rfl⟩; exact .same rfl)).ok) rfl ?_
           refine st_pg rfl rfl rfl (op_notT rfl) rfl ?_
           refine st_p (pkT rfl rfl) rfl ?_
           refine st_p (mva rfl) rfl ?_
           refine al_nil ?_
           refine nm ?_
           refine aw_ret ?_
           exact ret_a ⟨[(2, .bool false)], [], 0⟩ (le_to [] rfl rfl rfl rfl rfl ⟨rfl, trivial⟩ trivial) (res1 Try.results10) (.inr ⟨rfl, rfl⟩) ⟨by simp [mayTxB, tget, c0, c1, c2, c3, c4, c5, c6, c7, c8, c9], rfl, rfl⟩
         | false =>
          rw [c8] at h8
          refine ac_fn Try.func10 rfl rfl rfl rfl (fun w0 S0 r0 => ?_)
          refine aw_seq ?_
          refine aw_region ?_
          refine st_o (bx rfl rfl) rfl ?_
          refine st_p (mva rfl) rfl ?_
          refine al_nil ?_
          refine nm ?_
          refine aw_seq ?_
          refine aw_region ?_
          refine st_p (op_loadA Try.underlying26 rfl z26 rfl rfl rfl rfl) rfl ?_
          refine st_call0 (hkeys) Try.func39 ⟨rfl, rfl⟩ rfl (.cons (.same (by rfl)) .nil) rfl ?_
          rintro _ _ _ ⟨rfl, rfl, rfl⟩ r2 h2 n2 hr hh hn
          simp only [AV.ren, rens, Blk.ren, swp, List.map_cons, List.map_nil, List.cons_append, List.nil_append, List.append_nil, Nat.not_lt_zero, if_false, Nat.reduceAdd, Nat.zero_add, Nat.add_zero, ren_bl] at hr hh hn
          subst hr hh hn
          refine st_p (mv rfl) rfl ?_
          refine st_p (op_extract rfl rfl) rfl ?_
          refine st_p (op_extract rfl rfl) rfl ?_
          refine st_p (mva rfl) rfl ?_
          refine st_p (mva rfl) rfl ?_
          refine al_nil ?_
          refine nm ?_
          refine aw_seq ?_
          refine aw_region ?_
          refine st_p (op_fieldAddr Try.underlying26 rfl z3 (by decide) rfl) rfl ?_
          refine st_p (op_load1 Try.underlying3 rfl rfl rfl rfl rfl) rfl ?_
          refine st_p (OpP.conv (op_ge rfl rfl) (yes (by first | assumption | omega))) rfl ?_
          refine st_p (mv rfl) rfl ?_
          refine st_pg rfl rfl rfl (op_fieldAddr Try.underlying26 rfl z3 (by decide) rfl) rfl ?_
          refine st_pg rfl rfl rfl (op_load1 Try.underlying3 rfl rfl rfl rfl rfl) rfl ?_
          refine st_pg rfl rfl rfl (OpP.conv (op_le rfl rfl) (yes (by first | assumption | omega))) rfl ?_
          refine st_p (pkT rfl rfl) rfl ?_
          refine st_p (mv rfl) rfl ?_
          refine st_pg rfl rfl rfl (op_fieldAddr Try.underlying26 rfl z3 (by decide) rfl) rfl ?_
          refine st_pg rfl rfl rfl (op_load1 Try.underlying3 rfl rfl rfl rfl rfl) rfl ?_
          refine st_pg rfl rfl rfl (OpP.conv (op_ge rfl rfl) (yes (by first | assumption | omega))) rfl ?_
          refine st_p (pkT rfl rfl) rfl ?_
          refine st_p (mv rfl) rfl ?_
          refine st_pg rfl rfl rfl (op_fieldAddr Try.underlying26 rfl z3 (by decide) rfl) rfl ?_
          refine st_pg rfl rfl rfl (op_load1 Try.underlying3 rfl rfl rfl rfl rfl) rfl ?_
          refine st_pg rfl rfl rfl (OpP.conv (op_le rfl rfl) (yes (by first | assumption | omega))) rfl ?_
          refine st_p (pkT rfl rfl) rfl ?_
          refine st_p (mv rfl) rfl ?_
          refine st_pg rfl rfl rfl (mv rfl) rfl ?_
          refine st_pg rfl rfl rfl (op_leno Try.underlying71 rfl) rfl ?_
          refine st_pg rfl rfl rfl (OpP.conv (op_le rfl rfl) (yes (by first | assumption | omega))) rfl ?_
          refine st_p (pkT rfl rfl) rfl ?_
          refine st_p (mv rfl) rfl ?_
          refine st_pg rfl rfl rfl (mv rfl) rfl ?_
          refine st_og rfl rfl rfl ((op_callq (h5) Try.func40 ⟨rfl, rfl⟩ rfl rfl (fun nx => (.cons (.whole rfl rfl rfl (by first | rfl | simp) (by first | rfl | simp [Function.comp_def, AV.ren, sb]) (by first | rfl | simp [AV.plain, plains, bl_plain, sb, AV.ren])) .nil)) (by rintro _ _ _ ⟨rfl, rfl, rfl⟩; exact .same rfl)).ok) rfl ?_
          refine st_p (pkT rfl rfl) rfl ?_
          refine st_p (mv rfl) rfl ?_
          refine st_pg rfl rfl rfl (mv rfl) rfl ?_
          refine st_pg rfl rfl rfl (op_leno Try.underlying71 rfl) rfl ?_
          refine st_pg rfl rfl rfl (OpP.conv (op_le rfl rfl) (yes (by first | assumption | omega))) rfl ?_
          refine st_p (pkT rfl rfl) rfl ?_
          refine st_p (mv rfl) rfl ?_
          refine st_pg rfl rfl rfl (mv rfl) rfl ?_
          refine st_og rfl rfl rfl ((op_callq (h7) Try.func40 ⟨rfl, rfl⟩ rfl rfl (fun nx => (.cons (.whole rfl rfl rfl (by first | rfl | simp) (by first | rfl | simp [Function.comp_def, AV.ren, sb]) (by first | rfl | simp [AV.plain, plains, bl_plain, sb, AV.ren])) .nil)) (by rintro _ _ _ ⟨rfl, rfl, rfl⟩; exact .same rfl)).ok) rfl ?_
          refine st_p (pkT rfl rfl) rfl ?_
          refine st_p (mv rfl) rfl ?_
          refine st_pg rfl rfl rfl (op_fieldAddr Try.underlying26 rfl z23 (by decide) rfl) rfl ?_
          refine st_pg rfl rfl rfl (op_load1 Try.underlying23 rfl rfl rfl rfl rfl) rfl ?_
          refine st_og rfl rfl rfl ((op_callq (h8) Try.func41 ⟨rfl, rfl⟩ rfl rfl (fun nx => (.cons (.same (by rfl)) (.cons (.same (by rfl)) .nil))) (by rintro _ _ _ ⟨rfl, rfl, rfl⟩; exact .same rfl)).ok) rfl ?_
          refine st_pg rfl rfl rfl (op_notT rfl) rfl ?_
          refine st_p (pkT rfl rfl) rfl ?_
          refine st_p (mv rfl) rfl ?_
          refine st_s rfl rfl rfl rfl rfl ?_
          refine st_s rfl rfl rfl rfl rfl ?_
          refine st_s rfl rfl rfl rfl rfl ?_
          refine st_s rfl rfl rfl rfl rfl ?_
          refine st_p (pkF rfl rfl) rfl ?_
          refine st_p (mva rfl) rfl ?_
          refine al_nil ?_
          refine nm ?_
          refine aw_ret ?_
          exact ret_a ⟨[(2, .bool false)], [], 0⟩ (le_to [] rfl rfl rfl rfl rfl ⟨rfl, trivial⟩ trivial) (res1 Try.results10) (.inr ⟨rfl, rfl⟩) ⟨by simp [mayTxB, tget, c0, c1, c2, c3, c4, c5, c6, c7, c8], rfl, rfl⟩
        | false =>
         rw [c7] at h7
         refine ac_fn Try.func10 rfl rfl rfl rfl (fun w0 S0 r0 => ?_)
         refine aw_seq ?_
         refine aw_region ?_
         refine st_o (bx rfl rfl) rfl ?_
         refine st_p (mva rfl) rfl ?_
         refine al_nil ?_
         refine nm ?_
         refine aw_seq ?_
         refine aw_region ?_
         refine st_p (op_loadA Try.underlying26 rfl z26 rfl rfl rfl rfl) rfl ?_
         refine st_call0 (hkeys) Try.func39 ⟨rfl, rfl⟩ rfl (.cons (.same (by rfl)) .nil) rfl ?_
         rintro _ _ _ ⟨rfl, rfl, rfl⟩ r2 h2 n2 hr hh hn
         simp only [AV.ren, rens, Blk.ren, swp, List.map_cons, List.map_nil, List.cons_append, List.nil_append, List.append_nil, Nat.not_lt_zero, if_false, Nat.reduceAdd, Nat.zero_add, Nat.add_zero, ren_bl] at hr hh hn
         subst hr hh hn
         refine st_p (mv rfl) rfl ?_
         refine st_p (op_extract rfl rfl) rfl ?_
         refine st_p (op_extract rfl rfl) rfl ?_
         refine st_p (mva rfl) rfl ?_
         refine st_p (mva rfl) rfl ?_
         refine al_nil ?_
         refine nm ?_
         refine aw_seq ?_
         refine aw_region ?_
         refine st_p (op_fieldAddr Try.underlying26 rfl z3 (by decide) rfl) rfl ?_
         refine st_p (op_load1 Try.underlying3 rfl rfl rfl rfl rfl) rfl ?_
         refine st_p (OpP.conv (op_ge rfl rfl) (yes (by first | assumption | omega))) rfl ?_
         refine st_p (mv rfl) rfl ?_
         refine st_pg rfl rfl rfl (op_fieldAddr Try.underlying26 rfl z3 (by decide) rfl) rfl ?_
         refine st_pg rfl rfl rfl (op_load1 Try.underlying3 rfl rfl rfl rfl rfl) rfl ?_
         refine st_pg rfl rfl rfl (OpP.conv (op_le rfl rfl) (yes (by first | assumption | omega))) rfl ?_
         refine st_p (pkT rfl rfl) rfl ?_
         refine st_p (mv rfl) rfl ?_
         refine st_pg rfl rfl rfl (op_fieldAddr Try.underlying26 rfl z3 (by decide) rfl) rfl ?_
         refine st_pg rfl rfl rfl (op_load1 Try.underlying3 rfl rfl rfl rfl rfl) rfl ?_
         refine st_pg rfl rfl rfl (OpP.conv (op_ge rfl rfl) (yes (by first | assumption | omega))) rfl ?_
         refine st_p (pkT rfl rfl) rfl ?_
         refine st_p (mv rfl) rfl ?_
         refine st_pg rfl rfl rfl (op_fieldAddr Try.underlying26 rfl z3 (by decide) rfl) rfl ?_
         refine st_pg rfl rfl rfl (op_load1 Try.underlying3 rfl rfl rfl rfl rfl) rfl ?_
         refine st_pg rfl rfl rfl (OpP.conv (op_le rfl rfl) (yes (by first | assumption | omega))) rfl ?_
         refine st_p (pkT rfl rfl) rfl ?_
         refine st_p (mv rfl) rfl ?_
         refine st_pg rfl rfl rfl (mv rfl) rfl ?_
         refine st_pg rfl rfl rfl (op_leno Try.underlying71 rfl) rfl ?_
         refine st_pg rfl rfl rfl (OpP.conv (op_le rfl rfl) (yes (by first | assumption | omega))) rfl ?_
         refine st_p (pkT rfl rfl) rfl ?_
         refine st_p (mv rfl) rfl ?_
         refine st_pg rfl rfl rfl (mv rfl) rfl ?_
         refine st_og rfl rfl rfl ((op_callq (h5) Try.func40 ⟨rfl, rfl⟩ rfl rfl (fun nx => (.cons (.whole rfl rfl rfl (by first | rfl | simp) (by first | rfl | simp [Function.comp_def, AV.ren, sb]) (by first | rfl | simp [AV.plain, plains, bl_plain, sb, AV.ren])) .nil)) (by rintro _ _ _ ⟨rfl, rfl, rfl⟩; exact .same rfl)).ok) rfl ?_
         refine st_p (pkT rfl rfl) rfl ?_
         refine st_p (mv rfl) rfl ?_
         refine st_pg rfl rfl rfl (mv rfl) rfl ?_
         refine st_pg rfl rfl rfl (op_leno Try.underlying71 rfl) rfl ?_
         refine st_pg rfl rfl rfl (OpP.conv (op_le rfl rfl) (yes (by first | assumption | omega))) rfl ?_
         refine st_p (pkT rfl rfl) rfl ?_
         refine st_p (mv rfl) rfl ?_
         refine st_pg rfl rfl rfl (mv rfl) rfl ?_
         refine st_og rfl rfl rfl ((op_callq (h7) Try.func40 ⟨rfl, rfl⟩ rfl rfl (fun nx => (.cons (.whole rfl rfl rfl (by first | rfl | simp) (by first | rfl | simp [Function.comp_def, AV.ren, sb]) (by first | rfl | simp [AV.plain, plains, bl_plain, sb, AV.ren])) .nil)) (by rintro _ _ _ ⟨rfl, rfl, rfl⟩; exact .same rfl)).ok) rfl ?_
         refine st_p (pkT rfl rfl) rfl ?_
         refine st_p (mv rfl) rfl ?_
         refine st_s rfl rfl rfl rfl rfl ?_
         refine st_s rfl rfl rfl rfl rfl ?_
         refine st_s rfl rfl rfl rfl rfl ?_
         refine st_s rfl rfl rfl rfl rfl ?_
         refine st_p (pkF rfl rfl) rfl ?_
         refine st_p (mv rfl) rfl ?_
         refine st_s rfl rfl rfl rfl rfl ?_
         refine st_s rfl rfl rfl rfl rfl ?_
         refine st_s rfl rfl rfl rfl rfl ?_
         refine st_s rfl rfl rfl rfl rfl ?_
         refine st_p (pkF rfl rfl) rfl ?_
         refine st_p (mva rfl) rfl ?_
         refine al_nil ?_
         refine nm ?_
         refine aw_ret ?_
         exact ret_a ⟨[(2, .bool false)], [], 0⟩ (le_to [] rfl rfl rfl rfl rfl ⟨rfl, trivial⟩ trivial) (res1 Try.results10) (.inr ⟨rfl, rfl⟩) ⟨by simp [mayTxB, tget, c0, c1, c2, c3, c4, c5, c6, c7], rfl, rfl⟩
       ·skip
        refine ac_fn Try.func10 rfl rfl rfl rfl (fun w0 S0 r0 => ?_)
        refine aw_seq ?_
        refine aw_region ?_
        refine st_o (bx rfl rfl) rfl ?_
        refine st_p (mva rfl) rfl ?_
        refine al_nil ?_
        refine nm ?_
        refine aw_seq ?_
        refine aw_region ?_
        refine st_p (op_loadA Try.underlying26 rfl z26 rfl rfl rfl rfl) rfl ?_
        refine st_call0 (hkeys) Try.func39 ⟨rfl, rfl⟩ rfl (.cons (.same (by rfl)) .nil) rfl ?_
        rintro _ _ _ ⟨rfl, rfl, rfl⟩ r2 h2 n2 hr hh hn
        simp only [AV.ren, rens, Blk.ren, swp, List.map_cons, List.map_nil, List.cons_append, List.nil_append, List.append_nil, Nat.not_lt_zero, if_false, Nat.reduceAdd, Nat.zero_add, Nat.add_zero, ren_bl] at hr hh hn
        subst hr hh hn
        refine st_p (mv rfl) rfl ?_
        refine st_p (op_extract rfl rfl) rfl ?_
        refine st_p (op_extract rfl rfl) rfl ?_
        refine st_p (mva rfl) rfl ?_
        refine st_p (mva rfl) rfl ?_
        refine al_nil ?_
        refine nm ?_
        refine aw_seq ?_
        refine aw_region ?_
        refine st_p (op_fieldAddr Try.underlying26 rfl z3 (by decide) rfl) rfl ?_
        refine st_p (op_load1 Try.underlying3 rfl rfl rfl rfl rfl) rfl ?_
        refine st_p (OpP.conv (op_ge rfl rfl) (yes (by first | assumption | omega))) rfl ?_
        refine st_p (mv rfl) rfl ?_
        refine st_pg rfl rfl rfl (op_fieldAddr Try.underlying26 rfl z3 (by decide) rfl) rfl ?_
        refine st_pg rfl rfl rfl (op_load1 Try.underlying3 rfl rfl rfl rfl rfl) rfl ?_
        refine st_pg rfl rfl rfl (OpP.conv (op_le rfl rfl) (yes (by first | assumption | omega))) rfl ?_
        refine st_p (pkT rfl rfl) rfl ?_
        refine st_p (mv rfl) rfl ?_
        refine st_pg rfl rfl rfl (op_fieldAddr Try.underlying26 rfl z3 (by decide) rfl) rfl ?_
        refine st_pg rfl rfl rfl (op_load1 Try.underlying3 rfl rfl rfl rfl rfl) rfl ?_
        refine st_pg rfl rfl rfl (OpP.conv (op_ge rfl rfl) (yes (by first | assumption | omega))) rfl ?_
        refine st_p (pkT rfl rfl) rfl ?_
        refine st_p (mv rfl) rfl ?_
        refine st_pg rfl rfl rfl (op_fieldAddr Try.underlying26 rfl z3 (by decide) rfl) rfl ?_
        refine st_pg rfl rfl rfl (op_load1 Try.underlying3 rfl rfl rfl rfl rfl) rfl ?_
        refine st_pg rfl rfl rfl (OpP.conv (op_le rfl rfl) (yes (by first | assumption | omega))) rfl ?_
        refine st_p (pkT rfl rfl) rfl ?_
        refine st_p (mv rfl) rfl ?_
        refine st_pg rfl rfl rfl (mv rfl) rfl ?_
        refine st_pg rfl rfl rfl (op_leno Try.underlying71 rfl) rfl ?_
        refine st_pg rfl rfl rfl (OpP.conv (op_le rfl rfl) (yes (by first | assumption | omega))) rfl ?_
        refine st_p (pkT rfl rfl) rfl ?_
        refine st_p (mv rfl) rfl ?_
        refine st_pg rfl rfl rfl (mv rfl) rfl ?_
        refine st_og rfl rfl rfl ((op_callq (h5) Try.func40 ⟨rfl, rfl⟩ rfl rfl (fun nx => (.cons (.whole rfl rfl rfl (by first | rfl | simp) (by first | rfl | simp [Function.comp_def, AV.ren, sb]) (by first | rfl | simp [AV.plain, plains, bl_plain, sb, AV.ren])) .nil)) (by rintro _ _ _ ⟨rfl, rfl, rfl⟩; exact .same rfl)).ok) rfl ?_
        refine st_p (pkT rfl rfl) rfl ?_
        refine st_p (mv rfl) rfl ?_
        refine st_pg rfl rfl rfl (mv rfl) rfl ?_
        refine st_pg rfl rfl rfl (op_leno Try.underlying71 rfl) rfl ?_
        refine st_pg rfl rfl rfl (OpP.conv (op_le rfl rfl) (no (by first | assumption | omega))) rfl ?_
        refine st_p (pkT rfl rfl) rfl ?_
        refine st_p (mv rfl) rfl ?_
        refine st_s rfl rfl rfl rfl rfl ?_
        refine st_s rfl rfl rfl rfl rfl ?_
        refine st_p (pkF rfl rfl) rfl ?_
        refine st_p (mv rfl) rfl ?_
        refine st_s rfl rfl rfl rfl rfl ?_
        refine st_s rfl rfl rfl rfl rfl ?_
        refine st_s rfl rfl rfl rfl rfl ?_
        refine st_s rfl rfl rfl rfl rfl ?_
        refine st_p (pkF rfl rfl) rfl ?_
        refine st_p (mv rfl) rfl ?_
        refine st_s rfl rfl rfl rfl rfl ?_
        refine st_s rfl rfl rfl rfl rfl ?_
        refine st_s rfl rfl rfl rfl rfl ?_
        refine st_s rfl rfl rfl rfl rfl ?_
        refine st_p (pkF rfl rfl) rfl ?_
        refine st_p (mva rfl) rfl ?_
        refine al_nil ?_
        refine nm ?_
        refine aw_ret ?_
        exact ret_a ⟨[(2, .bool false)], [], 0⟩ (le_to [] rfl rfl rfl rfl rfl ⟨rfl, trivial⟩ trivial) (res1 Try.results10) (.inr ⟨rfl, rfl⟩) ⟨by simp [mayTxB, tget, c0, c1, c2, c3, c4, c5, c6], rfl, rfl⟩
      | false =>
       rw [c5] at h5
       refine ac_fn Try.func10 rfl rfl rfl rfl (fun w0 S0 r0 => ?_)
       refine aw_seq ?_
       refine aw_region ?_
       refine st_o (bx rfl rfl) rfl ?_
       refine st_p (mva rfl) rfl ?_
       refine al_nil ?_
       refine nm ?_
       refine aw_seq ?_
       refine aw_region ?_
       refine st_p (op_loadA Try.underlying26 rfl z26 rfl rfl rfl rfl) rfl ?_
       refine st_call0 (hkeys) Try.func39 ⟨rfl, rfl⟩ rfl (.cons (.same (by rfl)) .nil) rfl ?_
       rintro _ _ _ ⟨rfl, rfl, rfl⟩ r2 h2 n2 hr hh hn
       simp only [AV.ren, rens, Blk.ren, swp, List.map_cons, List.map_nil, List.cons_append, List.nil_append, List.append_nil, Nat.not_lt_zero, if_false, Nat.reduceAdd, Nat.zero_add, Nat.add_zero, ren_bl] at hr hh hn
       subst hr hh hn
       refine st_p (mv rfl) rfl ?_
       refine st_p (op_extract rfl rfl) rfl ?_
       refine st_p (op_extract rfl rfl) rfl ?_
       refine st_p (mva rfl) rfl ?_
       refine st_p (mva rfl) rfl ?_
       refine al_nil ?_
       refine nm ?_
       refine aw_seq ?_
       refine aw_region ?_
       refine st_p (op_fieldAddr Try.underlying26 rfl z3 (by decide) rfl) rfl ?_
       refine st_p (op_load1 Try.underlying3 rfl rfl rfl rfl rfl) rfl ?_
       refine st_p (OpP.conv (op_ge rfl rfl) (yes (by first | assumption | omega))) rfl ?_
       refine st_p (mv rfl) rfl ?_
       refine st_pg rfl rfl rfl (op_fieldAddr Try.underlying26 rfl z3 (by decide) rfl) rfl ?_
       refine st_pg rfl rfl rfl (op_load1 Try.underlying3 rfl rfl rfl rfl rfl) rfl ?_
       refine st_pg rfl rfl rfl (OpP.conv (op_le rfl rfl) (yes (by first | assumption | omega))) rfl ?_
       refine st_p (pkT rfl rfl) rfl ?_
       refine st_p (mv rfl) rfl ?_
       refine st_pg rfl rfl rfl (op_fieldAddr Try.underlying26 rfl z3 (by decide) rfl) rfl ?_
       refine st_pg rfl rfl rfl (op_load1 Try.underlying3 rfl rfl rfl rfl rfl) rfl ?_
       refine st_pg rfl rfl rfl (OpP.conv (op_ge rfl rfl) (yes (by first | assumption | omega))) rfl ?_
       refine st_p (pkT rfl rfl) rfl ?_
       refine st_p (mv rfl) rfl ?_
       refine st_pg rfl rfl rfl (op_fieldAddr Try.underlying26 rfl z3 (by decide) rfl) rfl ?_
       refine st_pg rfl rfl rfl (op_load1 Try.underlying3 rfl rfl rfl rfl rfl) rfl ?_
       refine st_pg rfl rfl rfl (OpP.conv (op_le rfl rfl) (yes (by first | assumption | omega))) rfl ?_
       refine st_p (pkT rfl rfl) rfl ?_
       refine st_p (mv rfl) rfl ?_
       refine st_pg rfl rfl rfl (mv rfl) rfl ?_
       refine st_pg rfl rfl rfl (op_leno Try.underlying71 rfl) rfl ?_
       refine st_pg rfl rfl rfl (OpP.conv (op_le rfl rfl) (yes (by first | assumption | omega))) rfl ?_
       refine st_p (pkT rfl rfl) rfl ?_
       refine st_p (mv rfl) rfl ?_
       refine st_pg rfl rfl rfl (mv rfl) rfl ?_
       refine st_og rfl rfl rfl ((op_callq (h5) Try.func40 ⟨rfl, rfl⟩ rfl rfl (fun nx => (.cons (.whole rfl rfl rfl (by first | rfl | simp) (by first | rfl | simp [Function.comp_def, AV.ren, sb]) (by first | rfl | simp [AV.plain, plains, bl_plain, sb, AV.ren])) .nil)) (by rintro _ _ _ ⟨rfl, rfl, rfl⟩; exact .same rfl)).ok) rfl ?_
       refine st_p (pkT rfl rfl) rfl ?_
       refine st_p (mv rfl) rfl ?_
       refine st_s rfl rfl rfl rfl rfl ?_
       refine st_s rfl rfl rfl rfl rfl ?_
       refine st_s rfl rfl rfl rfl rfl ?_
       refine st_p (pkF rfl rfl) rfl ?_
       refine st_p (mv rfl) rfl ?_
       refine st_s rfl rfl rfl rfl rfl ?_
       refine st_s rfl rfl rfl rfl rfl ?_
       refine st_p (pkF rfl rfl) rfl ?_
       refine st_p (mv rfl) rfl ?_
       refine st_s rfl rfl rfl rfl rfl ?_
       refine st_s rfl rfl rfl rfl rfl ?_
       refine st_s rfl rfl rfl rfl rfl ?_
       refine st_s rfl rfl rfl rfl rfl ?_
       refine st_p (pkF rfl rfl) rfl ?_
       refine st_p (mv rfl) rfl ?_
       refine st_s rfl rfl rfl rfl rfl ?_
       refine st_s rfl rfl rfl rfl rfl ?_
       refine st_s rfl rfl rfl rfl rfl ?_
       refine st_s rfl rfl rfl rfl rfl ?_
       refine st_p (pkF rfl rfl) rfl ?_
       refine st_p (mva rfl) rfl ?_
       refine al_nil ?_
       refine nm ?_
       refine aw_ret ?_
       exact ret_a ⟨[(2, .bool false)], [], 0⟩ (le_to [] rfl rfl rfl rfl rfl ⟨rfl, trivial⟩ trivial) (res1 Try.results10) (.inr ⟨rfl, rfl⟩) ⟨by simp [mayTxB, tget, c0, c1, c2, c3, c4, c5], rfl, rfl⟩
     ·skip
      refine ac_fn Try.func10 rfl rfl rfl rfl (fun w0 S0 r0 => ?_)
      refine aw_seq ?_
      refine aw_region ?_
      refine st_o (bx rfl rfl) rfl ?_
      refine st_p (mva rfl) rfl ?_
      refine al_nil ?_
      refine nm ?_
      refine aw_seq ?_
      refine aw_region ?_
      refine st_p (op_loadA Try.underlying26 rfl z26 rfl rfl rfl rfl) rfl ?_
      refine st_call0 (hkeys) Try.func39 ⟨rfl, rfl⟩ rfl (.cons (.same (by rfl)) .nil) rfl ?_
      rintro _ _ _ ⟨rfl, rfl, rfl⟩ r2 h2 n2 hr hh hn
      simp only [AV.ren, rens, Blk.ren, swp, List.map_cons, List.map_nil, List.cons_append, List.nil_append, List.append_nil, Nat.not_lt_zero, if_false, Nat.reduceAdd, Nat.zero_add, Nat.add_zero, ren_bl] at hr hh hn
      subst hr hh hn
      refine st_p (mv rfl) rfl ?_
      refine st_p (op_extract rfl rfl) rfl ?_
      refine st_p (op_extract rfl rfl) rfl ?_
      refine st_p (mva rfl) rfl ?_
      refine st_p (mva rfl) rfl ?_
      refine al_nil ?_
      refine nm ?_
      refine aw_seq ?_
      refine aw_region ?_
      refine st_p (op_fieldAddr Try.underlying26 rfl z3 (by decide) rfl) rfl ?_
      refine st_p (op_load1 Try.underlying3 rfl rfl rfl rfl rfl) rfl ?_
      refine st_p (OpP.conv (op_ge rfl rfl) (yes (by first | assumption | omega))) rfl ?_
      refine st_p (mv rfl) rfl ?_
      refine st_pg rfl rfl rfl (op_fieldAddr Try.underlying26 rfl z3 (by decide) rfl) rfl ?_
      refine st_pg rfl rfl rfl (op_load1 Try.underlying3 rfl rfl rfl rfl rfl) rfl ?_
      refine st_pg rfl rfl rfl (OpP.conv (op_le rfl rfl) (yes (by first | assumption | omega))) rfl ?_
      refine st_p (pkT rfl rfl) rfl ?_
      refine st_p (mv rfl) rfl ?_
      refine st_pg rfl rfl rfl (op_fieldAddr Try.underlying26 rfl z3 (by decide) rfl) rfl ?_
      refine st_pg rfl rfl rfl (op_load1 Try.underlying3 rfl rfl rfl rfl rfl) rfl ?_
      refine st_pg rfl rfl rfl (OpP.conv (op_ge rfl rfl) (yes (by first | assumption | omega))) rfl ?_
      refine st_p (pkT rfl rfl) rfl ?_
      refine st_p (mv rfl) rfl ?_
      refine st_pg rfl rfl rfl (op_fieldAddr Try.underlying26 rfl z3 (by decide) rfl) rfl ?_
      refine st_pg rfl rfl rfl (op_load1 Try.underlying3 rfl rfl rfl rfl rfl) rfl ?_
      refine st_pg rfl rfl rfl (OpP.conv (op_le rfl rfl) (yes (by first | assumption | omega))) rfl ?_
      refine st_p (pkT rfl rfl) rfl ?_
      refine st_p (mv rfl) rfl ?_
      refine st_pg rfl rfl rfl (mv rfl) rfl ?_
      refine st_pg rfl rfl rfl (op_leno Try.underlying71 rfl) rfl ?_
      refine st_pg rfl rfl rfl (OpP.conv (op_le rfl rfl) (no (by first | assumption | omega))) rfl ?_
      refine st_p (pkT rfl rfl) rfl ?_
      refine st_p (mv rfl) rfl ?_
      refine st_s rfl rfl rfl rfl rfl ?_
      refine st_s rfl rfl rfl rfl rfl ?_
      refine st_p (pkF rfl rfl) rfl ?_
      refine st_p (mv rfl) rfl ?_
      refine st_s rfl rfl rfl rfl rfl ?_
      refine st_s rfl rfl rfl rfl rfl ?_
      refine st_s rfl rfl rfl rfl rfl ?_
      refine st_p (pkF rfl rfl) rfl ?_
      refine st_p (mv rfl) rfl ?_
      refine st_s rfl rfl rfl rfl rfl ?_
      refine st_s rfl rfl rfl rfl rfl ?_
      refine st_p (pkF rfl rfl) rfl ?_
      refine st_p (mv rfl) rfl ?_
      refine st_s rfl rfl rfl rfl rfl ?_
      refine st_s rfl rfl rfl rfl rfl ?_
      refine st_s rfl rfl rfl rfl rfl ?_
      refine st_s rfl rfl rfl rfl rfl ?_
      refine st_p (pkF rfl rfl) rfl ?_
      refine st_p (mv rfl) rfl ?_
      refine st_s rfl rfl rfl rfl rfl ?_
      refine st_s rfl rfl rfl rfl rfl ?_
      refine st_s rfl rfl rfl rfl rfl ?_
      refine st_s rfl rfl rfl rfl rfl ?_
      refine st_p (pkF rfl rfl) rfl ?_
      refine st_p (mva rfl) rfl ?_
      refine al_nil ?_
      refine nm ?_
      refine aw_ret ?_
      exact ret_a ⟨[(2, .bool false)], [], 0⟩ (le_to [] rfl rfl rfl rfl rfl ⟨rfl, trivial⟩ trivial) (res1 Try.results10) (.inr ⟨rfl, rfl⟩) ⟨by simp [mayTxB, tget, c0, c1, c2, c3, c4], rfl, rfl⟩
    ·skip
     refine ac_fn Try.func10 rfl rfl rfl rfl (fun w0 S0 r0 => ?_)
     refine aw_seq ?_
     refine aw_region ?_
     refine st_o (bx rfl rfl) rfl ?_
     refine st_p (mva rfl) rfl ?_
     refine al_nil ?_
     refine nm ?_
     refine aw_seq ?_
     refine aw_region ?_
     refine st_p (op_loadA Try.underlying26 rfl z26 rfl rfl rfl rfl) rfl ?_
     refine st_call0 (hkeys) Try.func39 ⟨rfl, rfl⟩ rfl (.cons (.same (by rfl)) .nil) rfl ?_
     rintro _ _ _ ⟨rfl, rfl, rfl⟩ r2 h2 n2 hr hh hn
     simp only [AV.ren, rens, Blk.ren, swp, List.map_cons, List.map_nil, List.cons_append, List.nil_append, List.append_nil, Nat.not_lt_zero, if_false, Nat.reduceAdd, Nat.zero_add, Nat.add_zero, ren_bl] at hr hh hn
     subst hr hh hn
     refine st_p (mv rfl) rfl ?_
     refine st_p (op_extract rfl rfl) rfl ?_
     refine st_p (op_extract rfl rfl) rfl ?_
     refine st_p (mva rfl) rfl ?_
     refine st_p (mva rfl) rfl ?_
     refine al_nil ?_
     refine nm ?_
     refine aw_seq ?_
     refine aw_region ?_
     refine st_p (op_fieldAddr Try.underlying26 rfl z3 (by decide) rfl) rfl ?_
     refine st_p (op_load1 Try.underlying3 rfl rfl rfl rfl rfl) rfl ?_
     refine st_p (OpP.conv (op_ge rfl rfl) (yes (by first | assumption | omega))) rfl ?_
     refine st_p (mv rfl) rfl ?_
     refine st_pg rfl rfl rfl (op_fieldAddr Try.underlying26 rfl z3 (by decide) rfl) rfl ?_
     refine st_pg rfl rfl rfl (op_load1 Try.underlying3 rfl rfl rfl rfl rfl) rfl ?_
     refine st_pg rfl rfl rfl (OpP.conv (op_le rfl rfl) (yes (by first | assumption | omega))) rfl ?_
     refine st_p (pkT rfl rfl) rfl ?_
     refine st_p (mv rfl) rfl ?_
     refine st_pg rfl rfl rfl (op_fieldAddr Try.underlying26 rfl z3 (by decide) rfl) rfl ?_
     refine st_pg rfl rfl rfl (op_load1 Try.underlying3 rfl rfl rfl rfl rfl) rfl ?_
     refine st_pg rfl rfl rfl (OpP.conv (op_ge rfl rfl) (yes (by first | assumption | omega))) rfl ?_
     refine st_p (pkT rfl rfl) rfl ?_
     refine st_p (mv rfl) rfl ?_
     refine st_pg rfl rfl rfl (op_fieldAddr Try.underlying26 rfl z3 (by decide) rfl) rfl ?_
     refine st_pg rfl rfl rfl (op_load1 Try.underlying3 rfl rfl rfl rfl rfl) rfl ?_
     refine st_pg rfl rfl rfl (OpP.conv (op_le rfl rfl) (no (by first | assumption | omega))) rfl ?_
     refine st_p (pkT rfl rfl) rfl ?_
     refine st_p (mv rfl) rfl ?_
     refine st_s rfl rfl rfl rfl rfl ?_
     refine st_s rfl rfl rfl rfl rfl ?_
     refine st_s rfl rfl rfl rfl rfl ?_
     refine st_p (pkF rfl rfl) rfl ?_
     refine st_p (mv rfl) rfl ?_
     refine st_s rfl rfl rfl rfl rfl ?_
     refine st_s rfl rfl rfl rfl rfl ?_
     refine st_p (pkF rfl rfl) rfl ?_
     refine st_p (mv rfl) rfl ?_
     refine st_s rfl rfl rfl rfl rfl ?_
     refine st_s rfl rfl rfl rfl rfl ?_
     refine st_s rfl rfl rfl rfl rfl ?_
     refine st_p (pkF rfl rfl) rfl ?_
     refine st_p (mv rfl) rfl ?_
     refine st_s rfl rfl rfl rfl rfl ?_
     refine st_s rfl rfl rfl rfl rfl ?_
     refine st_p (pkF rfl rfl) rfl ?_
     refine st_p (mv rfl) rfl ?_
     refine st_s rfl rfl rfl rfl rfl ?_
     refine st_s rfl rfl rfl rfl rfl ?_
     refine st_s rfl rfl rfl rfl rfl ?_
     refine st_s rfl rfl rfl rfl rfl ?_
     refine st_p (pkF rfl rfl) rfl ?_
     refine st_p (mv rfl) rfl ?_
     refine st_s rfl rfl rfl rfl rfl ?_
     refine st_s rfl rfl rfl rfl rfl ?_
     refine st_s rfl rfl rfl rfl rfl ?_
     refine st_s rfl rfl rfl rfl rfl ?_
     refine st_p (pkF rfl rfl) rfl ?_
     refine st_p (mva rfl) rfl ?_
     refine al_nil ?_
     refine nm ?_
     refine aw_ret ?_
     exact ret_a ⟨[(2, .bool false)], [], 0⟩ (le_to [] rfl rfl rfl rfl rfl ⟨rfl, trivial⟩ trivial) (res1 Try.results10) (.inr ⟨rfl, rfl⟩) ⟨by simp [mayTxB, tget, c0, c1, c2, c3], rfl, rfl⟩
   ·skip
    refine ac_fn Try.func10 rfl rfl rfl rfl (fun w0 S0 r0 => ?_)
    refine aw_seq ?_
    refine aw_region ?_
    refine st_o (bx rfl rfl) rfl ?_
    refine st_p (mva rfl) rfl ?_
    refine al_nil ?_
    refine nm ?_
    refine aw_seq ?_
    refine aw_region ?_
    refine st_p (op_loadA Try.underlying26 rfl z26 rfl rfl rfl rfl) rfl ?_
    refine st_call0 (hkeys) Try.func39 ⟨rfl, rfl⟩ rfl (.cons (.same (by rfl)) .nil) rfl ?_
    rintro _ _ _ ⟨rfl, rfl, rfl⟩ r2 h2 n2 hr hh hn
    simp only [AV.ren, rens, Blk.ren, swp, List.map_cons, List.map_nil, List.cons_append, List.nil_append, List.append_nil, Nat.not_lt_zero, if_false, Nat.reduceAdd, Nat.zero_add, Nat.add_zero, ren_bl] at hr hh hn
    subst hr hh hn
    refine st_p (mv rfl) rfl ?_
    refine st_p (op_extract rfl rfl) rfl ?_
    refine st_p (op_extract rfl rfl) rfl ?_
    refine st_p (mva rfl) rfl ?_
    refine st_p (mva rfl) rfl ?_
    refine al_nil ?_
    refine nm ?_
    refine aw_seq ?_
    refine aw_region ?_
    refine st_p (op_fieldAddr Try.underlying26 rfl z3 (by decide) rfl) rfl ?_
    refine st_p (op_load1 Try.underlying3 rfl rfl rfl rfl rfl) rfl ?_
    refine st_p (OpP.conv (op_ge rfl rfl) (yes (by first | assumption | omega))) rfl ?_
    refine st_p (mv rfl) rfl ?_
    refine st_pg rfl rfl rfl (op_fieldAddr Try.underlying26 rfl z3 (by decide) rfl) rfl ?_
    refine st_pg rfl rfl rfl (op_load1 Try.underlying3 rfl rfl rfl rfl rfl) rfl ?_
    refine st_pg rfl rfl rfl (OpP.conv (op_le rfl rfl) (yes (by first | assumption | omega))) rfl ?_
    refine st_p (pkT rfl rfl) rfl ?_
    refine st_p (mv rfl) rfl ?_
    refine st_pg rfl rfl rfl (op_fieldAddr Try.underlying26 rfl z3 (by decide) rfl) rfl ?_
    refine st_pg rfl rfl rfl (op_load1 Try.underlying3 rfl rfl rfl rfl rfl) rfl ?_
    refine st_pg rfl rfl rfl (OpP.conv (op_ge rfl rfl) (no (by first | assumption | omega))) rfl ?_
    refine st_p (pkT rfl rfl) rfl ?_
    refine st_p (mv rfl) rfl ?_
    refine st_s rfl rfl rfl rfl rfl ?_
    refine st_s rfl rfl rfl rfl rfl ?_
    refine st_s rfl rfl rfl rfl rfl ?_
    refine st_p (pkF rfl rfl) rfl ?_
    refine st_p (mv rfl) rfl ?_
    refine st_s rfl rfl rfl rfl rfl ?_
    refine st_s rfl rfl rfl rfl rfl ?_
    refine st_s rfl rfl rfl rfl rfl ?_
    refine st_p (pkF rfl rfl) rfl ?_
    refine st_p (mv rfl) rfl ?_
    refine st_s rfl rfl rfl rfl rfl ?_
    refine st_s rfl rfl rfl rfl rfl ?_
    refine st_p (pkF rfl rfl) rfl ?_
    refine st_p (mv rfl) rfl ?_
    refine st_s rfl rfl rfl rfl rfl ?_
    refine st_s rfl rfl rfl rfl rfl ?_
    refine st_s rfl rfl rfl rfl rfl ?_
    refine st_p (pkF rfl rfl) rfl ?_
    refine st_p (mv rfl) rfl ?_
    refine st_s rfl rfl rfl rfl rfl ?_
    refine st_s rfl rfl rfl rfl rfl ?_
    refine st_p (pkF rfl rfl) rfl ?_
    refine st_p (mv rfl) rfl ?_
    refine st_s rfl rfl rfl rfl rfl ?_
    refine st_s rfl rfl rfl rfl rfl ?_
    refine st_s rfl rfl rfl rfl rfl ?_
    refine st_s rfl rfl rfl rfl rfl ?_
    refine st_p (pkF rfl rfl) rfl ?_
    refine st_p (mv rfl) rfl ?_
    refine st_s rfl rfl rfl rfl rfl ?_
    refine st_s rfl rfl rfl rfl rfl ?_
    refine st_s rfl rfl rfl rfl rfl ?_
    refine st_s rfl rfl rfl rfl rfl ?_
    refine st_p (pkF rfl rfl) rfl ?_
    refine st_p (mva rfl) rfl ?_
    refine al_nil ?_
    refine nm ?_
    refine aw_ret ?_
    exact ret_a ⟨[(2, .bool false)], [], 0⟩ (le_to [] rfl rfl rfl rfl rfl ⟨rfl, trivial⟩ trivial) (res1 Try.results10) (.inr ⟨rfl, rfl⟩) ⟨by simp [mayTxB, tget, c0, c1, c2], rfl, rfl⟩
  ·skip
   refine ac_fn Try.func10 rfl rfl rfl rfl (fun w0 S0 r0 => ?_)
   refine aw_seq ?_
   refine aw_region ?_
   refine st_o (bx rfl rfl) rfl ?_
   refine st_p (mva rfl) rfl ?_
   refine al_nil ?_
   refine nm ?_
   refine aw_seq ?_
   refine aw_region ?_
   refine st_p (op_loadA Try.underlying26 rfl z26 rfl rfl rfl rfl) rfl ?_
   refine st_call0 (hkeys) Try.func39 ⟨rfl, rfl⟩ rfl (.cons (.same (by rfl)) .nil) rfl ?_
   rintro _ _ _ ⟨rfl, rfl, rfl⟩ r2 h2 n2 hr hh hn
   simp only [AV.ren, rens, Blk.ren, swp, List.map_cons, List.map_nil, List.cons_append, List.nil_append, List.append_nil, Nat.not_lt_zero, if_false, Nat.reduceAdd, Nat.zero_add, Nat.add_zero, ren_bl] at hr hh hn
   subst hr hh hn
   refine st_p (mv rfl) rfl ?_
   refine st_p (op_extract rfl rfl) rfl ?_
   refine st_p (op_extract rfl rfl) rfl ?_
   refine st_p (mva rfl) rfl ?_
   refine st_p (mva rfl) rfl ?_
   refine al_nil ?_
   refine nm ?_
   refine aw_seq ?_
   refine aw_region ?_
   refine st_p (op_fieldAddr Try.underlying26 rfl z3 (by decide) rfl) rfl ?_
   refine st_p (op_load1 Try.underlying3 rfl rfl rfl rfl rfl) rfl ?_
   refine st_p (OpP.conv (op_ge rfl rfl) (yes (by first | assumption | omega))) rfl ?_
   refine st_p (mv rfl) rfl ?_
   refine st_pg rfl rfl rfl (op_fieldAddr Try.underlying26 rfl z3 (by decide) rfl) rfl ?_
   refine st_pg rfl rfl rfl (op_load1 Try.underlying3 rfl rfl rfl rfl rfl) rfl ?_
   refine st_pg rfl rfl rfl (OpP.conv (op_le rfl rfl) (no (by first | assumption | omega))) rfl ?_
   refine st_p (pkT rfl rfl) rfl ?_
   refine st_p (mv rfl) rfl ?_
   refine st_s rfl rfl rfl rfl rfl ?_
   refine st_s rfl rfl rfl rfl rfl ?_
   refine st_s rfl rfl rfl rfl rfl ?_
   refine st_p (pkF rfl rfl) rfl ?_
   refine st_p (mv rfl) rfl ?_
   refine st_s rfl rfl rfl rfl rfl ?_
   refine st_s rfl rfl rfl rfl rfl ?_
   refine st_s rfl rfl rfl rfl rfl ?_
   refine st_p (pkF rfl rfl) rfl ?_
   refine st_p (mv rfl) rfl ?_
   refine st_s rfl rfl rfl rfl rfl ?_
   refine st_s rfl rfl rfl rfl rfl ?_
   refine st_s rfl rfl rfl rfl rfl ?_
   refine st_p (pkF rfl rfl) rfl ?_
   refine st_p (mv rfl) rfl ?_
   refine st_s rfl rfl rfl rfl rfl ?_
   refine st_s rfl rfl rfl rfl rfl ?_
   refine st_p (pkF rfl rfl) rfl ?_
   refine st_p (mv rfl) rfl ?_
   refine st_s rfl rfl rfl rfl rfl ?_
   refine st_s rfl rfl rfl rfl rfl ?_
   refine st_s rfl rfl rfl rfl rfl ?_
   refine st_p (pkF rfl rfl) rfl ?_
   refine st_p (mv rfl) rfl ?_
   refine st_s rfl rfl rfl rfl rfl ?_
   refine st_s rfl rfl rfl rfl rfl ?_
   refine st_p (pkF rfl rfl) rfl ?_
   refine st_p (mv rfl) rfl ?_
   refine st_s rfl rfl rfl rfl rfl ?_
   refine st_s rfl rfl rfl rfl rfl ?_
   refine st_s rfl rfl rfl rfl rfl ?_
   refine st_s rfl rfl rfl rfl rfl ?_
   refine st_p (pkF rfl rfl) rfl ?_
   refine st_p (mv rfl) rfl ?_
   refine st_s rfl rfl rfl rfl rfl ?_
   refine st_s rfl rfl rfl rfl rfl ?_
   refine st_s rfl rfl rfl rfl rfl ?_
   refine st_s rfl rfl rfl rfl rfl ?_
   refine st_p (pkF rfl rfl) rfl ?_
   refine st_p (mva rfl) rfl ?_
   refine al_nil ?_
   refine nm ?_
   refine aw_ret ?_
   exact ret_a ⟨[(2, .bool false)], [], 0⟩ (le_to [] rfl rfl rfl rfl rfl ⟨rfl, trivial⟩ trivial) (res1 Try.results10) (.inr ⟨rfl, rfl⟩) ⟨by simp [mayTxB, tget, c0, c1], rfl, rfl⟩
 ·skip
  refine ac_fn Try.func10 rfl rfl rfl rfl (fun w0 S0 r0 => ?_)
  refine aw_seq ?_
  refine aw_region ?_
  refine st_o (bx rfl rfl) rfl ?_
  refine st_p (mva rfl) rfl ?_
  refine al_nil ?_
  refine nm ?_
  refine aw_seq ?_
  refine aw_region ?_
  refine st_p (op_loadA Try.underlying26 rfl z26 rfl rfl rfl rfl) rfl ?_
  refine st_call0 (hkeys) Try.func39 ⟨rfl, rfl⟩ rfl (.cons (.same (by rfl)) .nil) rfl ?_
  rintro _ _ _ ⟨rfl, rfl, rfl⟩ r2 h2 n2 hr hh hn
  simp only [AV.ren, rens, Blk.ren, swp, List.map_cons, List.map_nil, List.cons_append, List.nil_append, List.append_nil, Nat.not_lt_zero, if_false, Nat.reduceAdd, Nat.zero_add, Nat.add_zero, ren_bl] at hr hh hn
  subst hr hh hn
  refine st_p (mv rfl) rfl ?_
  refine st_p (op_extract rfl rfl) rfl ?_
  refine st_p (op_extract rfl rfl) rfl ?_
  refine st_p (mva rfl) rfl ?_
  refine st_p (mva rfl) rfl ?_
  refine al_nil ?_
  refine nm ?_
  refine aw_seq ?_
  refine aw_region ?_
  refine st_p (op_fieldAddr Try.underlying26 rfl z3 (by decide) rfl) rfl ?_
  refine st_p (op_load1 Try.underlying3 rfl rfl rfl rfl rfl) rfl ?_
  refine st_p (OpP.conv (op_ge rfl rfl) (no (by first | assumption | omega))) rfl ?_
  refine st_p (mv rfl) rfl ?_
  refine st_s rfl rfl rfl rfl rfl ?_
  refine st_s rfl rfl rfl rfl rfl ?_
  refine st_s rfl rfl rfl rfl rfl ?_
  refine st_p (pkF rfl rfl) rfl ?_
  refine st_p (mv rfl) rfl ?_
  refine st_s rfl rfl rfl rfl rfl ?_
  refine st_s rfl rfl rfl rfl rfl ?_
  refine st_s rfl rfl rfl rfl rfl ?_
  refine st_p (pkF rfl rfl) rfl ?_
  refine st_p (mv rfl) rfl ?_
  refine st_s rfl rfl rfl rfl rfl ?_
  refine st_s rfl rfl rfl rfl rfl ?_
  refine st_s rfl rfl rfl rfl rfl ?_
  refine st_p (pkF rfl rfl) rfl ?_
  refine st_p (mv rfl) rfl ?_
  refine st_s rfl rfl rfl rfl rfl ?_
  refine st_s rfl rfl rfl rfl rfl ?_
  refine st_s rfl rfl rfl rfl rfl ?_
  refine st_p (pkF rfl rfl) rfl ?_
  refine st_p (mv rfl) rfl ?_
  refine st_s rfl rfl rfl rfl rfl ?_
  refine st_s rfl rfl rfl rfl rfl ?_
  refine st_p (pkF rfl rfl) rfl ?_
  refine st_p (mv rfl) rfl ?_
  refine st_s rfl rfl rfl rfl rfl ?_
  refine st_s rfl rfl rfl rfl rfl ?_
  refine st_s rfl rfl rfl rfl rfl ?_
  refine st_p (pkF rfl rfl) rfl ?_
  refine st_p (mv rfl) rfl ?_
  refine st_s rfl rfl rfl rfl rfl ?_
  refine st_s rfl rfl rfl rfl rfl ?_
  refine st_p (pkF rfl rfl) rfl ?_
  refine st_p (mv rfl) rfl ?_
  refine st_s rfl rfl rfl rfl rfl ?_
  refine st_s rfl rfl rfl rfl rfl ?_
  refine st_s rfl rfl rfl rfl rfl ?_
  refine st_s rfl rfl rfl rfl rfl ?_
  refine st_p (pkF rfl rfl) rfl ?_
  refine st_p (mv rfl) rfl ?_
  refine st_s rfl rfl rfl rfl rfl ?_
  refine st_s rfl rfl rfl rfl rfl ?_
  refine st_s rfl rfl rfl rfl rfl ?_
  refine st_s rfl rfl rfl rfl rfl ?_
  refine st_p (pkF rfl rfl) rfl ?_
  refine st_p (mva rfl) rfl ?_
  refine al_nil ?_
  refine nm ?_
  refine aw_ret ?_
  exact ret_a ⟨[(2, .bool false)], [], 0⟩ (le_to [] rfl rfl rfl rfl rfl ⟨rfl, trivial⟩ trivial) (res1 Try.results10) (.inr ⟨rfl, rfl⟩) ⟨by simp [mayTxB, tget, c0], rfl, rfl⟩

end Go.Proofs.Ytpggknkhldecaaa.Abs
end
section
namespace Go.Proofs.Ytpggknkhldecaaa.Abs

def flagN (b : Bool) : UInt8 := if b then 1 else 0

theorem txn_flag (b : Bool) : AC Try.prog 51 [.bool b] [] 0 false (fun v h nx => v = .int .u8 ((flagN b).toNat : Int) ∧ h = [] ∧ nx = 0) := by
 cases b
 ·skip
  refine ac_fn Try.func51 rfl rfl rfl rfl (fun w0 S0 r0 => ?_)
  refine aw_seq ?_
  refine aw_region ?_
  refine st_p (mva rfl) rfl ?_
  refine al_nil ?_
  refine nm ?_
  refine aw_seq ?_
  refine aw_seq ?_
  refine aw_region ?_
  refine st_p (mv rfl) rfl ?_
  refine al_nil ?_
  refine nm ?_
  refine aw_no (rfl) ?_
  refine aw_skip ?_
  refine nm ?_
  refine aw_seq ?_
  refine aw_region ?_
  refine st_p (mva rfl) rfl ?_
  refine al_nil ?_
  refine nm ?_
  refine aw_ret ?_
  exact ret_v (res1 Try.results51) (.inr ⟨rfl, rfl⟩) ⟨rfl, rfl, rfl⟩
 ·skip
  refine ac_fn Try.func51 rfl rfl rfl rfl (fun w0 S0 r0 => ?_)
  refine aw_seq ?_
  refine aw_region ?_
  refine st_p (mva rfl) rfl ?_
  refine al_nil ?_
  refine nm ?_
  refine aw_seq ?_
  refine aw_seq ?_
  refine aw_region ?_
  refine st_p (mv rfl) rfl ?_
  refine al_nil ?_
  refine nm ?_
  refine aw_yes (rfl) ?_
  refine aw_seq ?_
  refine aw_region ?_
  refine st_p (mva rfl) rfl ?_
  refine al_nil ?_
  refine nm ?_
  refine aw_ret ?_
  refine rs ?_
  exact ret_v (res1 Try.results51) (.inr ⟨rfl, rfl⟩) ⟨rfl, rfl, rfl⟩

theorem ref_flag (b : Bool) : AC Try.prog 54 [.bool b] [] 0 false (fun v h nx => v = .int .u8 ((flagN b).toNat : Int) ∧ h = [] ∧ nx = 0) := by
 cases b
 ·skip
  refine ac_fn Try.func54 rfl rfl rfl rfl (fun w0 S0 r0 => ?_)
  refine aw_seq ?_
  refine aw_region ?_
  refine st_p (mva rfl) rfl ?_
  refine al_nil ?_
  refine nm ?_
  refine aw_seq ?_
  refine aw_seq ?_
  refine aw_region ?_
  refine st_p (mv rfl) rfl ?_
  refine al_nil ?_
  refine nm ?_
  refine aw_no (rfl) ?_
  refine aw_skip ?_
  refine nm ?_
  refine aw_seq ?_
  refine aw_region ?_
  refine st_p (mva rfl) rfl ?_
  refine al_nil ?_
  refine nm ?_
  refine aw_ret ?_
  exact ret_v (res1 Try.results54) (.inr ⟨rfl, rfl⟩) ⟨rfl, rfl, rfl⟩
 ·skip
  refine ac_fn Try.func54 rfl rfl rfl rfl (fun w0 S0 r0 => ?_)
  refine aw_seq ?_
  refine aw_region ?_
  refine st_p (mva rfl) rfl ?_
  refine al_nil ?_
  refine nm ?_
  refine aw_seq ?_
  refine aw_seq ?_
  refine aw_region ?_
  refine st_p (mv rfl) rfl ?_
  refine al_nil ?_
  refine nm ?_
  refine aw_yes (rfl) ?_
  refine aw_seq ?_
  refine aw_region ?_
  refine st_p (mva rfl) rfl ?_
  refine al_nil ?_
  refine nm ?_
  refine aw_ret ?_
  refine rs ?_
  exact ret_v (res1 Try.results54) (.inr ⟨rfl, rfl⟩) ⟨rfl, rfl, rfl⟩

end Go.Proofs.Ytpggknkhldecaaa.Abs
end
