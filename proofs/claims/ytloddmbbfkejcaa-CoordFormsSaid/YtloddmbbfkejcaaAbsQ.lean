/-
  Calls as operations; rows that are read alone from the beginning. It holds of any program.
-/
import Derived.Test.YtloddmbbfkejcaaAbsP
namespace Go.Proofs.Ytloddmbbfkejcaa.Abs

section
variable {P : Program}

/-- What a call does. -/
theorem call_does {c : Ctx} {n : Nat} {tm : List (Nat × AV)} {h : Heap} {nx : Nat} {o : Oper} {fo : Operand} {xs : Array Operand} {ts : Array TypeId}
    (f : FuncId) (first caps : List AV) (l : List (Nat × Nat)) (k : Nat) (al : Bool) (hc : Heap) (ps : List Nat) (args largs : List AV) (Q : AV → Heap → Nat → Prop) (ho : o.op = .call { callee := .value fo, args := xs, argTypes := ts })
    (hfo : oev tm fo = .fn (.func f) first caps) (hargs : args = first ++ (xs.toList.map (oev tm) ++ caps))
    (hcall : ∀ (vs : Array Value) (w : World), (callFunc f vs).run P w = .ok (.enter f vs) w)
    (hl : l.all (fun p => p.1 < k) = true)
    (hh : ∀ p ∈ hc, hget h (swp l k nx p.1) = (hget hc p.1).map (Blk.ren (swp l k nx)) ∧ ps.contains (swp l k nx p.1) = true)
    (hi : ((hc.map (fun p => p.1)).all fun b => (hc.map (fun p => p.1)).all fun b' => b == b' || swp l k nx b != swp l k nx b') = true)
    (hlend : Lends al h (swp l k nx) ps args largs)
    (hac : AC P f largs hc k al Q) {ρ : Rho} {S : Nat → Prop} {a : Act} {w : World} (hr : Rep c n ⟨tm, h, nx⟩ ρ S a w) :
    Does P o a w fun v w' => ∃ r h' nx' ρ' S', Q r h' nx' ∧ VR S' w' ρ' r v ∧ Sim ρ' h' S' w' ∧ (∀ b, nx' ≤ b → ρ' b = none) ∧ (∀ b B, hget h' b = some B → b < nx') ∧
      CPost al (fun b => ρ (swp l k nx b)) hc k (fun b => S b ∨ (al = false ∧ Own ρ (rest h ps) b)) w ρ' h' S' w' := by
  have hf := hr.oev fo
  rw [show (St.mk tm h nx).tm = tm from rfl, hfo] at hf
  generalize hfv : a.eval fo = fv at hf
  cases hf with
  | fn us vs h1 h2 h3 h4 =>
  have hrun : (execOp a.eval o).run P w = .ok (.enter f (us ++ xs.map a.eval ++ vs)) w := by
    unfold execOp
    rw [ho]
    simp only [resolve, hfv, Deferred.ofValue, Sem.run_bind, Sem.run_pure, Result.andThen_ok, invoke]
    exact hcall _ _
  unfold Does
  rw [hrun]
  obtain ⟨hsim, hfr, hps, hown⟩ := call_sim hr l k al hc ps hl hh hi
  have hargsVR : ∀ (i : Nat) (x : AV) (u : Value), args[i]? = some x → (us ++ xs.map a.eval ++ vs)[i]? = some u → VR S w ρ x u := by
    intro i x u hx hu
    rw [hargs] at hx
    rw [Array.append_assoc] at hu
    rcases Nat.lt_or_ge i first.length with hlt | hge
    · rw [List.getElem?_append_left hlt] at hx
      rw [Array.getElem?_append_left (by omega)] at hu
      exact h3 i x u hx hu
    · rw [List.getElem?_append_right hge] at hx
      rw [Array.getElem?_append_right (by omega), ← h1] at hu
      generalize i - first.length = j at hx hu
      rcases Nat.lt_or_ge j xs.size with hlt | hge
      · rw [List.getElem?_append_left (by simpa using hlt)] at hx
        rw [Array.getElem?_append_left (by simpa using hlt)] at hu
        rw [List.getElem?_map, Array.getElem?_toList] at hx
        rw [Array.getElem?_map] at hu
        obtain ⟨y, hy, rfl⟩ := Option.map_eq_some_iff.1 hx
        rw [hy] at hu
        obtain rfl := Option.some.inj hu
        exact hr.oev y
      · rw [List.getElem?_append_right (by simpa using hge)] at hx
        rw [Array.getElem?_append_right (by simpa using hge)] at hu
        simp only [List.length_map, Array.length_toList] at hx
        simp only [Array.size_map] at hu
        exact h4 _ x u hx hu
  have hlen : args.length = (us ++ xs.map a.eval ++ vs).size := by
    rw [hargs]
    simp [h1, h2, Nat.add_assoc]
  have hvrs : VRs (fun b => S b ∨ (al = false ∧ Own ρ (rest h ps) b)) w (fun b => ρ (swp l k nx b)) largs (us ++ xs.map a.eval ++ vs) := by
    refine ⟨hlend.len.symm.trans hlen, fun i y u hy hu => ?_⟩
    have hi' : i < largs.length := (List.getElem?_eq_some_iff.1 hy).1
    obtain ⟨x, hx⟩ : ∃ x, args[i]? = some x := ⟨_, List.getElem?_eq_getElem (by rw [hlend.len]; exact hi')⟩
    exact (hlend.get i x y hx hy).vr hr (hargsVR i x u hx hu)
  refine (hac _ _ w _ hsim hfr hvrs).mono ?_
  rintro e w' ⟨v, r, h', nx', ρ', S', rfl, hQ, hv, hs, hf', hdm, hp⟩
  exact ⟨v, rfl, r, h', nx', ρ', S', hQ, hv, hs, hf', hdm, hp⟩

theorem AC.calls {f : FuncId} {fn : Func} (hf : P.funcs[f]? = some fn) (hn : (fn.name == "runtime.NumGoroutine") = false ∧ fn.body.isNone = false) : ∀ (vs : Array Value) (w : World), (callFunc f vs).run P w = .ok (.enter f vs) w := fun vs w => callFunc_enter hf hn.1 hn.2 vs w

/-- A call whose answer is told: an operation that turns the heap. -/
theorem op_callg {tm : List (Nat × AV)} {h : Heap} {nx : Nat} {fo : Operand} {xs : Array Operand} {ts : Array TypeId} {f : FuncId} {fn : Func} {first caps : List AV} (l : List (Nat × Nat)) (k : Nat) (al : Bool) (hc : Heap) (ps : List Nat) {args largs : List AV} {r0 r1 : AV} {h0 h1 : Heap} {n0 n1 : Nat}
    (hac : AC P f largs hc k al (fun r h nx => r = r0 ∧ h = h0 ∧ nx = n0)) (hf : P.funcs[f]? = some fn) (hn : (fn.name == "runtime.NumGoroutine") = false ∧ fn.body.isNone = false)
    (hfo : oev tm fo = .fn (.func f) first caps) (hargs : oevsS tm xs.toList = some args) (hl : l.all (fun p => p.1 < k) = true) (hl2 : l.all (fun p => p.2 < nx) = true) (hl3 : k ≤ nx)
    (hh : ∀ p ∈ hc, hget h (swp l k nx p.1) = (hget hc p.1).map (Blk.ren (swp l k nx)) ∧ ps.contains (swp l k nx p.1) = true)
    (hi : ((hc.map (fun p => p.1)).all fun b => (hc.map (fun p => p.1)).all fun b' => b == b' || swp l k nx b != swp l k nx b') = true)
    (hlend : Lends al h (swp l k nx) ps (first ++ (args ++ caps)) largs)
    (e1 : r0.ren (swp l k nx) = r1) (e2 : rest h ps ++ h0.map (fun p => (swp l k nx p.1, p.2.ren (swp l k nx))) = h1) (e3 : nx + n0 = n1) :
    OpOK P (.call { callee := .value fo, args := xs, argTypes := ts }) ⟨tm, h, nx⟩ r1 h1 n1 := by
  intro c n ρ S a w hr o ho
  subst e1 e2 e3
  refine (call_does f first caps l k al hc ps _ largs _ ho hfo (by rw [oevsS_spec _ _ hargs]) (AC.calls hf hn) hl hh hi hlend hac hr).mono fun v w' hx => ?_
  obtain ⟨r, h', nx', ρ', S', ⟨rfl, rfl, rfl⟩, hv, hs, hf', hdm, hp⟩ := hx
  obtain ⟨hsim, hfr, hps, hown⟩ := call_sim hr l k al hc ps hl hh hi
  obtain ⟨ρ2, S2, hr2, hv2, hx1, hx2⟩ := call_rep hr l k al hc ps hl hl2 hl3 hps hown (fun b hb => hb.imp id (fun ⟨x, i, X, q, e1, e2, e3⟩ => ⟨x, by
    rw [hget_rest] at e1
    split at e1
    · cases e1
    · obtain ⟨_, f4, _⟩ := blk_of hr e1 e2
      rw [← e3]
      exact f4⟩)) hv hs hf' hdm hp
  exact ⟨ρ2, S2, hr2, hv2, hx1, hx2⟩

/-- How a call's answer is taken up where its rows are from then on read alone. -/
inductive Fz (h' : Heap) : AV → AV → Prop
  | same {x} (hp : x.plain = true) : Fz h' x x
  | own {b st len sz xs} (hb : hget h' b = some (.cells sz xs)) (hlen : st + len ≤ xs.length) (hpl : xs.all AV.plain = true) : Fz h' (.own b st len) (.sl sz ((xs.drop st).take len))
  | tup {xs ys} (hl : xs.length = ys.length) (h : ∀ (i : Nat) (x y : AV), xs[i]? = some x → ys[i]? = some y → Fz h' x y) : Fz h' (.tup xs) (.tup ys)
  | agg {xs ys} (hl : xs.length = ys.length) (h : ∀ (i : Nat) (x y : AV), xs[i]? = some x → ys[i]? = some y → Fz h' x y) : Fz h' (.agg xs) (.agg ys)

theorem Fz.whole {h' : Heap} {b len sz : Nat} {xs : List AV} (hb : hget h' b = some (.cells sz xs)) (hl : len = xs.length) (hpl : xs.all AV.plain = true) : Fz h' (.own b 0 len) (.sl sz xs) := by
  have := Fz.own (st := 0) (len := len) hb (by omega) hpl
  rw [List.drop_zero, hl, List.take_length] at this
  rwa [hl]

theorem bl_plain (l : List UInt8) : (bl l).all AV.plain = true := by
  rw [List.all_eq_true]
  intro x hx
  obtain ⟨q, _, rfl⟩ := List.mem_map.1 hx
  rfl

inductive Fzs (h' : Heap) : List AV → List AV → Prop
  | nil : Fzs h' [] []
  | cons {x y xs ys} (h : Fz h' x y) (t : Fzs h' xs ys) : Fzs h' (x :: xs) (y :: ys)

theorem Fzs.tup {h' : Heap} {xs ys : List AV} (h : Fzs h' xs ys) : Fz h' (.tup xs) (.tup ys) := by
  have : xs.length = ys.length ∧ ∀ (i : Nat) (x y : AV), xs[i]? = some x → ys[i]? = some y → Fz h' x y := by
    induction h with
    | nil => exact ⟨rfl, fun i x y hx => by simp at hx⟩
    | cons h1 _ ih =>
      refine ⟨by simp [ih.1], fun i x y hx hy => ?_⟩
      cases i with
      | zero => simp only [List.getElem?_cons_zero] at hx hy; obtain rfl := Option.some.inj hx; obtain rfl := Option.some.inj hy; exact h1
      | succ i => simp only [List.getElem?_cons_succ] at hx hy; exact ih.2 i x y hx hy
  exact .tup this.1 this.2

theorem Fz.vr {S S' : Nat → Prop} {w : World} {ρ ρ2 : Rho} {h' : Heap} (hsim : Sim ρ h' S w) (hS : ∀ b, S b → S' b) (hO : ∀ b, Own ρ h' b → S' b) {x y : AV} (h : Fz h' x y) : ∀ {v : Value}, VR S w ρ x v → VR S' w ρ2 y v := by
  induction h with
  | same hp => intro v hv; exact (hv.mono (fun b hb => ⟨hS b hb, rfl⟩) (fun _ _ h => h)).plain hp
  | own hb hlen hpl =>
    intro v hv
    rcases hsim.blk _ _ hb with ⟨r, h1, h2, h3, h4⟩ | ⟨h1, sz', h2⟩
    · exact hv.lent h1 h2 hlen hpl hS (hO _ ⟨_, _, r, hb, h1, rfl⟩) _
    · simp only [Blk.cells.injEq] at h2
      obtain ⟨rfl, rfl⟩ := h2
      simp only [List.length_nil, Nat.le_zero, Nat.add_eq_zero_iff] at hlen
      obtain ⟨rfl, rfl⟩ := hlen
      cases hv with
      | own q _ _ => rw [h1] at q; cases q
      | own0 => exact .sl0
  | @tup as ys hl _ ih =>
    intro v hv
    cases hv with
    | tup vs h1 h2 => exact .tup vs (hl.symm.trans h1) (fun i y u hy hu => by
        obtain ⟨x, hx⟩ : ∃ x, as[i]? = some x := ⟨_, List.getElem?_eq_getElem (by rw [hl]; exact (List.getElem?_eq_some_iff.1 hy).1)⟩
        exact ih i x y hx hy (h2 i x u hx hu))
  | @agg as ys hl _ ih =>
    intro v hv
    cases hv with
    | agg vs h1 h2 => exact .agg vs (hl.symm.trans h1) (fun i y u hy hu => by
        obtain ⟨x, hx⟩ : ∃ x, as[i]? = some x := ⟨_, List.getElem?_eq_getElem (by rw [hl]; exact (List.getElem?_eq_some_iff.1 hy).1)⟩
        exact ih i x y hx hy (h2 i x u hx hu))

/-- A call that is handed nothing that it may write: the heap stays. -/
theorem op_callq {tm : List (Nat × AV)} {h : Heap} {fo : Operand} {xs : Array Operand} {ts : Array TypeId} {f : FuncId} {fn : Func} {first caps : List AV} {al : Bool} {args largs : List AV} {Q : AV → Heap → Nat → Prop} {v : AV}
    (hac : AC P f largs [] 0 al Q) (hf : P.funcs[f]? = some fn) (hn : (fn.name == "runtime.NumGoroutine") = false ∧ fn.body.isNone = false)
    (hfo : oev tm fo = .fn (.func f) first caps) (hargs : oevsS tm xs.toList = some args)
    (hlend : ∀ nx, Lends al h (swp [] 0 nx) [] (first ++ (args ++ caps)) largs) (hq : ∀ r h' nx', Q r h' nx' → Fz h' r v) :
    OpQ P (.call { callee := .value fo, args := xs, argTypes := ts }) tm h v := by
  intro nx c n ρ S a w hr o ho
  refine (call_does f first caps [] 0 al [] [] _ largs _ ho hfo (by rw [oevsS_spec _ _ hargs]) (AC.calls hf hn) rfl (fun p hp => by cases hp) rfl (hlend nx) hac hr).mono fun u w' hx => ?_
  obtain ⟨r, h', nx', ρ', S', hQ, hv, hs, hf', hdm, hp⟩ := hx
  have no : ∀ b, ¬ Own (fun b => ρ (swp [] 0 nx b)) [] b := fun b ⟨i, B, q, e, _⟩ => by cases e
  have hsame : Same w w' := ⟨hp.os, hp.tape, hp.output, hp.size, fun k hk => hp.keep k hk (no k)⟩
  let S2 : Nat → Prop := fun b => S b ∨ (w.heap.size ≤ b ∧ b < w'.heap.size)
  have g1 : ∀ b, S b → S2 b := fun b hb => .inl hb
  have hr2 := hr.grow (S' := S2) g1 (fun b hb => hb.imp id (fun h => h.1)) (fun b hb => hb.elim (fun h => Nat.lt_of_lt_of_le (hr.sim.lt b h) hp.size) (fun h => h.2)) hsame
  refine ⟨ρ, S2, hr2, ?_, fun _ _ h => h, fun b hb => ⟨.inl hb, hsame.block b (hr.sim.lt b hb)⟩⟩
  refine (hq r h' nx' hQ).vr hs (fun b hb => ?_) (fun b hb => ?_) hv
  · rcases hp.s b hb with ⟨h1, h2 | ⟨h2, _⟩⟩ | h2
    · exact .inl h2
    · rw [h1] at h2; cases h2
    · exact .inr ⟨h2, hs.lt b hb⟩
  · rcases hp.own b hb with h1 | h1
    · exact (no b h1).elim
    · obtain ⟨i, B, q, e1, e2, rfl⟩ := hb
      rcases hs.blk i B e1 with ⟨q', k1, _, _, k4⟩ | ⟨k1, _⟩
      · obtain rfl := Option.some.inj (k1.symm.trans e2)
        exact .inr ⟨h1, k4⟩
      · rw [e2] at k1; cases k1

/-- A row that is written out and read alone. -/
theorem op_bslF {tm : List (Nat × AV)} {h : Heap} {t e : TypeId} {len sz bytes : Nat} {parts : Array (Nat × Operand)} {z : Value} {vs : List AV} (hu : P.underlying t = some (.slice e)) (hi : (P.info? e).map (fun i => (i.zero, i.size, i.bytes)) = some (some z, sz, bytes)) (hzs : z.cells.size = sz ∧ ∀ (i : Nat) (u : Value), z.cells[i]? = some u → u.oneCell' = true)
    (hs : 0 < sz) (hl : parts.toList.map (·.1) = List.range len) (hv : oevsS tm (parts.toList.map (·.2)) = some vs) (hk : (vs.all fun v => v.known && Nat.beq v.cells.length sz) = true) (hpl : vs.all AV.plain = true) (hsm : len * sz ≤ 16777216) :
    OpQ P (.buildSlice t len parts) tm h (.sl sz vs) := by
  intro nx c n ρ S a w hr o ho
  have hk' : ∀ v ∈ vs, v.known = true ∧ v.cells.length = sz := fun v hv => by
    have := List.all_eq_true.1 hk v hv
    simp only [Bool.and_eq_true] at this
    exact ⟨this.1, Nat.eq_of_beq_eq_true this.2⟩
  obtain ⟨us, u2, husz, hvl, hrun⟩ := bsl_raw (vs := vs) hu hi hzs.1 hzs.2 hs hl (by rw [← oevsS_spec _ _ hv, List.map_map]; rfl) hk' hsm hr
  unfold Does
  rw [hrun o ho]
  have hsame := Same.alloc w (.cells us e)
  have hnew := heap_alloc_new w (.cells us e)
  have hsz : (w.alloc (.cells us e)).heap.size = w.heap.size + 1 := by simp
  refine ⟨ρ, fun b => S b ∨ b = w.heap.size, hr.grow (fun b hb => .inl hb) (fun b hb => hb.imp id (fun h => Nat.le_of_eq h.symm)) (fun b hb => ?_) hsame, ?_, fun _ _ h => h, fun b hb => ⟨.inl hb, hsame.block b (hr.sim.lt b hb)⟩⟩
  · rw [hsz]
    rcases hb with h | h
    · exact Nat.lt_succ_of_lt (hr.sim.lt b h)
    · omega
  · have := @VR.sl (fun b => S b ∨ b = w.heap.size) (w.alloc (.cells us e)) ρ sz vs w.heap.size 0 len us.toList (.inr rfl) (by rw [u2.1]; simp) (fun v hv => (hk' v hv).2) (by omega) (fun i u hu => ?_) (fun i x u hx hu => ?_)
    · rw [hvl] at this; exact this
    · rw [Array.getElem?_toList] at hu
      exact ⟨by rw [Nat.zero_add, cell_of hnew]; exact hu, u2.2.1 i u hu⟩
    · rw [Array.getElem?_toList] at hu
      have hp := all_get (plain_flat hpl) hx
      exact ((u2.2.2 i x u hx hu).mono (fun b hb => ⟨.inl hb, hsame.block b (hr.sim.lt b hb)⟩) (fun _ _ h => h)).plain hp

/-- A text's bytes, as a row that is read alone. -/
theorem op_toBytes {tm : List (Nat × AV)} {h : Heap} {s d e : TypeId} {x : Operand} {l : List UInt8} (hs : P.underlying s = some .string) (hd : P.underlying d = some (.slice e)) (he : P.underlying e = some (.int .u8)) (hx : oev tm x = sb l) : OpQ P (.convert s d x) tm h (.sl 1 (bl l)) := by
  intro nx c n ρ S a w hr o ho
  have hsame : Same w (w.drew.alloc (.cells (bytesRow ⟨l.toArray⟩ (grownCap w l.length 0 e)) e ((bytesRow ⟨l.toArray⟩ (grownCap w l.length 0 e)).size, (bytesRow ⟨l.toArray⟩ (grownCap w l.length 0 e)).size + 1))) := (Same.drew w).trans (Same.alloc w.drew _)
  have hsl : (⟨l.toArray⟩ : ByteArray).size = l.length := by simp [ByteArray.size]
  have hrun : (execOp a.eval o).run P w = .ok (.value (.slice (some ⟨w.heap.size, 0, none⟩) l.length (grownCap w l.length 0 e))) (w.drew.alloc (.cells (bytesRow ⟨l.toArray⟩ (grownCap w l.length 0 e)) e ((bytesRow ⟨l.toArray⟩ (grownCap w l.length 0 e)).size, (bytesRow ⟨l.toArray⟩ (grownCap w l.length 0 e)).size + 1))) := by
    have h1 := run_bytes_of_string (P := P) w s d e ⟨l.toArray⟩ hs hd he
    rw [hsl] at h1
    unfold execOp; rw [ho]
    simp only [ev_str hr hx, Sem.run_bind, h1, Result.andThen_ok]
    rfl
  unfold Does
  rw [hrun]
  generalize hw' : w.drew.alloc _ = w' at hsame
  have hnew : ∃ fr, w'.heap[w.heap.size]? = some (.cells (bytesRow ⟨l.toArray⟩ (grownCap w l.length 0 e)) e fr) := by
    rw [← hw']
    exact ⟨_, heap_alloc_new w.drew _⟩
  have hsz : w'.heap.size = w.heap.size + 1 := by rw [← hw']; simp [World.alloc, World.drew, -World.alloc_eq, -World.drew_eq]
  clear hw' hrun
  obtain ⟨fr, hnew⟩ := hnew
  refine ⟨ρ, fun b => S b ∨ b = w.heap.size, hr.grow (fun b hb => .inl hb) (fun b hb => hb.imp id (fun h => Nat.le_of_eq h.symm)) (fun b hb => ?_) hsame, ?_, fun _ _ h => h, fun b hb => ⟨.inl hb, hsame.block b (hr.sim.lt b hb)⟩⟩
  · rw [hsz]
    rcases hb with h | h
    · exact Nat.lt_succ_of_lt (hr.sim.lt b h)
    · omega
  · have hbl : (bl l).length = l.length := by simp [bl]
    have := @VR.sl (fun b => S b ∨ b = w.heap.size) w' ρ 1 (bl l) w.heap.size 0 (grownCap w l.length 0 e) (l.map fun b => Value.int .u8 b.toNat) (.inr rfl) (by rw [flat_bl, hbl, List.length_map]) (fun v hv => ?_) (by rw [hbl]; exact grownCap_ge _ _ _ _) (fun i u hu => ?_) (fun i x u hx hu => ?_)
    · rw [hbl] at this; exact this
    · obtain ⟨q, _, rfl⟩ := List.mem_map.1 hv; rfl
    · rw [List.getElem?_map] at hu
      obtain ⟨q, hq, rfl⟩ := Option.map_eq_some_iff.1 hu
      have hi : i < l.length := (List.getElem?_eq_some_iff.1 hq).1
      have := bytesRow_at ⟨l.toArray⟩ (grownCap w l.length 0 e) i (by simpa using hi)
      refine ⟨by rw [Nat.zero_add, cell_of hnew, this]; simp only [List.getElem_toArray]; rw [(List.getElem?_eq_some_iff.1 hq).2], rfl⟩
    · rw [flat_bl] at hx
      simp only [bl, List.getElem?_map] at hx hu
      obtain ⟨q, hq, rfl⟩ := Option.map_eq_some_iff.1 hx
      rw [hq] at hu
      obtain rfl := Option.some.inj hu
      exact .int

theorem clip_run {t e : TypeId} {A : Option Addr} {len cap sz : Nat} {k1 k2 : IntKind} (hu : P.underlying t = some (.slice e)) (hz : (P.info? e).map (·.size) = some sz) (w : World) : (Instr.slice t (.slice A len cap) none (some (.int k1 0)) (some (.int k2 0))).run P w = .ok (.slice A 0 0) w := by
  simp [Instr.slice, run_underlying hu, Instr.sliceBounds, Instr.sliceBound, asIntOf, run_sizeOf hz]

/-- 'x[:0:0]' of a row that is there, or may be: one of one's own, without cells. -/
theorem op_clip {tm : List (Nat × AV)} {h : Heap} {nx : Nat} {t e : TypeId} {x hi mx : Operand} {sz sz' : Nat} {xs : List AV} {k1 k2 : IntKind} (hu : P.underlying t = some (.slice e)) (hz : (P.info? e).map (·.size) = some sz) (hx : oev tm x = .sl sz' xs) (h1 : oev tm hi = .int k1 0) (h2 : oev tm mx = .int k2 0) :
    OpOK P (.slice t x none (some hi) (some mx)) ⟨tm, h, nx⟩ (.own nx 0 0) ((nx, .cells sz []) :: h) (nx + 1) := OpOK.of fun c n ρ S a w hr => by
  have hv := ev_vr hr hx
  generalize he : a.eval x = v at hv
  have key : ∀ A len cap, v = .slice A len cap → ∀ o : Oper, o.op = .slice t x none (some hi) (some mx) → (execOp a.eval o).run P w = .ok (.value (.slice A 0 0)) w := fun A len cap hA o ho => by
    subst hA
    have := clip_run (P := P) (A := A) (len := len) (cap := cap) (k1 := k1) (k2 := k2) hu hz w
    unfold execOp; rw [ho]
    simp only [Instr.sliceAt, Sem.run_bind, run_underlying hu, Result.andThen_ok, he, Option.map_none, Option.map_some, ev_int hr h1, ev_int hr h2, this, Sem.run_pure]
  have hrep : Rep c n ⟨tm, (nx, .cells sz []) :: h, nx + 1⟩ ρ S a w := hr.virt sz
  cases hv with
  | sl0 => exact ⟨_, _, w, ρ, S, key _ _ _ rfl, .inl rfl, hrep, .own0, fun _ _ h => h, fun _ h => ⟨h, rfl⟩⟩
  | sl vs q1 q2 q3 q4 q5 q6 => exact ⟨_, _, w, ρ, S, key _ _ _ rfl, .inl rfl, hrep, .own0, fun _ _ h => h, fun _ h => ⟨h, rfl⟩⟩

end
end Go.Proofs.Ytloddmbbfkejcaa.Abs
