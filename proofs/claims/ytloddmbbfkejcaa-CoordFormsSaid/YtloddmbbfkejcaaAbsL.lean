/-
  Structs and rows written out, cuts, what a function hands back. They hold of any program.
-/
import Derived.Test.YtloddmbbfkejcaaAbsK
namespace Go.Proofs.Ytloddmbbfkejcaa.Abs

/-- Cells and what they stand for. -/
def Cs (S : Nat → Prop) (w : World) (ρ : Rho) (cs : List AV) (us : Array Value) : Prop :=
  cs.length = us.size ∧ (∀ (i : Nat) (u : Value), us[i]? = some u → u.oneCell' = true) ∧ ∀ (i : Nat) (x : AV) (u : Value), cs[i]? = some x → us[i]? = some u → VR S w ρ x u

theorem foldl_set (off : Nat) : ∀ (l : List Value) (k : Nat) (cs : Array Value), off + k + l.length ≤ cs.size →
    ((l.zipIdx k).foldl (fun cs (c, j) => cs.setIfInBounds (off + j) c) cs).size = cs.size ∧
    ∀ i, ((l.zipIdx k).foldl (fun cs (c, j) => cs.setIfInBounds (off + j) c) cs)[i]? = if off + k ≤ i ∧ i < off + k + l.length then l[i - (off + k)]? else cs[i]? := by
  intro l
  induction l with
  | nil => intro k cs _; exact ⟨rfl, fun i => by rw [if_neg (by simp)]; rfl⟩
  | cons v l ih =>
    intro k cs hk
    rw [List.length_cons] at hk
    obtain ⟨h1, h2⟩ := ih (k + 1) (cs.setIfInBounds (off + k) v) (by simp; omega)
    simp only [List.zipIdx_cons, List.foldl_cons]
    refine ⟨by rw [h1]; simp, fun i => ?_⟩
    rw [h2 i, List.length_cons]
    by_cases e1 : i = off + k
    · subst e1
      rw [if_neg (by omega), if_pos (by omega), Nat.sub_self, List.getElem?_cons_zero]
      simp [show off + k < cs.size from by omega]
    · by_cases e2 : off + (k + 1) ≤ i ∧ i < off + (k + 1) + l.length
      · rw [if_pos e2, if_pos (by omega), show i - (off + k) = (i - (off + (k + 1))) + 1 from by omega, List.getElem?_cons_succ]
      · rw [if_neg e2, if_neg (by omega), Array.getElem?_setIfInBounds_ne (fun e => e1 e.symm)]

theorem fill_step {S : Nat → Prop} {w : World} {ρ : Rho} {cs cs' : List AV} {us : Array Value} (h : Cs S w ρ cs us) {off : Nat} {x : AV} {v : Value} (hv : VR S w ρ x v) (hk : x.known = true) (hs : spl cs off x.cells = some cs') :
    ¬ (off + v.cells.size > us.size) ∧ v.cells.size = x.cells.length ∧ Cs S w ρ cs' (v.cells.zipIdx.foldl (fun cs (c, j) => cs.setIfInBounds (off + j) c) us) := by
  obtain ⟨v1, v2, v3⟩ := hv.cells hk
  obtain ⟨s1, s2, s3⟩ := spl_spec _ _ _ _ hs
  obtain ⟨h1, h2, h3⟩ := h
  have hfit : off + v.cells.size ≤ us.size := by rw [v1, ← h1]; exact s2
  obtain ⟨f1, f2⟩ := foldl_set off v.cells.toList 0 us (by rw [Array.length_toList]; omega)
  have e : v.cells.zipIdx.foldl (fun cs (c, j) => cs.setIfInBounds (off + j) c) us = (v.cells.toList.zipIdx 0).foldl (fun cs (c, j) => cs.setIfInBounds (off + j) c) us := by
    rw [← Array.foldl_toList, Array.toList_zipIdx]
  rw [e]
  refine ⟨by omega, v1, by rw [s1, h1, f1], fun i u hu => ?_, fun i y u hy hu => ?_⟩
  · rw [f2 i] at hu
    split at hu
    · rw [Array.getElem?_toList] at hu; exact v2 _ u hu
    · exact h2 i u hu
  · rw [f2 i, Array.length_toList] at hu
    rw [s3 i] at hy
    rw [Nat.add_zero, v1] at hu
    split at hu
    · rename_i hc
      rw [if_pos hc] at hy
      rw [Array.getElem?_toList] at hu
      exact v3 _ y u hy hu
    · rename_i hc
      rw [if_neg hc] at hy
      exact h3 i y u hy hu

/-- Parts laid into cells, one behind the other. -/
def fillA : List AV → List (Nat × AV) → Option (List AV)
  | cs, [] => some cs
  | cs, (off, x) :: ps => match spl cs off x.cells with
    | some cs' => fillA cs' ps
    | none => none

theorem fill_run {S : Nat → Prop} {w : World} {ρ : Rho} (place : Nat → Option (Nat × Nat)) : ∀ (ps : List (Nat × AV)) (qs : List (Nat × Value)) (cs cs' : List AV) (us : Array Value), Cs S w ρ cs us → fillA cs ps = some cs' → qs.length = ps.length →
    (∀ (i : Nat) (p : Nat × AV) (q : Nat × Value), ps[i]? = some p → qs[i]? = some q → place q.1 = some (p.1, p.2.cells.length) ∧ VR S w ρ p.2 q.2 ∧ p.2.known = true) → ∃ us', Instr.fill place us qs = some us' ∧ Cs S w ρ cs' us' := by
  intro ps
  induction ps with
  | nil =>
    intro qs cs cs' us h hf hl _
    obtain rfl : qs = [] := List.eq_nil_of_length_eq_zero hl
    simp only [fillA, Option.some.injEq] at hf
    subst hf
    exact ⟨us, rfl, h⟩
  | cons p ps ih =>
    intro qs cs cs' us h hf hl hp
    cases qs with
    | nil => simp at hl
    | cons q qs =>
      obtain ⟨off, x⟩ := p
      obtain ⟨i, v⟩ := q
      obtain ⟨p1, p2, p3⟩ := hp 0 _ _ rfl rfl
      dsimp only at p1 p2 p3
      simp only [fillA] at hf
      cases hs : spl cs off x.cells with
      | none => rw [hs] at hf; cases hf
      | some c1 =>
        rw [hs] at hf
        obtain ⟨g1, g2, g3⟩ := fill_step h p2 p3 hs
        obtain ⟨us', e1, e2⟩ := ih qs c1 cs' _ g3 hf (by simpa using hl) (fun j p q a b => hp (j + 1) p q a b)
        refine ⟨us', ?_, e2⟩
        simp only [Instr.fill, p1]
        have g2' : v.cells.size = x.cells.length := g2
        rw [if_neg (by simp only [g2']; simp; omega)]
        exact e1

section
variable {P : Program} {tm : List (Nat × AV)} {h : Heap} {nx : Nat}

/-- The parts of a struct that is written out. -/
inductive Parts (P : Program) (tm : List (Nat × AV)) (fs : Array Field) : List (Nat × Operand) → List (Nat × AV) → Prop
  | nil : Parts P tm fs [] []
  | cons {i : Nat} {x : Operand} {f : Field} {v : AV} {l : List (Nat × Operand)} {ps : List (Nat × AV)} (hf : fs[i]? = some f) (hx : oev tm x = v) (hz : (P.info? f.type).map (·.size) = some v.cells.length) (hk : v.known = true) (ht : Parts P tm fs l ps) : Parts P tm fs ((i, x) :: l) ((f.offset, v) :: ps)

theorem Parts.spec {fs : Array Field} {l : List (Nat × Operand)} {ps : List (Nat × AV)} (hp : Parts P tm fs l ps) : l.length = ps.length ∧ ∀ (j : Nat) (q : Nat × Operand) (p : Nat × AV), l[j]? = some q → ps[j]? = some p → ∃ f, fs[q.1]? = some f ∧ oev tm q.2 = p.2 ∧ f.offset = p.1 ∧ (P.info? f.type).map (·.size) = some p.2.cells.length ∧ p.2.known = true := by
  induction hp with
  | nil => exact ⟨rfl, fun j q p hq => by simp at hq⟩
  | cons hf hx hz hk ht ih =>
    refine ⟨by simp [ih.1], fun j q p hq hp => ?_⟩
    cases j with
    | zero =>
      simp only [List.getElem?_cons_zero, Option.some.injEq] at hq hp
      subst hq; subst hp
      exact ⟨_, hf, hx, rfl, hz, hk⟩
    | succ j => simp only [List.getElem?_cons_succ] at hq hp; exact ih.2 j q p hq hp

theorem run_mapM_places (P : Program) (w : World) : ∀ (fs : List Field), (∀ f ∈ fs, ∃ n, (P.info? f.type).map (·.size) = some n) → ∃ pl : List (Nat × Nat), (fs.mapM fun (f : Field) => do pure (f.offset, ← sizeOf f.type) : Sem (List (Nat × Nat))).run P w = .ok pl w ∧ pl.length = fs.length ∧
    ∀ (i : Nat) (f : Field), fs[i]? = some f → ∃ n, (P.info? f.type).map (·.size) = some n ∧ pl[i]? = some (f.offset, n) := by
  intro fs
  induction fs with
  | nil => intro _; exact ⟨[], by simp, rfl, fun i f hf => by simp at hf⟩
  | cons f fs ih =>
    intro hall
    obtain ⟨n, hn⟩ := hall f List.mem_cons_self
    obtain ⟨pl, h1, h2, h3⟩ := ih (fun g hg => hall g (List.mem_cons_of_mem _ hg))
    refine ⟨(f.offset, n) :: pl, ?_, by simp [h2], fun i g hg => ?_⟩
    · simp only [List.mapM_cons, Sem.run_bind, run_sizeOf hn, Result.andThen_ok, Sem.run_pure, h1]
    · cases i with
      | zero => simp only [List.getElem?_cons_zero, Option.some.injEq] at hg; subst hg; exact ⟨n, hn, rfl⟩
      | succ i => simp only [List.getElem?_cons_succ] at hg ⊢; exact h3 i g hg

/-- A struct written out. -/
theorem op_build {t : TypeId} {parts : Array (Nat × Operand)} {fs : Array Field} {z : Array Value} {zs : List AV} {ps : List (Nat × AV)} {cs : List AV} (hu : P.underlying t = some (.struct fs)) (hz : (P.info? t).map (·.zero) = some (some (.agg z))) (hz1 : ofConst (.agg z) = .agg zs) (hzk : zs.all AV.one = true)
    (hall : ∀ f ∈ fs.toList, ∃ n, (P.info? f.type).map (·.size) = some n) (hp : Parts P tm fs parts.toList ps) (hf : fillA zs ps = some cs) : OpP P (.build t parts) tm h (.agg cs) := fun c n nx ρ S a w hr => by
  obtain ⟨i, e1, e2⟩ := Option.map_eq_some_iff.1 hz
  have hzv : VR S w ρ (.agg zs) (.agg z) := hz1 ▸ ofConst_VR S w ρ _
  obtain ⟨g1, g2, g3⟩ := hzv.cells (by simpa [AV.known] using hzk)
  have hcs : Cs S w ρ zs z := ⟨g1.symm, g2, g3⟩
  obtain ⟨q1, q2⟩ := hp.spec
  obtain ⟨pl, p1, p2, p3⟩ := run_mapM_places P w fs.toList hall
  obtain ⟨us, u1, u2⟩ := fill_run (S := S) (w := w) (ρ := ρ) (fun i => pl.toArray[i]?) ps (parts.toList.map fun p => (p.1, a.eval p.2)) zs cs z hcs hf (by simp [q1]) (fun j p q hj hq => by
    rw [List.getElem?_map] at hq
    obtain ⟨o, ho, rfl⟩ := Option.map_eq_some_iff.1 hq
    obtain ⟨f, f1, f2, f3, f4, f5⟩ := q2 j o p ho hj
    obtain ⟨m, m1, m2⟩ := p3 o.1 f (by rw [Array.getElem?_toList]; exact f1)
    rw [f4] at m1
    obtain rfl := Option.some.inj m1
    refine ⟨by show pl.toArray[o.1]? = _; rw [List.getElem?_toArray, m2, f3], ?_, f5⟩
    rw [← f2]
    exact hr.oev o.2)
  refine ⟨.agg us, fun o ho => ?_, .agg us u2.1 u2.2.2⟩
  unfold execOp; rw [ho]
  have hm : (fs.mapM fun (f : Field) => do pure (f.offset, ← sizeOf f.type) : Sem (Array (Nat × Nat))).run P w = .ok pl.toArray w := by
    rw [Array.mapM_eq_mapM_toList]
    simp only [Sem.run_map, p1, Result.andThen_ok]
  simp only [Instr.build, Sem.run_bind, zeroValue, typeInfo, run_program, Result.andThen_ok, e1, Sem.run_pure, e2, run_underlying hu, hm]
  have hl : (parts.map fun x => (x.fst, a.eval x.snd)).toList = parts.toList.map fun p => (p.1, a.eval p.2) := by simp
  rw [hl]
  simp only [Value.cells, u1, Sem.run_pure, Result.andThen_ok]

theorem spl_nil (l : List AV) : spl l 0 [] = some l := by cases l <;> rfl

/-- A row written out. -/
theorem fillA_rows {sz : Nat} : ∀ (vs : List AV) (k : Nat) (pre : List AV), pre.length = k * sz → (∀ v ∈ vs, v.cells.length = sz) →
    fillA (pre ++ List.replicate (vs.length * sz) .top) ((vs.zipIdx k).map fun p => (p.2 * sz, p.1)) = some (pre ++ flat vs) := by
  intro vs
  induction vs with
  | nil => intro k pre _ _; simp [fillA, flat]
  | cons v vs ih =>
    intro k pre hpre hall
    have hv := hall v List.mem_cons_self
    have hspl : ∀ (pre v rest : List AV), spl (pre ++ List.replicate v.length .top ++ rest) pre.length v = some (pre ++ v ++ rest) := by
      intro pre v rest
      induction pre with
      | nil =>
        induction v with
        | nil => exact spl_nil _
        | cons x v ih => simp only [List.nil_append, List.length_nil, List.length_cons, List.replicate_succ, List.cons_append, spl] at ih ⊢; rw [ih]
      | cons p pre ih => simp only [List.cons_append, List.length_cons, spl] at ih ⊢; cases v <;> simp_all [spl]
    simp only [List.zipIdx_cons, List.map_cons, fillA]
    have e : pre ++ List.replicate ((v :: vs).length * sz) AV.top = pre ++ List.replicate v.cells.length .top ++ List.replicate (vs.length * sz) .top := by
      rw [List.append_assoc, List.replicate_append_replicate, hv, List.length_cons, Nat.add_mul, Nat.one_mul, Nat.add_comm]
    rw [e, ← hpre, hspl pre v.cells]
    simp only []
    have := ih (k + 1) (pre ++ v.cells) (by rw [List.length_append, hpre, hv, Nat.add_mul, Nat.one_mul]) (fun x hx => hall x (List.mem_cons_of_mem _ hx))
    rw [this, List.append_assoc]
    rfl

/-- A row written out. -/
theorem bsl_raw {t e : TypeId} {len sz bytes : Nat} {parts : Array (Nat × Operand)} {z : Value} {vs : List AV} (hu : P.underlying t = some (.slice e)) (hi : (P.info? e).map (fun i => (i.zero, i.size, i.bytes)) = some (some z, sz, bytes)) (hzs : z.cells.size = sz) (hz1 : ∀ (i : Nat) (u : Value), z.cells[i]? = some u → u.oneCell' = true)
    (hs : 0 < sz) (hl : parts.toList.map (·.1) = List.range len) (hv : parts.toList.map (fun p => oev tm p.2) = vs) (hk : ∀ v ∈ vs, v.known = true ∧ v.cells.length = sz) (hsm : len * sz ≤ 16777216)
    {c : Ctx} {n nx : Nat} {ρ : Rho} {S : Nat → Prop} {a : Act} {w : World} (hr : Rep c n ⟨tm, h, nx⟩ ρ S a w) :
    ∃ us : Array Value, Cs S w ρ (flat vs) us ∧ us.size = len * sz ∧ vs.length = len ∧ ∀ o : Oper, o.op = .buildSlice t len parts → (execOp a.eval o).run P w = .ok (.value (.slice (some ⟨w.heap.size, 0, none⟩) len len)) (w.alloc (.cells us e)) := by
  obtain ⟨i, e1, e2⟩ := Option.map_eq_some_iff.1 hi
  obtain ⟨e3, e4, e5⟩ : i.zero = some z ∧ i.size = sz ∧ i.bytes = bytes := by
    have := e2; simp only [Prod.mk.injEq] at this; exact this
  have hlen : parts.toList.length = len := by
    have := congrArg List.length hl; simpa using this
  have hvl : vs.length = len := by rw [← hv, List.length_map, hlen]
  have hidx : ∀ (j : Nat) (q : Nat × Operand), parts.toList[j]? = some q → q.1 = j ∧ vs[j]? = some (oev tm q.2) := fun j q hq => by
    have h1 := congrArg (fun l => l[j]?) hl
    simp only [List.getElem?_map, hq, Option.map_some] at h1
    have hj : j < len := by rw [← hlen]; exact (List.getElem?_eq_some_iff.1 hq).1
    rw [List.getElem?_range hj] at h1
    refine ⟨Option.some.inj h1, ?_⟩
    rw [← hv, List.getElem?_map, hq]
    rfl
  have hcs : Cs S w ρ (List.replicate (vs.length * sz) .top) (madeCells z.cells (len * sz)) := by
    refine ⟨by rw [List.length_replicate, size_madeCells, hvl], fun j u hu => ?_, fun j x u hx hu => ?_⟩
    · have hj : j < len * sz := by
        have := (Array.getElem?_eq_some_iff.1 hu).1
        rwa [size_madeCells] at this
      rw [madeCells_get hzs hs hj] at hu
      exact hz1 _ u hu
    · obtain ⟨_, rfl⟩ := List.mem_replicate.1 (List.mem_of_getElem? hx)
      exact .top
  have hfill := fillA_rows vs 0 [] (by simp) (fun v hv => (hk v hv).2)
  simp only [List.nil_append] at hfill
  obtain ⟨us, u1, u2⟩ := fill_run (S := S) (w := w) (ρ := ρ) (fun i => some (i * sz, sz)) _ (parts.toList.map fun p => (p.1, a.eval p.2)) _ _ _ hcs hfill (by simp [hvl, hlen]) (fun j p q hj hq => by
    rw [List.getElem?_map] at hq
    obtain ⟨o, ho, rfl⟩ := Option.map_eq_some_iff.1 hq
    obtain ⟨d1, d2⟩ := hidx j o ho
    rw [List.getElem?_map, List.getElem?_zipIdx, d2, Nat.zero_add] at hj
    simp only [Option.map_some, Option.some.injEq] at hj
    subst hj
    have hm := List.mem_of_getElem? d2
    refine ⟨by rw [d1, (hk _ hm).2], hr.oev o.2, (hk _ hm).1⟩)
  have husz : us.size = len * sz := by rw [← u2.1, flat_len (fun v hv => (hk v hv).2), hvl]
  refine ⟨us, u2, husz, hvl, fun o ho => ?_⟩
  unfold execOp; rw [ho]
  have hl' : (parts.map fun x => (x.fst, a.eval x.snd)).toList = parts.toList.map fun p => (p.1, a.eval p.2) := by simp
  have hsm' : ¬ (len * sz > 2 ^ 24) := by omega
  have hzv : (zeroValue e).run P w = .ok z w := by simp [zeroValue, typeInfo, e1, e3]
  by_cases h0 : len * sz = 0
  · have hmade : (Array.range (len * sz)).map (fun x => (#[] : Array Value)[x % (#[] : Array Value).size]!) = madeCells z.cells (len * sz) := by
      rw [h0]; simp [madeCells]
    simp only [Instr.buildSlice, Sem.run_bind, run_underlying hu, Result.andThen_ok, sizeOf, typeInfo, run_program, e1, Sem.run_pure, e4, Sem.run_ite, hsm', if_false, if_pos h0, hmade, hl', u1, newRow, run_newObj_alloc]
  · have hmade : (Array.range (len * sz)).map (fun x => z.cells[x % z.cells.size]!) = madeCells z.cells (len * sz) := rfl
    simp only [Instr.buildSlice, Sem.run_bind, run_underlying hu, Result.andThen_ok, sizeOf, typeInfo, run_program, e1, Sem.run_pure, e4, Sem.run_ite, hsm', if_false, if_neg h0, hzv, hmade, hl', u1, newRow, run_newObj_alloc]

theorem op_buildSlice {t e : TypeId} {len sz bytes : Nat} {parts : Array (Nat × Operand)} {z : Value} {vs : List AV} (hu : P.underlying t = some (.slice e)) (hi : (P.info? e).map (fun i => (i.zero, i.size, i.bytes)) = some (some z, sz, bytes)) (hzs : z.cells.size = sz) (hz1 : ∀ (i : Nat) (u : Value), z.cells[i]? = some u → u.oneCell' = true)
    (hs : 0 < sz) (hl : parts.toList.map (·.1) = List.range len) (hv : parts.toList.map (fun p => oev tm p.2) = vs) (hk : ∀ v ∈ vs, v.known = true ∧ v.cells.length = sz) (hsm : len * sz ≤ 16777216) :
    OpOK P (.buildSlice t len parts) ⟨tm, h, nx⟩ (.own nx 0 len) ((nx, .cells sz vs) :: h) (nx + 1) := OpOK.of fun c n ρ S a w hr => by
  obtain ⟨us, u2, husz, hvl, hrun⟩ := bsl_raw hu hi hzs hz1 hs hl hv hk hsm hr
  exact ⟨_, .slice (some ⟨w.heap.size, 0, none⟩) len len, _, _, S, hrun, .inl rfl, hr.newBlk (Same.refl w) us e len sz vs (fun v hv => (hk v hv).2) (by omega) (by
    have : len ≤ len * sz := Nat.le_mul_of_pos_right _ hs
    unfold maxLen; omega) husz u2.2.1 u2.2.2 (fun _ _ h => h), .own_at0 (upd_self _ _ _) (Nat.le_refl _) (Nat.le_refl _), upd_ext hr _, alloc_ext hr (Same.refl w) _⟩

theorem run_bounds {isSlice : Bool} {len cap : Nat} {lo hi : Option Value} {l m : Int} (hlo : (lo = none ∧ l = 0) ∨ ∃ k, lo = some (.int k l)) (hhi : (hi = none ∧ m = len) ∨ ∃ k, hi = some (.int k m)) (h0 : 0 ≤ l) (h1 : l ≤ m) (h2 : m ≤ cap) (w : World) :
    (Instr.sliceBounds isSlice len cap lo hi none).run P w = .ok (l.toNat, m.toNat, cap) w := by
  have h3 : 0 ≤ m := by omega
  rcases hlo with ⟨rfl, rfl⟩ | ⟨k, rfl⟩
  · rcases hhi with ⟨rfl, rfl⟩ | ⟨k', rfl⟩
    · simp [Instr.sliceBounds]
    · cases isSlice <;> simp [Instr.sliceBounds, Instr.sliceBound, asIntOf, h3, h2]
  · have h4 : l ≤ (m.toNat : Int) := by omega
    rcases hhi with ⟨rfl, rfl⟩ | ⟨k', rfl⟩
    · simp [Instr.sliceBounds, Instr.sliceBound, asIntOf, h0, h1]
    · cases isSlice <;> simp [Instr.sliceBounds, Instr.sliceBound, asIntOf, h0, h3, h2, h4] <;> omega

/-- An end of a cut. -/
def Bd (tm : List (Nat × AV)) (o : Option Operand) (dflt l : Int) : Prop := match o with
  | none => l = dflt
  | some x => ∃ k, oev tm x = .int k l

theorem bd_eval {c : Ctx} {n nx : Nat} {ρ : Rho} {S : Nat → Prop} {a : Act} {w : World} (hr : Rep c n ⟨tm, h, nx⟩ ρ S a w) {o : Option Operand} {d l : Int} (hb : Bd tm o d l) : (o.map a.eval = none ∧ l = d) ∨ ∃ k, o.map a.eval = some (.int k l) := by
  cases o with
  | none => exact .inl ⟨rfl, hb⟩
  | some x => obtain ⟨k, hk⟩ := hb; exact .inr ⟨k, by rw [Option.map_some, ev_int hr hk]⟩

/-- A part of a row that is read alone. -/
theorem op_sliceL {t e : TypeId} {x : Operand} {lo hi : Option Operand} {sz : Nat} {xs : List AV} {l m : Int} (hu : P.underlying t = some (.slice e)) (hz : (P.info? e).map (·.size) = some sz) (hx : oev tm x = .sl sz xs) (hl : Bd tm lo 0 l) (hm : Bd tm hi xs.length m) (h0 : 0 ≤ l) (h1 : l ≤ m) (h2 : m ≤ xs.length) :
    OpP P (.slice t x lo hi none) tm h (.sl sz ((xs.drop l.toNat).take (m.toNat - l.toNat))) := fun c n nx ρ S a w hr => by
  have hv := ev_vr hr hx
  generalize he : a.eval x = v at hv
  have hlen : ((xs.drop l.toNat).take (m.toNat - l.toNat)).length = m.toNat - l.toNat := by rw [List.length_take, List.length_drop]; omega
  have key : ∀ (A : Option Addr) (cp : Nat), a.eval x = .slice A xs.length cp → xs.length ≤ cp → ∀ o : Oper, o.op = .slice t x lo hi none → (execOp a.eval o).run P w = .ok (.value (.slice (if cp = l.toNat then A else A.map (·.add (l.toNat * sz))) (m.toNat - l.toNat) (cp - l.toNat))) w := by
    intro A cp hA hcp o ho
    have hb := run_bounds (P := P) (isSlice := true) (len := xs.length) (cap := cp) (bd_eval hr hl) (bd_eval hr hm) h0 h1 (by omega) w
    unfold execOp; rw [ho]
    simp only [Instr.sliceAt, Sem.run_bind, run_underlying hu, Result.andThen_ok, Instr.slice, hA, hb, run_sizeOf hz, Sem.run_pure, Option.map_none]
  cases hv with
  | sl0 => exact ⟨_, key _ _ he (Nat.zero_le _), by
      have : (([] : List AV).drop l.toNat).take (m.toNat - l.toNat) = [] := by simp
      have e0 : m.toNat - l.toNat = 0 := by simp at h2; omega
      rw [this, e0]
      exact .sl0⟩
  | @sl _ _ _ blk off cp vs q1 q2 q3 q4 q5 q6 =>
    refine ⟨_, key _ _ he q4, ?_⟩
    by_cases h3 : cp = l.toNat
    · have e0 : m.toNat - l.toNat = 0 := by omega
      rw [if_pos h3, e0, List.take_zero]
      exact .sl0
    · rw [if_neg h3, Option.map_some, Addr.add_lit]
      have hsub : ∀ y ∈ (xs.drop l.toNat).take (m.toNat - l.toNat), y.cells.length = sz := fun y hy => q3 y (List.mem_of_mem_drop (List.mem_of_mem_take hy))
      have hvl : vs.length = xs.length * sz := by rw [← q2, flat_len q3]
      have hmul : l.toNat * sz + (m.toNat - l.toNat) * sz ≤ xs.length * sz := by rw [← Nat.add_mul]; exact Nat.mul_le_mul_right _ (by omega)
      have hfl : (flat ((xs.drop l.toNat).take (m.toNat - l.toNat))).length = (m.toNat - l.toNat) * sz := by rw [flat_len hsub, hlen]
      have := @VR.sl S w ρ sz ((xs.drop l.toNat).take (m.toNat - l.toNat)) blk (off + l.toNat * sz) (cp - l.toNat) ((vs.drop (l.toNat * sz)).take ((m.toNat - l.toNat) * sz)) q1 (by rw [hfl, List.length_take, List.length_drop, hvl]; omega) hsub (by omega) (fun i u hu => ?_) (fun i y u hy hu => ?_)
      · rw [hlen] at this; exact this
      · have hi : i < (m.toNat - l.toNat) * sz := by
          rcases Nat.lt_or_ge i ((m.toNat - l.toNat) * sz) with hh | hh
          · exact hh
          · rw [List.getElem?_take, if_neg (by omega)] at hu; cases hu
        rw [List.getElem?_take_of_lt hi, List.getElem?_drop] at hu
        have := q5 _ u hu
        rwa [← Nat.add_assoc] at this
      · have hi : i < (m.toNat - l.toNat) * sz := by
          rcases Nat.lt_or_ge i ((m.toNat - l.toNat) * sz) with hh | hh
          · exact hh
          · rw [List.getElem?_take, if_neg (by omega)] at hu; cases hu
        rw [List.getElem?_take_of_lt hi, List.getElem?_drop] at hu
        rw [flat_get q3 l.toNat (m.toNat - l.toNat) i (by omega) hi] at hy
        exact q6 _ y u hy hu

/-- A part of a row of one's own. -/
theorem op_slice {t e : TypeId} {x : Operand} {lo hi : Option Operand} {sz b st len : Nat} {xs : List AV} {l m : Int} (hu : P.underlying t = some (.slice e)) (hz : (P.info? e).map (·.size) = some sz) (hx : oev tm x = .own b st len) (hb : hget h b = some (.cells sz xs)) (hl : Bd tm lo 0 l) (hm : Bd tm hi len m) (h0 : 0 ≤ l) (h1 : l ≤ m) (h2 : m ≤ len) :
    OpP P (.slice t x lo hi none) tm h (.own b (st + l.toNat) (m.toNat - l.toNat)) := fun c n nx ρ S a w hr => by
  have hv := ev_vr hr hx
  generalize he : a.eval x = v at hv
  have key : ∀ (A : Option Addr) (cp : Nat), a.eval x = .slice A len cp → len ≤ cp → ∀ o : Oper, o.op = .slice t x lo hi none → (execOp a.eval o).run P w = .ok (.value (.slice (if cp = l.toNat then A else A.map (·.add (l.toNat * sz))) (m.toNat - l.toNat) (cp - l.toNat))) w := by
    intro A cp hA hcp o ho
    have hb := run_bounds (P := P) (isSlice := true) (len := len) (cap := cp) (bd_eval hr hl) (bd_eval hr hm) h0 h1 (by omega) w
    unfold execOp; rw [ho]
    simp only [Instr.sliceAt, Sem.run_bind, run_underlying hu, Result.andThen_ok, Instr.slice, hA, hb, run_sizeOf hz, Sem.run_pure, Option.map_none]
  cases hv with
  | own0 => exact ⟨_, key _ _ he (Nat.le_refl _), by
      have e0 : m.toNat - l.toNat = 0 := by omega
      rw [e0, Nat.zero_sub]
      exact .own0⟩
  | @own _ _ _ _ r cp q1 q2 q3 =>
    refine ⟨_, key _ _ he q2, ?_⟩
    obtain ⟨_, _, k1, _⟩ := blk_of hr hb q1
    by_cases h3 : cp = l.toNat
    · have e0 : m.toNat - l.toNat = 0 := by omega
      rw [if_pos h3, e0, h3, Nat.sub_self]
      exact .own0
    · rw [if_neg h3, Option.map_some, Addr.add_lit]
      have := VR.own (S := S) (w := w) (ρ := ρ) (b := b) (st := st + l.toNat) (len := m.toNat - l.toNat) (c := cp - l.toNat) q1 (by omega) (by omega)
      rw [Nat.add_mul, k1] at this
      rw [k1]
      exact this

/-- A part of a text. -/
theorem op_sliceS {t : TypeId} {x : Operand} {lo hi : Option Operand} {s : List UInt8} {l m : Int} (hu : P.underlying t = some .string) (hx : oev tm x = sb s) (hl : Bd tm lo 0 l) (hm : Bd tm hi s.length m) (h0 : 0 ≤ l) (h1 : l ≤ m) (h2 : m ≤ s.length) :
    OpP P (.slice t x lo hi none) tm h (sb ((s.drop l.toNat).take (m.toNat - l.toNat))) := fun c n nx ρ S a w hr => by
  have he := ev_str hr hx
  have hsz : (ByteArray.mk s.toArray).size = s.length := by show s.toArray.size = _; rw [List.size_toArray]
  have hb := run_bounds (P := P) (isSlice := false) (len := s.length) (cap := s.length) (bd_eval hr hl) (bd_eval hr hm) h0 h1 (by omega) w
  have hex : (ByteArray.mk s.toArray).extract l.toNat m.toNat = ⟨((s.drop l.toNat).take (m.toNat - l.toNat)).toArray⟩ := by
    apply ByteArray.ext
    rw [ByteArray.data_extract]
    simp [List.extract_toArray, List.extract_eq_take_drop]
  refine ⟨.string ((ByteArray.mk s.toArray).extract l.toNat m.toNat), fun o ho => ?_, by rw [hex]; exact .str⟩
  unfold execOp; rw [ho]
  simp only [Instr.sliceAt, Sem.run_bind, run_underlying hu, Result.andThen_ok, Instr.slice, he, Option.map_none, Option.isSome_none, Bool.false_eq_true, if_false, hsz, hb, Sem.run_pure]

/-- What a function hands back. -/
theorem res1 {fn : Func} {t : Nat} {st : St} (hf : fn.results = #[.tmp t]) : ResOK P fn st (tget st.tm t) := fun c n ρ S a w hr =>
  ⟨a.tmps.getD t undef, results_tmp hf a.tmps P w, hr.tmps t⟩
theorem res0 {fn : Func} {st : St} (hf : fn.results = #[]) : ResOK P fn st (.tup []) := fun c n ρ S a w hr =>
  ⟨.tuple #[], results_none hf a.tmps P w, .tup #[] rfl (fun i x u hx _ => by simp at hx)⟩
theorem res2 {fn : Func} {t u : Nat} {st : St} (hf : fn.results = #[.tmp t, .tmp u]) : ResOK P fn st (.tup [tget st.tm t, tget st.tm u]) := fun c n ρ S a w hr =>
  ⟨_, results_tmp2 hf a.tmps P w, .tup _ rfl (fun i x v hx hv => by
    match i, hx, hv with
    | 0, hx, hv => simp at hx hv; subst hx; subst hv; have := hr.tmps t; rwa [Array.getD_eq_getD_getElem?] at this
    | 1, hx, hv => simp at hx hv; subst hx; subst hv; have := hr.tmps u; rwa [Array.getD_eq_getD_getElem?] at this
    | i + 2, hx, hv => simp at hx)⟩
theorem res3 {fn : Func} {t u q : Nat} {st : St} (hf : fn.results = #[.tmp t, .tmp u, .tmp q]) : ResOK P fn st (.tup [tget st.tm t, tget st.tm u, tget st.tm q]) := fun c n ρ S a w hr =>
  ⟨.tuple #[a.tmps.getD t undef, a.tmps.getD u undef, a.tmps.getD q undef], by simp [results, hf], .tup _ rfl (fun i x v hx hv => by
    match i, hx, hv with
    | 0, hx, hv => simp at hx hv; subst hx; subst hv; have := hr.tmps t; rwa [Array.getD_eq_getD_getElem?] at this
    | 1, hx, hv => simp at hx hv; subst hx; subst hv; have := hr.tmps u; rwa [Array.getD_eq_getD_getElem?] at this
    | 2, hx, hv => simp at hx hv; subst hx; subst hv; have := hr.tmps q; rwa [Array.getD_eq_getD_getElem?] at this
    | i + 3, hx, hv => simp at hx)⟩

end
end Go.Proofs.Ytloddmbbfkejcaa.Abs
