/-
  Operations that read memory. They hold of any program.
-/
import Derived.Test.YtloddmbbfkejcaaAbsF
namespace Go.Proofs.Ytloddmbbfkejcaa.Abs

section
variable {P : Program} {tm : List (Nat × AV)} {h : Heap}

/-- The size of a type, by its row. -/
theorem run_sizeOf {t : TypeId} {sz : Nat} (hi : (P.info? t).map (·.size) = some sz) (w : World) : (sizeOf t).run P w = .ok sz w := by
  obtain ⟨i, h1, h2⟩ := Option.map_eq_some_iff.1 hi
  simp [sizeOf, typeInfo, h1, h2]

def isAggD : TypeDesc → Bool
  | .struct _ => true
  | .array _ _ => true
  | _ => false

theorem run_isAgg {t : TypeId} {d : TypeDesc} (hu : P.underlying t = some d) (w : World) : (isAgg t).run P w = .ok (isAggD d) w := by
  simp only [isAgg, Sem.run_bind, run_underlying hu, Result.andThen_ok]
  cases d <;> rfl

def NotNil : AV → Prop
  | .ptr _ _ _ => True
  | .lp _ => True
  | .fn (.func _) _ _ => True
  | _ => False
def NilP (b : Bool) : AV → Prop
  | .ptr _ _ _ => b = false
  | .nilp => b = true
  | _ => False
def NilS (b : Bool) : AV → Prop
  | .sl _ xs => xs ≠ [] ∧ b = false
  | .own _ _ len => 0 < len ∧ b = false
  | .nils => b = true
  | _ => False

theorem op_nilCheck {x : Operand} {v : AV} (hx : oev tm x = v) (hv : NotNil v) : OpP P (.nilCheck x) tm h v := fun c n nx ρ S a w hr => by
  have hh := ev_vr hr hx
  generalize he : a.eval x = u at hh
  cases hh with
  | ptr q => exact ⟨_, fun o ho => by unfold execOp; rw [ho]; simp [he], .ptr q⟩
  | lp vs q1 q2 q3 q4 => exact ⟨_, fun o ho => by unfold execOp; rw [ho]; simp [he], .lp vs q1 q2 q3 q4⟩
  | @fn _ f _ _ us vs q1 q2 q3 q4 =>
    cases f with
    | func f => exact ⟨_, fun o ho => by unfold execOp; rw [ho]; simp [he], .fn us vs q1 q2 q3 q4⟩
    | _ => exact hv.elim
  | _ => exact hv.elim

/-- p == nil. -/
theorem op_eqp {t t' : TypeId} {x : Operand} {v : AV} (hu : P.underlying t = some (.pointer (P.pointee t))) (hx : oev tm x = v) {b : Bool} (hb : NilP b v) :
    OpP P (.binOp .eql t x (.const (.pointer none)) t') tm h (.bool b) := fun c n nx ρ S a w hr => by
  have hh := ev_vr hr hx
  generalize he : a.eval x = u at hh
  cases hh with
  | ptr q => obtain rfl : b = false := hb; exact ⟨.bool false, fun o ho => by unfold execOp; rw [ho]; simp [he, eqGuard_at_pointer, show a.eval (.const (.pointer none)) = .pointer none from rfl, run_eql_pointer_nil w t _ hu], .bool⟩
  | nilp => obtain rfl : b = true := hb; exact ⟨.bool true, fun o ho => by unfold execOp; rw [ho]; simp [he, eqGuard_at_pointer, show a.eval (.const (.pointer none)) = .pointer none from rfl, run_eql_pointer_nil w t _ hu], .bool⟩
  | _ => exact hb.elim
theorem op_nep {t t' : TypeId} {x : Operand} {v : AV} (hu : P.underlying t = some (.pointer (P.pointee t))) (hx : oev tm x = v) {b : Bool} (hb : NilP b v) :
    OpP P (.binOp .neq t x (.const (.pointer none)) t') tm h (.bool (!b)) := fun c n nx ρ S a w hr => by
  have hh := ev_vr hr hx
  generalize he : a.eval x = u at hh
  cases hh with
  | ptr q => obtain rfl : b = false := hb; exact ⟨.bool true, fun o ho => by unfold execOp; rw [ho]; simp [he, eqGuard_at_pointer, show a.eval (.const (.pointer none)) = .pointer none from rfl, run_neq_pointer_nil w t _ hu], .bool⟩
  | nilp => obtain rfl : b = true := hb; exact ⟨.bool false, fun o ho => by unfold execOp; rw [ho]; simp [he, eqGuard_at_pointer, show a.eval (.const (.pointer none)) = .pointer none from rfl, run_neq_pointer_nil w t _ hu], .bool⟩
  | _ => exact hb.elim

/-- xs == nil, where it is known. -/
theorem op_eqn {t t' e : TypeId} {x : Operand} {v : AV} (hu : P.underlying t = some (.slice e)) (hx : oev tm x = v) {b : Bool} (hb : NilS b v) :
    OpP P (.binOp .eql t x (.const (.slice none 0 0)) t') tm h (.bool b) := fun c n nx ρ S a w hr => by
  have hh := ev_vr hr hx
  generalize he : a.eval x = u at hh
  have key : ∀ (A : Option Addr) (m q : Nat), a.eval x = .slice A m q → A.isNone = b → ∃ u, (∀ o : Oper, o.op = .binOp .eql t x (.const (.slice none 0 0)) t' → (execOp a.eval o).run P w = .ok (.value u) w) ∧ VR S w ρ (.bool b) u := fun A m q e1 e2 =>
    ⟨.bool b, fun o ho => by unfold execOp; rw [ho]; simp [e1, eqGuard_at_slice, show a.eval (.const (.slice none 0 0)) = .slice none 0 0 from rfl, Lib.run_eql_slice_nil w t e A m q 0 0 hu, e2], .bool⟩
  cases hh with
  | sl0 => exact absurd rfl hb.1
  | sl vs h1 h2 h3 h4 h5 h6 => exact key _ _ _ he (by simpa using hb.2.symm)
  | own h1 h2 h3 => exact key _ _ _ he (by simpa using hb.2.symm)
  | own0 => exact absurd hb.1 (by omega)
  | nils => exact key _ _ _ he (by simpa using hb.symm)
  | _ => exact hb.elim
theorem op_nen {t t' e : TypeId} {x : Operand} {v : AV} (hu : P.underlying t = some (.slice e)) (hx : oev tm x = v) {b : Bool} (hb : NilS b v) :
    OpP P (.binOp .neq t x (.const (.slice none 0 0)) t') tm h (.bool (!b)) := fun c n nx ρ S a w hr => by
  have hh := ev_vr hr hx
  generalize he : a.eval x = u at hh
  have key : ∀ (A : Option Addr) (m q : Nat), a.eval x = .slice A m q → A.isNone = b → ∃ u, (∀ o : Oper, o.op = .binOp .neq t x (.const (.slice none 0 0)) t' → (execOp a.eval o).run P w = .ok (.value u) w) ∧ VR S w ρ (.bool (!b)) u := fun A m q e1 e2 =>
    ⟨.bool (!b), fun o ho => by unfold execOp; rw [ho]; simp [e1, eqGuard_at_slice, show a.eval (.const (.slice none 0 0)) = .slice none 0 0 from rfl, run_neq_slice_nil_any w t e A m q 0 0 hu, e2], .bool⟩
  cases hh with
  | sl0 => exact absurd rfl hb.1
  | sl vs h1 h2 h3 h4 h5 h6 => exact key _ _ _ he (by simpa using hb.2.symm)
  | own h1 h2 h3 => exact key _ _ _ he (by simpa using hb.2.symm)
  | own0 => exact absurd hb.1 (by omega)
  | nils => exact key _ _ _ he (by simpa using hb.symm)
  | _ => exact hb.elim

theorem run_fieldAt {s : TypeId} {fs : Array Field} {k : Nat} {f : Field} {sz : Nat} (hu : P.underlying s = some (.struct fs)) (hf : fs[k]? = some f) (hz : (P.info? f.type).map (·.size) = some sz) (hsz : sz ≠ 0) (b o : Nat) (w : World) :
    (Instr.fieldAt s (.pointer (some ⟨b, o, none⟩)) k).run P w = .ok (.pointer (some ⟨b, o + f.offset, none⟩)) w := by
  simp [Instr.fieldAt, run_underlying hu, hf, Instr.sureAddr, fieldPlace, run_sizeOf hz, hsz, Addr.add_lit]

/-- A field's place. -/
theorem op_fieldAddr {s : TypeId} {x : Operand} {k : Nat} {fs : Array Field} {f : Field} {sz b i o : Nat} (hu : P.underlying s = some (.struct fs)) (hf : fs[k]? = some f) (hz : (P.info? f.type).map (·.size) = some sz) (hsz : sz ≠ 0) (hx : oev tm x = .ptr b i o) :
    OpP P (.fieldAddr s x k) tm h (.ptr b i (o + f.offset)) := fun c n nx ρ S a w hr => by
  have hh := ev_vr hr hx
  generalize he : a.eval x = u at hh
  cases hh with
  | @ptr _ _ _ _ r q =>
    refine ⟨.pointer (some ⟨r.blk, i * r.sz + o + f.offset, none⟩), fun oo ho => by unfold execOp; rw [ho]; simp only [he, Sem.run_bind, run_fieldAt hu hf hz hsz, Result.andThen_ok, Sem.run_pure], ?_⟩
    rw [Nat.add_assoc]
    exact .ptr q
theorem op_fieldAddrL {s : TypeId} {x : Operand} {k : Nat} {fs : Array Field} {f : Field} {sz : Nat} {cs : List AV} (hu : P.underlying s = some (.struct fs)) (hf : fs[k]? = some f) (hz : (P.info? f.type).map (·.size) = some sz) (hsz : sz ≠ 0) (hx : oev tm x = .lp cs) :
    OpP P (.fieldAddr s x k) tm h (.lp (cs.drop f.offset)) := fun c n nx ρ S a w hr => by
  have hh := ev_vr hr hx
  generalize he : a.eval x = u at hh
  cases hh with
  | @lp _ _ blk off vs q1 q2 q3 q4 =>
    refine ⟨.pointer (some ⟨blk, off + f.offset, none⟩), fun oo ho => by unfold execOp; rw [ho]; simp only [he, Sem.run_bind, run_fieldAt hu hf hz hsz, Result.andThen_ok, Sem.run_pure], ?_⟩
    refine .lp (vs.drop f.offset) q1 (by simp [q2]) (fun i u hu => ?_) (fun i x u hx hu => ?_)
    · rw [List.getElem?_drop] at hu
      have := q3 _ u hu
      rwa [Nat.add_assoc]
    · rw [List.getElem?_drop] at hx hu
      exact q4 _ x u hx hu

theorem run_indexAt {t e : TypeId} {sz : Nat} (hu : P.underlying t = some (.slice e)) (hz : (P.info? e).map (·.size) = some sz) (b o len cap : Nat) (k : IntKind) (i : Int) (h0 : 0 ≤ i) (h1 : i < len) (w : World) :
    (Instr.indexAt t (.slice (some ⟨b, o, none⟩) len cap) (.int k i)).run P w = .ok (.pointer (some ⟨b, o + i.toNat * sz, none⟩)) w := by
  simp [Instr.indexAt, run_underlying hu, asIntOf, h0, h1, run_sizeOf hz, Addr.add_lit]

/-- The place of an element. -/
theorem op_indexAddr {t e : TypeId} {x y : Operand} {sz b st len : Nat} {xs : List AV} {k : IntKind} {i : Int} (hu : P.underlying t = some (.slice e)) (hz : (P.info? e).map (·.size) = some sz) (hx : oev tm x = .own b st len) (hb : hget h b = some (.cells sz xs)) (hy : oev tm y = .int k i)
    (h0 : 0 ≤ i) (h1 : i < len) : OpP P (.indexAddr t x y) tm h (.ptr b (st + i.toNat) 0) := fun c n nx ρ S a w hr => by
  have hh := ev_vr hr hx
  have hi := ev_int hr hy
  generalize he : a.eval x = u at hh
  cases hh with
  | @own _ _ _ _ r cp q1 q2 q3 =>
    obtain ⟨_, _, e2⟩ := blk_of hr hb q1
    have hs : r.sz = sz := e2.1
    refine ⟨.pointer (some ⟨r.blk, st * r.sz + i.toNat * sz, none⟩), fun oo ho => by unfold execOp; rw [ho]; simp only [he, hi, Sem.run_bind, run_indexAt hu hz _ _ _ _ _ _ h0 h1, Result.andThen_ok, Sem.run_pure], ?_⟩
    have : (st * r.sz + i.toNat * sz) = (st + i.toNat) * r.sz + 0 := by rw [hs, Nat.add_mul]; rfl
    rw [this]
    exact .ptr q1
  | own0 => omega

theorem op_indexAddrL {t e : TypeId} {x y : Operand} {sz : Nat} {xs : List AV} {k : IntKind} {i : Int} {v : AV} (hu : P.underlying t = some (.slice e)) (hz : (P.info? e).map (·.size) = some sz) (hx : oev tm x = .sl sz xs) (hy : oev tm y = .int k i)
    (h0 : 0 ≤ i) (hv : xs[i.toNat]? = some v) : OpP P (.indexAddr t x y) tm h (.lp v.cells) := fun c n nx ρ S a w hr => by
  have hh := ev_vr hr hx
  have hi := ev_int hr hy
  have hlt : i.toNat < xs.length := (List.getElem?_eq_some_iff.1 hv).1
  generalize he : a.eval x = u at hh
  cases hh with
  | sl0 => simp at hv
  | @sl _ _ _ blk off cp vs q1 q2 q3 q4 q5 q6 =>
    refine ⟨.pointer (some ⟨blk, off + i.toNat * sz, none⟩), fun oo ho => by unfold execOp; rw [ho]; simp only [he, hi, Sem.run_bind, run_indexAt hu hz _ _ _ _ _ _ h0 (show i < (xs.length : Int) by omega), Result.andThen_ok, Sem.run_pure], ?_⟩
    have hvl : v.cells.length = sz := q3 v (List.mem_of_getElem? hv)
    have hfl := flat_len q3
    have hmul : (i.toNat + 1) * sz ≤ xs.length * sz := Nat.mul_le_mul_right _ hlt
    rw [Nat.add_mul, Nat.one_mul] at hmul
    have hpart : ∀ j, j < sz → v.cells[j]? = (flat xs)[i.toNat * sz + j]? := fun j hj => by
      have := flat_get q3 i.toNat 1 j (by omega) (by omega)
      rw [← this]
      have e1 : (xs.drop i.toNat).take 1 = [v] := by
        rw [List.getElem?_eq_some_iff] at hv
        obtain ⟨_, hv⟩ := hv
        rw [List.drop_eq_getElem_cons hlt, hv, List.take_succ_cons, List.take_zero]
      rw [e1]
      simp [flat]
    refine .lp ((vs.drop (i.toNat * sz)).take sz) q1 (by rw [List.length_take, List.length_drop, ← q2, hfl, hvl]; omega) (fun j u hu => ?_) (fun j x u hx hu => ?_)
    · have hj : j < sz := by
        rcases Nat.lt_or_ge j sz with hh | hh
        · exact hh
        · rw [List.getElem?_take, if_neg (by omega)] at hu; cases hu
      rw [List.getElem?_take_of_lt hj, List.getElem?_drop] at hu
      have := q5 _ u hu
      rwa [Nat.add_assoc]
    · have hj : j < sz := by
        rcases Nat.lt_or_ge j sz with hh | hh
        · exact hh
        · rw [List.getElem?_take, if_neg (by omega)] at hu; cases hu
      rw [List.getElem?_take_of_lt hj, List.getElem?_drop] at hu
      rw [hpart j hj] at hx
      exact q6 _ x u hx hu

/-- Cells of a block of one's own that lie side by side. -/
theorem own_cells {c : Ctx} {n nx : Nat} {ρ : Rho} {S : Nat → Prop} {a : Act} {w : World} (hr : Rep c n ⟨tm, h, nx⟩ ρ S a w) {b : Nat} {sz : Nat} {xs : List AV} (hb : hget h b = some (.cells sz xs)) {i : Nat} {e : AV} (he : xs[i]? = some e) :
    ∃ r cur el, ρ b = some r ∧ r.sz = sz ∧ e.cells.length = sz ∧ w.heap[r.blk]? = some (.cells cur el (0, 0)) ∧ cur.size = r.cap * sz ∧ xs.length ≤ r.cap ∧ (i * sz + sz ≤ cur.size) ∧ (∀ (j : Nat) (u : Value), cur[j]? = some u → u.oneCell' = true) ∧
      ∀ (j : Nat), j < sz → ∃ x u, e.cells[j]? = some x ∧ cur[i * sz + j]? = some u ∧ VR S w ρ x u := by
  rcases hr.sim.blk b _ hb with ⟨r, h1, ⟨h2, h3, h4, h5, cur, el, h6, h7, h8, h9⟩, _, _⟩ | ⟨_, sz', hv⟩
  case inr =>
    simp only [Blk.cells.injEq] at hv
    rw [hv.2] at he
    simp at he
  have hi : i < xs.length := (List.getElem?_eq_some_iff.1 he).1
  have hel : e.cells.length = sz := h3 e (List.mem_of_getElem? he)
  have hm : (i + 1) * sz ≤ cur.size := by rw [h7]; exact Nat.mul_le_mul_right _ (by omega)
  rw [Nat.add_mul, Nat.one_mul] at hm
  refine ⟨r, cur, el, h1, h2, hel, h6, h7, h4, hm, h8, fun j hj => ?_⟩
  have hj2 : i * sz + j < cur.size := by omega
  have e1 : e.cells[j]? = some (e.cells[j]'(by omega)) := List.getElem?_eq_getElem _
  have e2 : cur[i * sz + j]? = some cur[i * sz + j] := by simp [hj2]
  refine ⟨_, _, e1, e2, h9 (i * sz + j) _ _ ?_ e2⟩
  have := flat_get h3 i 1 j (by omega) (by omega)
  rw [← this, ← e1]
  have e3 : (xs.drop i).take 1 = [e] := by
    rw [List.getElem?_eq_some_iff] at he
    obtain ⟨_, he⟩ := he
    rw [List.drop_eq_getElem_cons hi, he, List.take_succ_cons, List.take_zero]
  rw [e3]
  simp [flat]

theorem run_loadVar_one {t : TypeId} {d : TypeDesc} (hu : P.underlying t = some d) (hd : isAggD d = false) {b o : Nat} {u : Value} {w : World} (hc : w.cell? ⟨b, o, none⟩ = some u) : (loadVar t ⟨b, o, none⟩).run P w = .ok u w := by
  simp only [loadVar, Sem.run_bind, run_isAgg hu, Result.andThen_ok, hd]
  simp [hc]

theorem run_loadVar_agg {t : TypeId} {d : TypeDesc} {m : Nat} (hu : P.underlying t = some d) (hd : isAggD d = true) (hz : (P.info? t).map (·.size) = some m) {b o : Nat} {us : List Value} {w : World} (hl : us.length = m) (hc : ∀ (j : Nat) (u : Value), us[j]? = some u → w.cell? ⟨b, o + j, none⟩ = some u) :
    (loadVar t ⟨b, o, none⟩).run P w = .ok (.agg us.toArray) w := by
  simp only [loadVar, Sem.run_bind, run_isAgg hu, Result.andThen_ok, hd]
  have := run_loadCells_list (P := P) w ⟨b, o, none⟩ us (fun j u hu => by rw [Addr.add_lit]; exact hc j u hu)
  rw [hl] at this
  simp [run_sizeOf hz, this]

/-- A part of a list, as it is written out. -/
def part (l : List AV) : Nat → Nat → Option (List AV)
  | 0, 0 => some []
  | 0, m + 1 => match l with
    | [] => none
    | x :: t => match part t 0 m with
      | some r => some (x :: r)
      | none => none
  | o + 1, m => match l with
    | [] => none
    | _ :: t => part t o m

theorem part_spec : ∀ (l : List AV) (o m : Nat) (cs : List AV), part l o m = some cs → cs.length = m ∧ o + m ≤ l.length ∧ ∀ j, j < m → cs[j]? = l[o + j]? := by
  intro l
  induction l with
  | nil =>
    intro o m cs hp
    cases o with
    | zero =>
      cases m with
      | zero => simp [part] at hp; subst hp; exact ⟨rfl, Nat.le_refl _, fun j hj => by omega⟩
      | succ m => simp [part] at hp
    | succ o => simp [part] at hp
  | cons x t ih =>
    intro o m cs hp
    cases o with
    | zero =>
      cases m with
      | zero => simp [part] at hp; subst hp; exact ⟨rfl, Nat.zero_le _, fun j hj => by omega⟩
      | succ m =>
        simp only [part] at hp
        cases hq : part t 0 m with
        | none => rw [hq] at hp; cases hp
        | some r =>
          rw [hq] at hp
          obtain rfl := Option.some.inj hp
          obtain ⟨h1, h2, h3⟩ := ih 0 m r hq
          refine ⟨by simp [h1], by simp; omega, fun j hj => ?_⟩
          cases j with
          | zero => simp
          | succ j =>
            have := h3 j (by omega)
            rw [Nat.zero_add] at this
            rw [List.getElem?_cons_succ, this, Nat.zero_add, List.getElem?_cons_succ]
    | succ o =>
      simp only [part] at hp
      obtain ⟨h1, h2, h3⟩ := ih o m cs hp
      refine ⟨h1, by simp; omega, fun j hj => ?_⟩
      rw [h3 j hj, show o + 1 + j = (o + j) + 1 from by omega, List.getElem?_cons_succ]

/-- A variable of one cell, of one's own. -/
theorem op_load1 {t : TypeId} {d : TypeDesc} {x : Operand} {b i o sz : Nat} {xs : List AV} {e v : AV} (hu : P.underlying t = some d) (hd : isAggD d = false) (hx : oev tm x = .ptr b i o) (hb : hget h b = some (.cells sz xs)) (he : xs[i]? = some e) (hv : e.cells[o]? = some v) :
    OpP P (.load t x) tm h v := fun c n nx ρ S a w hr => by
  have hh := ev_vr hr hx
  obtain ⟨r, cur, el, h1, h2, h3, h4, h5, h6, h7, h8, h9⟩ := own_cells hr hb he
  generalize hev : a.eval x = u at hh
  cases hh with
  | ptr q =>
    obtain rfl := Option.some.inj (h1.symm.trans q)
    have ho : o < sz := by rw [← h3]; exact (List.getElem?_eq_some_iff.1 hv).1
    obtain ⟨y, u, f1, f2, f3⟩ := h9 o ho
    obtain rfl := Option.some.inj (f1.symm.trans hv)
    exact ⟨u, fun oo hoo => by
      unfold execOp; rw [hoo]
      simp only [hev, Instr.loadAt, Instr.sureAddr, Sem.run_bind, Sem.run_pure, Result.andThen_ok, run_loadVar_one hu hd (show w.cell? ⟨r.blk, i * r.sz + o, none⟩ = some u by rw [cell_of h4, h2]; exact f2)], f3⟩

/-- A struct of one's own, or a part of one. -/
theorem op_loadA {t : TypeId} {d : TypeDesc} {x : Operand} {b i o m sz : Nat} {xs : List AV} {e : AV} {cs : List AV} (hu : P.underlying t = some d) (hd : isAggD d = true) (hz : (P.info? t).map (·.size) = some m) (hx : oev tm x = .ptr b i o) (hb : hget h b = some (.cells sz xs)) (he : xs[i]? = some e)
    (hp : part e.cells o m = some cs) : OpP P (.load t x) tm h (.agg cs) := fun c n nx ρ S a w hr => by
  have hh := ev_vr hr hx
  obtain ⟨r, cur, el, h1, h2, h3, h4, h5, h6, h7, h8, h9⟩ := own_cells hr hb he
  obtain ⟨p1, p2, p3⟩ := part_spec _ _ _ _ hp
  generalize hev : a.eval x = u at hh
  cases hh with
  | ptr q =>
    obtain rfl := Option.some.inj (h1.symm.trans q)
    have hl : ((cur.toList.drop (i * sz + o)).take m).length = m := by rw [List.length_take, List.length_drop, Array.length_toList]; omega
    refine ⟨.agg ((cur.toList.drop (i * sz + o)).take m).toArray, fun oo hoo => ?_, .agg _ (by simpa [hl] using p1) (fun j y u hy hu => ?_)⟩
    · unfold execOp; rw [hoo]
      simp only [hev, Instr.loadAt, Instr.sureAddr, Sem.run_bind, Sem.run_pure, Result.andThen_ok, run_loadVar_agg hu hd hz hl (b := r.blk) (o := i * r.sz + o) (fun j u hu => by
        have hj : j < m := by
          rcases Nat.lt_or_ge j m with hh | hh
          · exact hh
          · rw [List.getElem?_take, if_neg (by omega)] at hu; cases hu
        rw [List.getElem?_take_of_lt hj, List.getElem?_drop, Array.getElem?_toList] at hu
        rw [cell_of h4, h2]; exact hu)]
    · have hj : j < m := by rw [← p1]; exact (List.getElem?_eq_some_iff.1 hy).1
      rw [List.getElem?_toArray, List.getElem?_take_of_lt hj, List.getElem?_drop, Array.getElem?_toList] at hu
      obtain ⟨y', u', f1, f2, f3⟩ := h9 (o + j) (by omega)
      rw [p3 j hj, f1] at hy
      obtain rfl := Option.some.inj hy
      rw [← Nat.add_assoc, hu] at f2
      obtain rfl := Option.some.inj f2
      exact f3

/-- The same of what is read alone. -/
theorem op_load1L {t : TypeId} {d : TypeDesc} {x : Operand} {cs : List AV} {v : AV} (hu : P.underlying t = some d) (hd : isAggD d = false) (hx : oev tm x = .lp cs) (hv : cs[0]? = some v) : OpP P (.load t x) tm h v := fun c n nx ρ S a w hr => by
  have hh := ev_vr hr hx
  generalize hev : a.eval x = u at hh
  cases hh with
  | @lp _ _ blk off vs q1 q2 q3 q4 =>
    have h0 : 0 < vs.length := by rw [← q2]; exact (List.getElem?_eq_some_iff.1 hv).1
    have e : vs[0]? = some vs[0] := List.getElem?_eq_getElem h0
    have hc := (q3 0 _ e).1
    rw [Nat.add_zero] at hc
    refine ⟨vs[0], fun oo hoo => ?_, (q4 0 _ _ hv e).mono (fun _ h => ⟨h, rfl⟩) (fun _ _ h => by cases h)⟩
    unfold execOp; rw [hoo]
    simp only [hev, Instr.loadAt, Instr.sureAddr, Sem.run_bind, Sem.run_pure, Result.andThen_ok, run_loadVar_one hu hd hc]

theorem op_loadAL {t : TypeId} {d : TypeDesc} {x : Operand} {m : Nat} {cs ds : List AV} (hu : P.underlying t = some d) (hd : isAggD d = true) (hz : (P.info? t).map (·.size) = some m) (hx : oev tm x = .lp cs) (hp : part cs 0 m = some ds) : OpP P (.load t x) tm h (.agg ds) := fun c n nx ρ S a w hr => by
  have hh := ev_vr hr hx
  obtain ⟨p1, p2, p3⟩ := part_spec _ _ _ _ hp
  generalize hev : a.eval x = u at hh
  cases hh with
  | @lp _ _ blk off vs q1 q2 q3 q4 =>
    have hl : (vs.take m).length = m := by rw [List.length_take]; omega
    refine ⟨.agg (vs.take m).toArray, fun oo hoo => ?_, .agg _ (by simpa [hl] using p1) (fun j y u hy hu => ?_)⟩
    · unfold execOp; rw [hoo]
      simp only [hev, Instr.loadAt, Instr.sureAddr, Sem.run_bind, Sem.run_pure, Result.andThen_ok, run_loadVar_agg hu hd hz hl (b := blk) (o := off) (fun j u hu => by
        have hj : j < m := by
          rcases Nat.lt_or_ge j m with hh | hh
          · exact hh
          · rw [List.getElem?_take, if_neg (by omega)] at hu; cases hu
        rw [List.getElem?_take_of_lt hj] at hu
        exact (q3 j u hu).1)]
    · have hj : j < m := by rw [← p1]; exact (List.getElem?_eq_some_iff.1 hy).1
      rw [List.getElem?_toArray, List.getElem?_take_of_lt hj] at hu
      rw [p3 j hj, Nat.zero_add] at hy
      exact (q4 j y u hy hu).mono (fun _ h => ⟨h, rfl⟩) (fun _ _ h => by cases h)

end
end Go.Proofs.Ytloddmbbfkejcaa.Abs
