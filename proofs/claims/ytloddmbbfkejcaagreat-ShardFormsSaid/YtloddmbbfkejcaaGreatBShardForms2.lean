/- Texts of this session, merged: AbsW, AbsY, AbsZ, AbsT, AbsFA, AbsFB, AbsFE, AbsFF, AbsFG, AIns, AbsFH, AInsseat. -/
import Derived.Test.YtloddmbbfkejcaaGreatBShardForms1
import Derived.Test.YtloddmbbfkejcaaGreatProg
import Derived.Lib.AppendZerosOnto
import Derived.Lib.Overlaps
import Derived.Laws.Append
set_option linter.unusedVariables false
set_option linter.unusedSimpArgs false
section
/-
  A machine that runs codes whose inputs are known: its walk is sound. It holds of any program.
-/
namespace Go.Proofs.YtloddmbbfkejcaaGreat.Abs

theorem forceI_eq {α : Type} (n : Int) (k : Int → α) : forceI n k = k n := by
  unfold forceI
  cases n <;> rfl

theorem forceV_eq {α : Type} (v : AV) (k : AV → α) : forceV v k = k v := by
  unfold forceV
  split
  · exact forceI_eq _ _
  · rename_i b; cases b <;> rfl
  · rfl
  · rfl
  · rfl

theorem putF_eq {α : Type} (d : Option Nat) (v : AV) (st : St) (k : St → α) : putF d v st k = k (putA d v st) := by
  unfold putF putA
  cases d with
  | none => rfl
  | some d => exact (forceV_eq _ _).trans rfl

theorem tgTop_eq (tm : List (Nat × AV)) (d : Nat) : tgTop tm d = tget tm d := by
  unfold tgTop
  rw [tgF_eq]
  induction tm with
  | nil => rfl
  | cons p t ih =>
    obtain ⟨i, v⟩ := p
    unfold tgetS tget
    by_cases e : i = d
    · rw [if_pos e, if_pos e]
    · rw [if_neg e, if_neg e]; exact ih

theorem gdst_eq (ops : List Oper) (j : Nat) : gdst ops j = (ops.toArray[j]?).bind (·.dst) := by
  unfold gdst
  rw [List.getElem?_toArray]
  cases ops[j]? <;> rfl

theorem dstOK_ok {n : Nat} {d : Option Nat} (h : dstOK n d = true) : ∀ k, d = some k → k < n := by
  intro k e
  subst e
  simpa [dstOK] using h

/-- What calls do. -/
def CFok (P : Program) (cf : CF) : Prop := ∀ f args h nx r h' nx', cf f args h nx = some (r, h', nx') → (∃ fn, P.funcs[f]? = some fn ∧ (fn.name == "runtime.NumGoroutine") = false ∧ fn.body.isNone = false) ∧
  ∀ al, (al = true ∨ (r.nosl = true ∧ h'.all (fun p => p.2.nosl) = true)) → AC P f args h nx al (fun a b c => a = r ∧ b = h' ∧ c = nx')

section
variable {P : Program}

/-- An operation that enters a function with the whole heap. -/
theorem enter_ok {op : Op} {tm : List (Nat × AV)} {h : Heap} {nx : Nat} {f : FuncId} {args : List AV} {r : AV} {h' : Heap} {nx' : Nat} (hac : AC P f args h nx true (fun a b c => a = r ∧ b = h' ∧ c = nx')) (hle : nx ≤ nx')
    (H : ∀ (c : Ctx) (n : Nat) (ρ : Rho) (S : Nat → Prop) (a : Act) (w : World), Rep c n ⟨tm, h, nx⟩ ρ S a w → ∀ o : Oper, o.op = op → ∃ vals, (execOp a.eval o).run P w = .ok (.enter f vals) w ∧ VRs S w ρ args vals) : OpOK P op ⟨tm, h, nx⟩ r h' nx' := by
  intro c n ρ S a w hr o ho
  obtain ⟨vals, hrun, hvrs⟩ := H c n ρ S a w hr o ho
  unfold Does
  rw [hrun]
  refine (hac ρ S w _ hr.sim hr.fresh hvrs).mono ?_
  rintro e w' ⟨v, r', hh, nn, ρ', S', rfl, ⟨rfl, rfl, rfl⟩, hv, hs, hf2, hdm, hp⟩
  refine ⟨v, rfl, ρ', fun b => S b ∨ S' b, ?_, hv.mono (fun b hb => ⟨.inr hb, rfl⟩) (fun _ _ h => h), ?_, ?_⟩
  rotate_left
  · exact fun b q hb => (hp.ids b (hr.known hb)).trans hb
  · intro b hb
    refine ⟨.inl hb, hp.keep b (hr.sim.lt b hb) ?_⟩
    rintro ⟨i, B, q, e1, e2, rfl⟩
    exact (blk_of hr e1 e2).1 hb
  have hno : ∀ b, S b → ¬ Own ρ h b := by
    rintro b hb ⟨i, B, q, e1, e2, rfl⟩
    exact (blk_of hr e1 e2).1 hb
  have hkeepS : ∀ b, S b → w'.heap[b]? = w.heap[b]? := fun b hb => hp.keep b (hr.sim.lt b hb) (hno b hb)
  have hq := hr.post
  have hown : ∀ b, Own ρ h b → c.own0 b ∨ c.w0.heap.size ≤ b := by
    rintro b ⟨i, B, q, e1, e2, rfl⟩
    exact hq.own i B q e1 e2
  refine ⟨hr.size, hr.defers, fun i => (hr.tmps i).mono (fun b hb => ⟨.inl hb, hkeepS b hb⟩) (fun b q hb => (hp.ids b (hr.known hb)).trans hb), ⟨fun b B hb => ?_, hs.inj, fun b hb => ?_⟩, ?_, hf2, Nat.le_trans hr.le hle, hdm⟩
  · rcases hs.blk b B hb with ⟨q, e1, e2, e3, e4⟩ | hv2
    · refine .inl ⟨q, e1, e2.mono (fun b hb => ⟨.inr hb, rfl⟩) (fun _ _ h => h) rfl, ?_, e4⟩
      rintro (h5 | h5)
      · rcases hp.own q.blk ⟨b, B, q, hb, e1, rfl⟩ with h6 | h6
        · exact hno _ h5 h6
        · have := hr.sim.lt _ h5; omega
      · exact e3 h5
    · exact .inr hv2
  · rcases hb with h5 | h5
    · exact Nat.lt_of_lt_of_le (hr.sim.lt b h5) hp.size
    · exact hs.lt b h5
  · refine ⟨hp.os.trans hq.os, hp.tape.trans hq.tape, hp.output.trans hq.output, Nat.le_trans hq.size hp.size, fun b hb ho => ?_, fun b hb => .inl (hq.sIn b hb), fun b hb => ?_, fun b B q e1 e2 => ?_, fun b hb => ?_⟩
    · refine (hp.keep b (Nat.lt_of_lt_of_le hb hq.size) (fun hO => ?_)).trans (hq.keep b hb ho)
      rcases hown b hO with h5 | h5
      · exact ho h5
      · omega
    · rcases hb with h5 | h5
      · exact hq.sNew b h5
      · rcases hp.s b h5 with ⟨_, h6⟩ | h6
        · exact hq.sNew b h6
        · exact .inr (Nat.le_trans hq.size h6)
    · rcases hp.own q.blk ⟨b, B, q, e1, e2, rfl⟩ with h5 | h5
      · exact hown _ h5
      · exact .inr (Nat.le_trans hq.size h5)
    · exact (hp.ids b (Nat.lt_of_lt_of_le hb hr.le)).trans (hq.ids b hb)

/-- A call that is handed the whole heap. -/
theorem op_callI {tm : List (Nat × AV)} {h : Heap} {nx : Nat} {fo : Operand} {xs : Array Operand} {ts : Array TypeId} {f : FuncId} {fn : Func} {first caps args : List AV} {r : AV} {h' : Heap} {nx' : Nat}
    (hac : AC P f (first ++ (args ++ caps)) h nx true (fun a b c => a = r ∧ b = h' ∧ c = nx')) (hf : P.funcs[f]? = some fn) (hn : (fn.name == "runtime.NumGoroutine") = false ∧ fn.body.isNone = false)
    (hfo : oev tm fo = .fn (.func f) first caps) (hargs : xs.toList.map (oev tm) = args) (hle : nx ≤ nx') : OpOK P (.call { callee := .value fo, args := xs, argTypes := ts }) ⟨tm, h, nx⟩ r h' nx' := by
  refine enter_ok hac hle fun c n ρ S a w hr o ho => ?_
  have hf' := hr.oev fo
  rw [show (St.mk tm h nx).tm = tm from rfl, hfo] at hf'
  generalize hfv : a.eval fo = fv at hf'
  cases hf' with
  | fn us vs h1 h2 h3 h4 =>
  have hrun : (execOp a.eval o).run P w = .ok (.enter f (us ++ xs.map a.eval ++ vs)) w := by
    unfold execOp
    rw [ho]
    simp only [resolve, hfv, Deferred.ofValue, Sem.run_bind, Sem.run_pure, Result.andThen_ok, invoke]
    exact AC.calls hf hn _ _
  have hargsVR : ∀ (i : Nat) (x : AV) (u : Value), (first ++ (args ++ caps))[i]? = some x → (us ++ xs.map a.eval ++ vs)[i]? = some u → VR S w ρ x u := by
    intro i x u hx hu
    subst hargs
    rw [Array.append_assoc] at hu
    rcases Nat.lt_or_ge i first.length with hlt | hge
    · rw [List.getElem?_append_left hlt] at hx
      rw [Array.getElem?_append_left (by omega)] at hu
      exact h3 i x u hx hu
    · rw [List.getElem?_append_right hge] at hx
      rw [Array.getElem?_append_right (by omega), ← h1] at hu
      generalize i - first.length = j at hx hu
      rcases Nat.lt_or_ge j xs.size with hlt | hge
      · rw [List.getElem?_append_left (by simpa using hlt)] at hx
        rw [Array.getElem?_append_left (by simpa using hlt)] at hu
        rw [List.getElem?_map, Array.getElem?_toList] at hx
        rw [Array.getElem?_map] at hu
        obtain ⟨y, hy, rfl⟩ := Option.map_eq_some_iff.1 hx
        rw [hy] at hu
        obtain rfl := Option.some.inj hu
        exact hr.oev y
      · rw [List.getElem?_append_right (by simpa using hge)] at hx
        rw [Array.getElem?_append_right (by simpa using hge)] at hu
        simp only [List.length_map, Array.length_toList] at hx
        simp only [Array.size_map] at hu
        exact h4 _ x u hx hu
  have hlen : (first ++ (args ++ caps)).length = (us ++ xs.map a.eval ++ vs).size := by
    subst hargs
    simp [h1, h2, Nat.add_assoc]
  exact ⟨_, hrun, hlen, hargsVR⟩

theorem methF_ok {t : TypeId} {m : String} {f : FuncId} {pr : Bool} {e : TypeId} (h : methF P t m = some (f, pr, e)) : ∃ i mm, P.info? t = some i ∧ P.underlying t = some (.pointer e) ∧ i.methods.find? (·.name == m) = some mm ∧ mm.path = #[] ∧ mm.func = some (f, pr) := by
  unfold methF at h
  split at h
  · rename_i i e' hi hu
    split at h
    · rename_i mm hm
      split at h
      · rename_i g pr' hp hf
        simp only [Option.some.injEq, Prod.mk.injEq] at h
        obtain ⟨rfl, rfl, rfl⟩ := h
        exact ⟨i, mm, hi, hu, hm, by rw [← Array.toArray_toList (xs := mm.path), hp], hf⟩
      · cases h
    · cases h
  · cases h

/-- A method of a value behind an interface. -/
theorem op_inv {tm : List (Nat × AV)} {h : Heap} {nx : Nat} {rc : Operand} {m : String} {xs : Array Operand} {ts : Array TypeId} {t e : TypeId} {b i o : Nat} {aa : List AV} {f : FuncId} {fn : Func} {pr : Bool} {rv r : AV} {h' : Heap} {nx' : Nat}
    (hrc : oev tm rc = .ifc t (.ptr b i o)) (has : xs.toList.map (oev tm) = aa) (hm : methF P t m = some (f, pr, e)) (hrv : (if pr then some (AV.ptr b i o) else stepH0 P [(0, .ptr b i o)] h e (.tmp 0)) = some rv)
    (hac : AC P f (rv :: aa) h nx true (fun a b c => a = r ∧ b = h' ∧ c = nx')) (hf : P.funcs[f]? = some fn) (hn : (fn.name == "runtime.NumGoroutine") = false ∧ fn.body.isNone = false) (hle : nx ≤ nx') :
    OpOK P (.call { callee := .invoke rc m, args := xs, argTypes := ts }) ⟨tm, h, nx⟩ r h' nx' := by
  refine enter_ok hac hle fun c n ρ S a w hr oo ho => ?_
  obtain ⟨inf, mm, i1, i2, i3, i4, i5⟩ := methF_ok hm
  have hv := hr.oev rc
  rw [show (St.mk tm h nx).tm = tm from rfl, hrc] at hv
  generalize hev : a.eval rc = u at hv
  cases hv with
  | @ifc _ _ _ u' hv =>
  -- the receiver
  have hrec : ∃ rvv, (receiverAt t (.val u') pr (some ((m.splitOn ".").getLastD m))).run P w = .ok rvv w ∧ VR S w ρ rv rvv := by
    cases pr with
    | true =>
      simp only [if_true, Option.some.injEq] at hrv
      subst hrv
      exact ⟨u', by simp [receiverAt, run_underlying i2, Place.get], hv⟩
    | false =>
      simp only [Bool.false_eq_true, if_false] at hrv
      have hr1 : Rep c 1 ⟨[(0, .ptr b i o)], h, nx⟩ ρ S { tmps := #[u'], defers := [] } w := by
        refine ⟨rfl, rfl, fun k => ?_, hr.sim, hr.post, hr.fresh, hr.le, hr.dom⟩
        show VR S w ρ (tget [(0, .ptr b i o)] k) _
        simp only [tget]
        by_cases hk : 0 = k
        · subst hk; rw [if_pos rfl]; exact hv
        · rw [if_neg hk]; exact .top
      have hop : OpP P (.load e (.tmp 0)) [(0, .ptr b i o)] h rv := stepH_ok (by unfold stepH; exact hrv)
      obtain ⟨rvv, k1, k2⟩ := hop c 1 nx ρ S _ w hr1
      refine ⟨rvv, ?_, k2⟩
      have h3 := k1 ⟨none, .load e (.tmp 0), 0, "", #[], none⟩ rfl
      have ea : Act.eval { tmps := #[u'], defers := [] } (.tmp 0) = u' := rfl
      cases hv with
      | ptr hp =>
        simp only [execOp, Instr.loadAt, Instr.sureAddr, Sem.run_bind, ea, Sem.run_pure, Result.andThen_ok] at h3
        generalize hl : (loadVar e _).run P w = q at h3
        cases q with
        | ok z w1 =>
          simp only [Result.andThen_ok, Sem.run_pure, Result.ok.injEq, Next.value.injEq] at h3
          obtain ⟨rfl, rfl⟩ := h3
          have hw : ∀ (q : Addr) (nm : String), (Builtin.ssaWrapNilChk_ #[t] t #[.pointer (some q), strVal "", strVal nm]).run P w1 = .ok (.pointer (some q)) w1 := fun _ _ => rfl
          simp only [receiverAt, Sem.run_bind, run_underlying i2, Result.andThen_ok, Place.get, Sem.run_pure, hw, asAddr, hl]
        | halt z w1 => cases h3
  obtain ⟨rvv, k1, k2⟩ := hrec
  refine ⟨#[rvv] ++ xs.map a.eval, ?_, ?_, ?_⟩
  · unfold execOp
    rw [ho]
    have hmeth : (method (P.types.size + Made.depth) t u' m).run P w = .ok (f, rvv) w := by
      have e1 : P.types.size + Made.depth = (P.types.size + Made.depth - 1) + 1 := by simp [Made.depth]
      rw [e1]
      unfold method
      have hp0 : mm.path.isEmpty = true := by rw [i4]; rfl
      simp only [typeInfo, Sem.run_bind, run_program, Result.andThen_ok, i1, Sem.run_pure, i3, i4, follow, i5, List.isEmpty_toArray, List.isEmpty_nil, if_true, k1]
    simp only [resolve, hev, invoke, callMethod, Sem.run_bind, Sem.run_pure, Result.andThen_ok, run_program]
    have hx0 : (#[Value.iface t u'] ++ xs.map a.eval)[0]? = some (Value.iface t u') := by rw [Array.getElem?_append_left (by exact Nat.zero_lt_one)]; rfl
    have hx1 : (#[Value.iface t u'] ++ xs.map a.eval).extract 1 (#[Value.iface t u'] ++ xs.map a.eval).size = xs.map a.eval := by
      apply Array.ext'
      simp [List.take_of_length_le]
    rw [hx0, hx1]
    simp only [callMethod, Sem.run_bind, run_program, Result.andThen_ok, hmeth]
    exact AC.calls hf hn _ _
  · subst has; simp [Nat.add_comm]
  · intro j x u hx hu
    cases j with
    | zero => simp only [List.getElem?_cons_zero, Option.some.injEq] at hx; subst hx; rw [Array.getElem?_append_left (by exact Nat.zero_lt_one)] at hu; obtain rfl := Option.some.inj hu; exact k2
    | succ j =>
      rw [List.getElem?_cons_succ] at hx
      rw [Array.getElem?_append_right (by exact Nat.succ_le_succ (Nat.zero_le j))] at hu
      rw [show j + 1 - #[rvv].size = j from rfl] at hu
      subst has
      rw [List.getElem?_map, Array.getElem?_toList] at hx
      rw [Array.getElem?_map] at hu
      obtain ⟨y, hy, rfl⟩ := Option.map_eq_some_iff.1 hx
      rw [hy] at hu
      obtain rfl := Option.some.inj hu
      exact hr.oev y

theorem isInv_ok {op : Op} {r : Operand} {m : String} {xs : Array Operand} (h : isInv op = some (r, m, xs)) : ∃ ts, op = .call { callee := .invoke r m, args := xs, argTypes := ts } := by
  unfold isInv at h
  split at h
  · rename_i c
    split at h
    · rename_i r' m' hc
      simp only [Option.some.injEq, Prod.mk.injEq] at h
      obtain ⟨rfl, rfl, rfl⟩ := h
      obtain ⟨cal, ys, ts⟩ := c
      simp only at hc
      subst hc
      exact ⟨ts, rfl⟩
    · cases h
  · cases h

theorem anyI_ok {cf : CF} (hcf : CFok P cf) {r : Operand} {m : String} {xs : Array Operand} {ts : Array TypeId} {tm : List (Nat × AV)} {h : Heap} {nx : Nat} {v : AV} {h' : Heap} {nx' : Nat} (he : anyI P cf r m xs tm h nx = some (v, h', nx')) :
    OpOK P (.call { callee := .invoke r m, args := xs, argTypes := ts }) ⟨tm, h, nx⟩ v h' nx' := by
  unfold anyI at he
  split at he
  · rename_i t b i o aa h1 h2
    split at he
    · rename_i f pr e hm
      split at he
      · rename_i rv hrv
        split at he
        · rename_i v0 h0 n0 hr
          split at he
          · rename_i hle
            simp only [Option.some.injEq, Prod.mk.injEq] at he
            obtain ⟨rfl, rfl, rfl⟩ := he
            obtain ⟨⟨fn, q1, q2, q3⟩, q4⟩ := hcf _ _ _ _ _ _ _ hr
            exact op_inv (oeO h1) (oevsS_spec _ _ (oesF_spec h2)) hm hrv (q4 true (.inl rfl)) q1 ⟨q2, q3⟩ (Nat.le_of_ble_eq_true hle)
          · cases he
        · cases he
      · cases he
    · cases he
  · cases he

theorem callArgs_ok {tm : List (Nat × AV)} {c : Call} {f : FuncId} {args : List AV} (h : callArgs tm c = some (f, args)) : ∃ fo first caps a0, c.callee = .value fo ∧ oev tm fo = .fn (.func f) first caps ∧ c.args.toList.map (oev tm) = a0 ∧ oevsS tm c.args.toList = some a0 ∧ args = first ++ (a0 ++ caps) := by
  unfold callArgs at h
  split at h
  · rename_i fo hc
    split at h
    · rename_i g first caps a0 h1 h2
      simp only [Option.some.injEq, Prod.mk.injEq] at h
      obtain ⟨rfl, rfl⟩ := h
      exact ⟨fo, first, caps, a0, hc, oeO h1, oevsS_spec _ _ (oesF_spec h2), oesF_spec h2, rfl⟩
    · cases h
  · cases h

theorem isCall_ok {op : Op} {c : Call} (h : isCall op = some c) : op = .call c := by
  unfold isCall at h
  split at h
  · split at h
    · obtain rfl := Option.some.inj h; rfl
    · cases h
  · cases h

theorem stepAny_ok {cf : CF} (hcf : CFok P cf) {op : Op} {tm : List (Nat × AV)} {h : Heap} {nx : Nat} {v : AV} {h' : Heap} {nx' : Nat} (he : stepAny P cf op tm h nx = some (v, h', nx')) : OpOK P op ⟨tm, h, nx⟩ v h' nx' := by
  unfold stepAny at he
  split at he
  · unfold anyV at he
    split at he
    · rename_i hv; simp only [Option.some.injEq, Prod.mk.injEq] at he; obtain ⟨rfl, rfl, rfl⟩ := he; exact (stepV_ok hv).ok
    · cases he
  · unfold anyH at he
    split at he
    · rename_i hv; simp only [Option.some.injEq, Prod.mk.injEq] at he; obtain ⟨rfl, rfl, rfl⟩ := he; exact (stepH_ok hv).ok
    · split at he
      · rename_i hv; simp only [Option.some.injEq, Prod.mk.injEq] at he; obtain ⟨rfl, rfl, rfl⟩ := he; exact (stepV_ok hv).ok
      · split at he
        · rename_i hv; simp only [Option.some.injEq, Prod.mk.injEq] at he; obtain ⟨rfl, rfl, rfl⟩ := he; exact stepF_ok hv _
        · cases he
  · exact stepO_ok he
  · unfold anyC at he
    split at he
    · rename_i c hc
      split at he
      · rename_i f args ha
        split at he
        · rename_i r hh nn hr
          split at he
          · rename_i hle
            simp only [Option.some.injEq, Prod.mk.injEq] at he
            obtain ⟨rfl, rfl, rfl⟩ := he
            obtain ⟨fo, first, caps, a0, k1, k2, k3, _, rfl⟩ := callArgs_ok ha
            obtain ⟨⟨fn, q1, q2, q3⟩, q4⟩ := hcf _ _ _ _ _ _ _ hr
            rw [isCall_ok hc]
            obtain ⟨cal, xs, ts⟩ := c
            subst k1
            exact op_callI (q4 true (.inl rfl)) q1 ⟨q2, q3⟩ k2 k3 (Nat.le_of_ble_eq_true hle)
          · cases he
        · cases he
      · cases he
    · split at he
      · rename_i q1 q2 q3 hq
        obtain ⟨ts, rfl⟩ := isInv_ok hq
        exact anyI_ok hcf he
      · split at he
        · rename_i hv; simp only [Option.some.injEq, Prod.mk.injEq] at he; obtain ⟨rfl, rfl, rfl⟩ := he; exact (stepV_ok hv).ok
        · exact stepO_ok he

theorem runOps_ok {cf : CF} (hcf : CFok P cf) {c : Ctx} {n : Nat} {Q : Exit → St → Prop} {ops : List Oper} : ∀ (rest : List Oper) (st st' : St), runOps P cf n ops rest st = some st' → Q .normal st' → AL P c n ops.toArray Q rest st := by
  intro rest
  induction rest with
  | nil => intro st st' h hQ; simp only [runOps, Option.some.injEq] at h; subst h; exact al_nil hQ
  | cons o rest ih =>
    intro st st' h hQ
    unfold runOps at h
    split at h
    · rename_i hd
      have hd := dstOK_ok hd
      split at h
      · rename_i hg
        split at h
        · rename_i v h1 n1 he
          rw [putF_eq] at h
          exact al_op hg hd (stepAny_ok hcf he) (ih _ _ h hQ)
        · cases h
      · rename_i j b hg
        split at h
        · rename_i d hgd
          rw [gdst_eq] at hgd
          split at h
          · rename_i hdn
            have hdn : d < n := by simpa using hdn
            split at h
            · rename_i g hgv
              rw [tgTop_eq] at hgv
              split at h
              · rename_i hgb
                split at h
                · rename_i v h1 n1 he
                  rw [putF_eq] at h
                  have hgb : g = some b := by simpa using hgb
                  subst hgb
                  intro ρ S a w hr
                  unfold wpList
                  rw [if_pos (by simp [Region.wanted, hg, yielded_gv hr hgd hdn hgv])]
                  exact .inl (al_run hd hr (stepAny_ok hcf he) (ih _ _ h hQ))
                · cases h
              · rename_i hgb
                rw [putF_eq] at h
                exact al_pass hg hgd hdn hgv (by simpa using hgb) hd (ih _ _ h hQ)
            · cases h
          · cases h
        · cases h
    · cases h

/-- A loop, round by round. -/
def LW (P : Program) (c : Ctx) (n : Nat) (code : Code) (Q : Exit → St → Prop) (st : St) : Prop :=
  ∀ ρ S a w, Rep c n st ρ S a w → ∀ b k cs, ∃ e a' w', Lift c n Q e a' w' ∧ Arrives P (lone (b.at a (.code code :: .inLoop code :: k)) cs w) b k cs e a' w'

theorem lw_loop {c : Ctx} {n : Nat} {code : Code} {Q : Exit → St → Prop} {st : St} (h : LW P c n code Q st) : AW P c n (.loop code) Q st := by
  intro ρ S a w hr b k cs
  obtain ⟨e, a', w', hq, harr⟩ := h ρ S a w hr b k cs
  exact ⟨e, a', w', hq, .of_steps (.one step_loop) harr⟩

theorem lw_round {c : Ctx} {n : Nat} {code : Code} {Q : Exit → St → Prop} {st : St} (h : AW P c n code (thenA (LW P c n code Q) Q) st) : LW P c n code Q st := by
  intro ρ S a w hr b k cs
  obtain ⟨e, a₁, w₁, ⟨st₁, ρ₁, S₁, hq, hr₁⟩, harr⟩ := h ρ S a w hr b (.inLoop code :: k) cs
  cases e with
  | normal =>
    obtain ⟨e₂, a₂, w₂, hq₂, harr₂⟩ := hq ρ₁ S₁ a₁ w₁ hr₁ b k cs
    exact ⟨e₂, a₂, w₂, hq₂, .of_steps (Steps.trans harr (.one step_inLoop)) harr₂⟩
  | exit id => exact ⟨_, a₁, w₁, ⟨st₁, ρ₁, S₁, hq, hr₁⟩, .pass (x := .inLoop code) rfl (fun _ _ => .inl (by simp)) harr⟩
  | goto l => exact ⟨_, a₁, w₁, ⟨st₁, ρ₁, S₁, hq, hr₁⟩, .pass (x := .inLoop code) rfl (fun _ _ => .inl (by simp)) harr⟩
  | ret => exact ⟨_, a₁, w₁, ⟨st₁, ρ₁, S₁, hq, hr₁⟩, .pass (x := .inLoop code) rfl (fun _ _ => .inl (by simp)) harr⟩
  | panic ch => exact ⟨_, a₁, w₁, ⟨st₁, ρ₁, S₁, hq, hr₁⟩, .pass (x := .inLoop code) rfl (fun _ _ => .inl (by simp)) harr⟩
  | outgrown => exact ⟨_, a₁, w₁, ⟨st₁, ρ₁, S₁, hq, hr₁⟩, .pass (x := .inLoop code) rfl (fun _ _ => .inl (by simp)) harr⟩

/-- What may be dropped. -/
theorem Rep.drop {c : Ctx} {n : Nat} {tm tm' : List (Nat × AV)} {h h2 : Heap} {nx : Nat} {ρ : Rho} {S : Nat → Prop} {a : Act} {w : World} (hr : Rep c n ⟨tm, h, nx⟩ ρ S a w) (ht : ∀ i, tget tm' i = .top ∨ tget tm' i = tget tm i) (hh : ∀ b B, hget h2 b = some B → hget h b = some B) : Rep c n ⟨tm', h2, nx⟩ ρ S a w :=
  ⟨hr.size, hr.defers, fun i => by
    show VR S w ρ (tget tm' i) _
    rcases ht i with e | e
    · rw [e]; exact .top
    · rw [e]; exact hr.tmps i, ⟨fun b B hb => hr.sim.blk b B (hh b B hb), fun b b' B B' r r' h1 h2 h3 h4 => hr.sim.inj b b' B B' r r' (hh _ _ h1) (hh _ _ h2) h3 h4, hr.sim.lt⟩,
    ⟨hr.post.os, hr.post.tape, hr.post.output, hr.post.size, hr.post.keep, hr.post.sIn, hr.post.sNew, fun b B r h1 h2 => hr.post.own b B r (hh _ _ h1) h2, hr.post.ids⟩, hr.fresh, hr.le, fun b B hb => hr.dom b B (hh b B hb)⟩

theorem selF_ok {tm : List (Nat × AV)} : ∀ (ks : List Nat) (tm1 : List (Nat × AV)), selF tm ks = some tm1 → ∀ i, tget tm1 i = .top ∨ tget tm1 i = tget tm i := by
  intro ks
  induction ks with
  | nil => intro tm1 h i; simp only [selF, Option.some.injEq] at h; subst h; exact .inl rfl
  | cons k ks ih =>
    intro tm1 h i
    simp only [selF] at h
    split at h
    · rename_i v r h1 h2
      obtain rfl := Option.some.inj h
      simp only [tget]
      by_cases e : k = i
      · subst e
        rw [if_pos rfl]
        rw [tgF_eq] at h1
        exact .inr (tgetS_spec _ _ _ h1).symm
      · rw [if_neg e]; exact ih r h2 i
    · cases h

theorem res1S_ok {tm : List (Nat × AV)} {h : Heap} {nx : Nat} {rv : ResultVar} {x : AV} (he : res1S P tm h rv = some x) {c : Ctx} {n : Nat} {ρ : Rho} {S : Nat → Prop} {a : Act} {w : World} (hr : Rep c n ⟨tm, h, nx⟩ ρ S a w) {g : ResultVar → Sem Value}
    (g1 : ∀ t, g (.tmp t) = pure (a.tmps.getD t undef)) (g2 : ∀ a' t, g (.cell a' t) = do loadVar t (← asAddr (a.tmps.getD a' undef))) : ∃ u, (g rv).run P w = .ok u w ∧ VR S w ρ x u := by
  cases rv with
  | tmp t =>
    have he : tgetS tm t = some x := he
    refine ⟨a.tmps.getD t undef, by rw [g1, Sem.run_pure], ?_⟩
    rw [← tgetS_spec _ _ _ he]
    exact hr.tmps t
  | cell a' t =>
    have he : stepH P (.load t (.tmp a')) tm h = some x := he
    obtain ⟨u, h1, h2⟩ := stepH_ok he c n nx ρ S a w hr
    refine ⟨u, ?_, h2⟩
    have h3 := h1 ⟨none, .load t (.tmp a'), 0, "", #[], none⟩ rfl
    -- the address is one
    unfold stepH at he
    simp only [] at he
    unfold stepH0 at he
    split at he
    · rename_i b i o d hx hu
      have hv := ev_vr hr (oeO hx)
      have ea : a.eval (.tmp a') = a.tmps.getD a' undef := rfl
      rw [ea] at hv
      rw [g2]
      generalize hq : a.tmps.getD a' undef = q at hv
      cases hv with
      | ptr hp =>
        simp only [execOp, Instr.loadAt, Instr.sureAddr, Sem.run_bind, ea, hq, asAddr, Sem.run_pure, Result.andThen_ok] at h3 ⊢
        generalize hl : (loadVar t _).run P w = r at h3 ⊢
        cases r with
        | ok z w1 =>
          simp only [Result.andThen_ok, Sem.run_pure, Result.ok.injEq, Next.value.injEq] at h3
          obtain ⟨rfl, rfl⟩ := h3
          rfl
        | halt z w1 => cases h3
    · cases he

theorem ressS_ok {tm : List (Nat × AV)} {h : Heap} {nx : Nat} {c : Ctx} {n : Nat} {ρ : Rho} {S : Nat → Prop} {a : Act} {w : World} (hr : Rep c n ⟨tm, h, nx⟩ ρ S a w) {g : ResultVar → Sem Value}
    (g1 : ∀ t, g (.tmp t) = pure (a.tmps.getD t undef)) (g2 : ∀ a' t, g (.cell a' t) = do loadVar t (← asAddr (a.tmps.getD a' undef))) : ∀ (l : List ResultVar) (xs : List AV), ressS P tm h l = some xs →
    ∃ us : List Value, (l.mapM g).run P w = .ok us w ∧ xs.length = us.length ∧ ∀ (i : Nat) (x : AV) (u : Value), xs[i]? = some x → us[i]? = some u → VR S w ρ x u := by
  intro l
  induction l with
  | nil => intro xs h; simp only [ressS, Option.some.injEq] at h; subst h; exact ⟨[], by simp, rfl, fun i x u hx => by simp at hx⟩
  | cons rv l ih =>
    intro xs h
    simp only [ressS] at h
    split at h
    · rename_i x r h1 h2
      obtain rfl := Option.some.inj h
      obtain ⟨u, k1, k2⟩ := res1S_ok h1 hr g1 g2
      obtain ⟨us, q1, q2, q3⟩ := ih r h2
      refine ⟨u :: us, ?_, by simp [q2], fun i y z hy hz => ?_⟩
      · rw [List.mapM_cons]
        simp only [Sem.run_bind, Sem.run_pure]
        rw [k1, Result.andThen_ok, q1, Result.andThen_ok]
      · cases i with
        | zero => simp only [List.getElem?_cons_zero, Option.some.injEq] at hy hz; subst hy; subst hz; exact k2
        | succ i => simp only [List.getElem?_cons_succ] at hy hz; exact q3 i y z hy hz
    · cases h

theorem resS_ok {fn : Func} {st : St} {r : AV} (he : resS P fn.results.toList st.tm st.h = some r) : ResOK P fn st r := by
  intro c n ρ S a w hr
  obtain ⟨tm, h, nx⟩ := st
  have main : ∀ xs, ressS P tm h fn.results.toList = some xs → ∃ us : List Value, (results fn a.tmps).run P w = .ok (if hu : us.toArray.size = 1 then us.toArray[0] else .tuple us.toArray) w ∧ xs.length = us.length ∧ ∀ (i : Nat) (x : AV) (u : Value), xs[i]? = some x → us[i]? = some u → VR S w ρ x u := fun xs hxs => by
    unfold results
    rw [Array.mapM_eq_mapM_toList]
    simp only [Sem.run_bind, Sem.run_map]
    obtain ⟨us, k1, k2, k3⟩ := ressS_ok hr (g := fun x => match x with
      | .tmp t => pure (a.tmps.getD t undef)
      | .cell a' t => do loadVar t (← asAddr (a.tmps.getD a' undef))) (fun _ => rfl) (fun _ _ => rfl) _ _ hxs
    refine ⟨us, ?_, k2, k3⟩
    have k1' : (fn.results.toList.mapM (fun (x : ResultVar) => (match x with
      | .tmp t => pure (a.tmps.getD t undef)
      | .cell a' t => do loadVar t (← asAddr (a.tmps.getD a' undef)) : Sem Value))).run P w = .ok us w := k1
    erw [k1']
    simp only [Result.andThen_ok, Sem.run_pure]
  unfold resS at he
  split at he
  · rename_i x hx
    obtain rfl := Option.some.inj he
    obtain ⟨us, k1, k2, k3⟩ := main _ hx
    match us, k2, k1, k3 with
    | [u], _, k1, k3 => exact ⟨u, k1, k3 0 _ u rfl rfl⟩
  · rename_i xs hne hx
    obtain rfl := Option.some.inj he
    obtain ⟨us, k1, k2, k3⟩ := main _ hx
    have : us.toArray.size ≠ 1 := fun e => by
      rw [List.size_toArray, ← k2] at e
      obtain ⟨x, rfl⟩ := List.length_eq_one_iff.1 e
      exact hne x rfl
    rw [dif_neg this] at k1
    exact ⟨_, k1, .tup us.toArray (by simpa using k2) (fun i x u hx hu => k3 i x u hx (by simpa using hu))⟩
  · cases he

/-- What a run says. -/
def RunOK (P : Program) (self : Self) : Prop := ∀ n f code st e st', self n f code st = some (e, st') → ∀ c Q, Q e st' → AW P c n code Q st

theorem callFn_ok {self : Self} (hs : RunOK P self) : CFok P (callFn P self) := by
  intro f args h nx r h' nx' he
  unfold callFn at he
  split at he
  · rename_i fn hf
    split at he
    · rename_i body hb
      split at he
      · rename_i h0
        simp only [Bool.and_eq_true, Bool.not_eq_true'] at h0
        refine ⟨⟨fn, hf, h0.2, by rw [hb]; rfl⟩, fun al hal => ?_⟩
        have hdom : h.all (fun p => p.1 < nx) = true := by
          rw [List.all_eq_true]
          intro p hp
          have := List.all_eq_true.1 h0.1.2 p hp
          simpa using this
        have fin : ∀ st, retF P fn.results.toList nx st = some (r, h', nx') → ∀ c, ∃ st' r1, Le c fn.ntmps st st' ∧ ResOK P fn st' r1 ∧ (al = true ∨ (r1.nosl = true ∧ st'.h.all (fun p => p.2.nosl) = true)) ∧ (r1 = r ∧ st'.h = h' ∧ st'.nx = nx') := fun st he c => by
          unfold retF at he
          rw [forceL_eq] at he
          split at he
          · rename_i r0 hr0
            rw [forceV_eq, forceN_eq] at he
            simp only [Option.some.injEq, Prod.mk.injEq] at he
            obtain ⟨rfl, rfl, rfl⟩ := he
            exact ⟨⟨st.tm, gcH nx (rootsR nx st.tm fn.results.toList []) st.h, st.nx⟩, r0, fun ρ S a w hr => ⟨ρ, hr.drop (fun i => .inr rfl) (gcH_get _ _ _)⟩, resS_ok hr0, hal, rfl, rfl, rfl⟩
          · cases he
        refine ac_fn hf rfl hb h0.1.1 hdom (fun w0 S0 r0 => ?_)
        split at he
        · rename_i st hst
          exact hs _ _ _ _ _ _ hst _ _ (fin st he _)
        · rename_i st hst
          exact hs _ _ _ _ _ _ hst _ _ (fin st he _)
        · cases he
      · cases he
    · cases he
  · cases he

end
end Go.Proofs.YtloddmbbfkejcaaGreat.Abs
end
section
/-
  A machine that runs codes whose inputs are known: regions whose order is open. It holds of any program.
-/
namespace Go.Proofs.YtloddmbbfkejcaaGreat.Abs

theorem avEq_ok (a : AV) : ∀ b, avEq a b = true → a = b := by
  induction a using AV.rec (motive_2 := fun xs => ∀ ys, avsEq xs ys = true → xs = ys) with
  | top => intro b h; cases b <;> simp only [avEq, Bool.false_eq_true] at h <;> rfl
  | bool x => intro b h; cases b <;> simp only [avEq, Bool.false_eq_true, beq_iff_eq] at h; rw [h]
  | int k n => intro b h; cases b <;> simp only [avEq, Bool.false_eq_true, Bool.and_eq_true, beq_iff_eq] at h; rw [h.1, h.2]
  | str s =>
    intro b h; cases b <;> simp only [avEq, Bool.false_eq_true, beq_iff_eq] at h
    rename_i s'
    obtain ⟨⟨x⟩⟩ := s
    obtain ⟨⟨y⟩⟩ := s'
    simp only at h
    rw [h]
  | nilp => intro b h; cases b <;> simp only [avEq, Bool.false_eq_true] at h <;> rfl
  | ptr x i o =>
    intro b h; cases b <;> simp only [avEq, Bool.false_eq_true, Bool.and_eq_true] at h
    rw [Nat.eq_of_beq_eq_true h.1.1, Nat.eq_of_beq_eq_true h.1.2, Nat.eq_of_beq_eq_true h.2]
  | lp cs ih => intro b h; cases b <;> simp only [avEq, Bool.false_eq_true] at h; rw [ih _ h]
  | nils => intro b h; cases b <;> simp only [avEq, Bool.false_eq_true] at h <;> rfl
  | sl sz xs ih =>
    intro b h; cases b <;> simp only [avEq, Bool.false_eq_true, Bool.and_eq_true] at h
    rw [Nat.eq_of_beq_eq_true h.1, ih _ h.2]
  | own x st len =>
    intro b h; cases b <;> simp only [avEq, Bool.false_eq_true, Bool.and_eq_true] at h
    rw [Nat.eq_of_beq_eq_true h.1.1, Nat.eq_of_beq_eq_true h.1.2, Nat.eq_of_beq_eq_true h.2]
  | nilm => intro b h; cases b <;> simp only [avEq, Bool.false_eq_true] at h <;> rfl
  | omap x => intro b h; cases b <;> simp only [avEq, Bool.false_eq_true] at h; rw [Nat.eq_of_beq_eq_true h]
  | fn f xs ys ih1 ih2 =>
    intro b h; cases b <;> simp only [avEq, Bool.false_eq_true, Bool.and_eq_true, decide_eq_true_eq] at h
    rw [h.1.1, ih1 _ h.1.2, ih2 _ h.2]
  | nilf => intro b h; cases b <;> simp only [avEq, Bool.false_eq_true] at h <;> rfl
  | ifc t v ih => intro b h; cases b <;> simp only [avEq, Bool.false_eq_true] at h
  | nili => intro b h; cases b <;> simp only [avEq, Bool.false_eq_true] at h <;> rfl
  | agg xs ih => intro b h; cases b <;> simp only [avEq, Bool.false_eq_true] at h; rw [ih _ h]
  | tup xs ih => intro b h; cases b <;> simp only [avEq, Bool.false_eq_true] at h; rw [ih _ h]
  | nil => rename_i ys h; cases ys <;> first | rfl | simp only [avsEq, Bool.false_eq_true] at h
  | cons x xs ih1 ih2 =>
    rename_i ys h
    cases ys with
    | nil => simp only [avsEq, Bool.false_eq_true] at h
    | cons y ys =>
      simp only [avsEq, Bool.and_eq_true] at h
      rw [ih1 _ h.1, ih2 _ h.2]

theorem avsEq_ok : ∀ (xs ys : List AV), avsEq xs ys = true → xs = ys
  | [], [], _ => rfl
  | [], _ :: _, h => by simp only [avsEq, Bool.false_eq_true] at h
  | _ :: _, [], h => by simp only [avsEq, Bool.false_eq_true] at h
  | x :: xs, y :: ys, h => by
    simp only [avsEq, Bool.and_eq_true] at h
    rw [avEq_ok x y h.1, avsEq_ok xs ys h.2]

theorem blkEq_ok {B C : Blk} (h : blkEq B C = true) : B = C := by
  unfold blkEq at h
  split at h
  · simp only [Bool.and_eq_true] at h
    rw [Nat.eq_of_beq_eq_true h.1, avsEq_ok _ _ h.2]
  · cases h

theorem heapEq_ok : ∀ (h g : Heap), heapEq h g = true → h = g
  | [], [], _ => rfl
  | [], _ :: _, h => by simp only [heapEq, Bool.false_eq_true] at h
  | _ :: _, [], h => by simp only [heapEq, Bool.false_eq_true] at h
  | (i, B) :: t, (j, C) :: u, h => by
    simp only [heapEq, Bool.and_eq_true] at h
    rw [Nat.eq_of_beq_eq_true h.1.1, blkEq_ok h.1.2, heapEq_ok t u h.2]

theorem plain_ren (σ : Nat → Nat) (x : AV) : x.plain = true → x.ren σ = x := by
  induction x using AV.rec (motive_2 := fun xs => plains xs = true → rens σ xs = xs) with
  | fn f xs ys ih1 ih2 => intro h; simp only [AV.plain, Bool.and_eq_true] at h; simp only [AV.ren, ih1 h.1, ih2 h.2]
  | ifc t v ih => intro h; simp only [AV.plain] at h; simp only [AV.ren, ih h]
  | agg xs ih => intro h; simp only [AV.plain] at h; simp only [AV.ren, ih h]
  | tup xs ih => intro h; simp only [AV.plain] at h; simp only [AV.ren, ih h]
  | ptr b i o => intro h; simp [AV.plain] at h
  | own b i o => intro h; simp [AV.plain] at h
  | omap b => intro h; simp [AV.plain] at h
  | nil => rfl
  | cons x xs ih1 ih2 => rename_i h; simp only [plains, Bool.and_eq_true] at h; simp only [rens, ih1 h.1, ih2 h.2]
  | _ => intro _; rfl

theorem plains_lends {al : Bool} {h : Heap} {τ : Nat → Nat} {ps : List Nat} : ∀ (xs : List AV), plains xs = true → Lends al h τ ps xs xs
  | [], _ => .nil
  | x :: xs, hx => by
    simp only [plains, Bool.and_eq_true] at hx
    exact .cons (.same (plain_ren τ x hx.1).symm) (plains_lends xs hx.2)

theorem lend1_ok (h : Heap) (x : AV) : ∀ u y, lend1 h x = some (u, y) → ∀ τ, Lend false h τ [] x y := by
  have pl : ∀ (x : AV) u y, (if x.plain then some (false, x) else none) = some (u, y) → ∀ τ, Lend false h τ [] x y := fun x u y hh τ => by
    split at hh
    · rename_i hp
      simp only [Option.some.injEq, Prod.mk.injEq] at hh
      obtain ⟨_, rfl⟩ := hh
      exact .same (plain_ren τ x hp).symm
    · cases hh
  induction x using AV.rec (motive_2 := fun xs => ∀ u ys, lends h xs = some (u, ys) → ∀ τ, Lends false h τ [] xs ys) with
  | own b st len =>
    intro u y hh τ
    simp only [lend1] at hh
    split at hh
    · rename_i sz xs hb
      split at hh
      · rename_i h0
        simp only [Bool.and_eq_true] at h0
        simp only [Option.some.injEq, Prod.mk.injEq] at hh
        obtain ⟨_, rfl⟩ := hh
        exact .own rfl rfl (hgO hb) (Nat.le_of_ble_eq_true h0.1) h0.2
      · cases hh
    · cases hh
  | agg xs ih =>
    intro u y hh τ
    simp only [lend1] at hh
    split at hh
    · rename_i u' ys hys
      simp only [Option.some.injEq, Prod.mk.injEq] at hh
      obtain ⟨_, rfl⟩ := hh
      exact Lend.of_list (ih _ _ hys τ)
    · cases hh
  | nil => rename_i u ys hh τ; simp only [lends, Option.some.injEq, Prod.mk.injEq] at hh; obtain ⟨_, rfl⟩ := hh; exact .nil
  | cons x xs ih1 ih2 =>
    rename_i u ys hh τ
    simp only [lends] at hh
    split at hh
    · rename_i u1 y u2 ys' h1 h2
      simp only [Option.some.injEq, Prod.mk.injEq] at hh
      obtain ⟨_, rfl⟩ := hh
      exact .cons (ih1 _ _ h1 τ) (ih2 _ _ h2 τ)
    · cases hh
  | _ => intro u y hh τ; exact pl _ u y (by simpa only [lend1] using hh) τ

theorem lends_ok (h : Heap) : ∀ (xs : List AV) u ys, lends h xs = some (u, ys) → ∀ τ, Lends false h τ [] xs ys
  | [], u, ys, hh, τ => by simp only [lends, Option.some.injEq, Prod.mk.injEq] at hh; obtain ⟨_, rfl⟩ := hh; exact .nil
  | x :: xs, u, ys, hh, τ => by
    simp only [lends] at hh
    split at hh
    · rename_i u1 y u2 ys' h1 h2
      simp only [Option.some.injEq, Prod.mk.injEq] at hh
      obtain ⟨_, rfl⟩ := hh
      exact .cons (lend1_ok h x _ _ h1 τ) (lends_ok h xs _ _ h2 τ)
    · cases hh

theorem frz1_ok (h : Heap) (x : AV) : ∀ y, frz1 h x = some y → Fz h x y := by
  have pl : ∀ (x y : AV), (if x.plain then some x else none) = some y → Fz h x y := fun x y hh => by
    split at hh
    · rename_i hp; obtain rfl := Option.some.inj hh; exact .same hp
    · cases hh
  induction x using AV.rec (motive_2 := fun xs => ∀ ys, frz2 h xs = some ys → Fzs h xs ys) with
  | own b st len =>
    intro y hh
    simp only [frz1] at hh
    split at hh
    · rename_i sz xs hb
      split at hh
      · rename_i h0
        simp only [Bool.and_eq_true] at h0
        obtain rfl := Option.some.inj hh
        exact .own (hgO hb) (Nat.le_of_ble_eq_true h0.1) h0.2
      · cases hh
    · cases hh
  | agg xs ih =>
    intro y hh
    simp only [frz1] at hh
    split at hh
    · rename_i ys hys
      obtain rfl := Option.some.inj hh
      have := (ih _ hys).tup
      cases this with
      | same hp => exact .same hp
      | tup hl k => exact .agg hl k
    · cases hh
  | tup xs ih =>
    intro y hh
    simp only [frz1] at hh
    split at hh
    · rename_i ys hys
      obtain rfl := Option.some.inj hh
      exact (ih _ hys).tup
    · cases hh
  | nil => rename_i ys hh; simp only [frz2, Option.some.injEq] at hh; subst hh; exact .nil
  | cons x xs ih1 ih2 =>
    rename_i ys hh
    simp only [frz2] at hh
    split at hh
    · rename_i y ys' h1 h2
      obtain rfl := Option.some.inj hh
      exact .cons (ih1 _ h1) (ih2 _ h2)
    · cases hh
  | _ => intro y hh; exact pl _ y (by simpa only [frz1] using hh)

section
variable {P : Program}

theorem stepQ0_ok {cf : CF} (hcf : CFok P cf) {op : Op} {tm : List (Nat × AV)} {v : AV} (he : stepQ0 P cf op tm = some v) (h : Heap) : OpQ P op tm h v := by
  unfold stepQ0 at he
  split at he
  · rename_i c hc
    split at he
    · rename_i f args ha
      split at he
      · rename_i hp
        split at he
        · rename_i r h' nx' hr
          obtain ⟨fo, first, caps, a0, k1, k2, _, k4, rfl⟩ := callArgs_ok ha
          obtain ⟨⟨fn, q1, q2, q3⟩, q4⟩ := hcf _ _ _ _ _ _ _ hr
          rw [isCall_ok hc]
          obtain ⟨cal, xs, ts⟩ := c
          subst k1
          exact op_callq (q4 true (.inl rfl)) q1 ⟨q2, q3⟩ k2 k4 (fun nx => plains_lends _ hp) (by rintro _ _ _ ⟨rfl, rfl, rfl⟩; exact frz1_ok _ _ _ he)
        · cases he
      · cases he
    · cases he
  · split at he
    · rename_i hv; obtain rfl := Option.some.inj he; exact (stepV_ok hv).q
    · exact stepF_ok he

theorem stepQ_ok {cf : CF} (hcf : CFok P cf) {op : Op} {tm : List (Nat × AV)} {v : AV} {h : Heap} (he : stepQ P cf op tm h = some v) : OpQ P op tm h v := by
  unfold stepQ at he
  split at he
  · rename_i c hc
    split at he
    · rename_i f args ha
      split at he
      · rename_i u largs hl
        split at he
        · rename_i r h' nx' hr
          split at he
          · rename_i hn
            simp only [Bool.and_eq_true] at hn
            obtain ⟨fo, first, caps, a0, k1, k2, _, k4, rfl⟩ := callArgs_ok ha
            obtain ⟨⟨fn, q1, q2, q3⟩, q4⟩ := hcf _ _ _ _ _ _ _ hr
            rw [isCall_ok hc]
            obtain ⟨cal, xs, ts⟩ := c
            subst k1
            exact op_callq (q4 false (.inr hn)) q1 ⟨q2, q3⟩ k2 k4 (fun nx => lends_ok _ _ _ _ hl _) (by rintro _ _ _ ⟨rfl, rfl, rfl⟩; exact frz1_ok _ _ _ he)
          · cases he
        · cases he
      · cases he
    · cases he
  · split at he
    · rename_i hv; obtain rfl := Option.some.inj he; exact (stepV_ok hv).q
    · split at he
      · rename_i hv; obtain rfl := Option.some.inj he; exact (stepH_ok hv).q
      · exact stepF_ok he

/-- Does the guard let it run? -/
def GdV (its : List IV) (g : Option (Nat × Bool)) (r : Bool) : Prop :=
  match g with
  | none => r = true
  | some (j, b) => ∃ q g, its[j]? = some q ∧ gv q.v = some g ∧ r = (g == some b)

theorem GdV.more {its : List IV} {g : Option (Nat × Bool)} {r : Bool} (h : GdV its g r) (it : IV) : GdV (its ++ [it]) g r := by
  unfold GdV at *
  split
  · exact h
  · obtain ⟨q, b', h1, h2, h3⟩ := h
    exact ⟨q, b', by rw [List.getElem?_append_left (List.getElem?_eq_some_iff.1 h1).1]; exact h1, h2, h3⟩

def KV (P : Program) (its : List IV) (hs : List (Heap × Nat)) (free : Bool) (i : Nat) (o : Oper) (it : IV) : Prop :=
  ∃ r, GdV its o.guard r ∧
    (r = true → (∃ H X, hs[rankV its i]? = some (H, X) ∧ (if it.ef then ∃ H' X', hs[rankV its i + 1]? = some (H', X') ∧ OpOK P o.op ⟨it.tm, H, X⟩ it.v H' X' else OpQ P o.op it.tm H it.v)) ∧ (free = true → it.ef = false ∧ ∀ H, OpQ P o.op it.tm H it.v)) ∧
    (r = false → it.v = .tup [] ∧ (it.ef = true → ∃ H X, hs[rankV its i]? = some (H, X) ∧ hs[rankV its i + 1]? = some (H, X)))

theorem rankV_more (its : List IV) (it : IV) {i : Nat} (h : i ≤ its.length) : rankV (its ++ [it]) i = rankV its i := by
  unfold rankV
  rw [List.take_append_of_le_length h]

theorem rankV_snoc (its : List IV) (it : IV) : rankV (its ++ [it]) (its.length + 1) = rankV its its.length + (if it.ef then 1 else 0) := by
  unfold rankV
  rw [List.take_of_length_le (by simp), List.take_of_length_le (by simp), List.countP_append, List.countP_cons]
  simp

theorem rankV_mono (its : List IV) {i j : Nat} (h : i ≤ j) : rankV its i ≤ rankV its j := by
  unfold rankV
  have e : its.take j = its.take i ++ (its.drop i).take (j - i) := by
    rw [← List.take_add, show i + (j - i) = j from by omega]
  rw [e, List.countP_append]
  omega

theorem rankV_lt {its : List IV} {i j : Nat} {it : IV} (hij : i < j) (hi : its[i]? = some it) (he : it.ef = true) : rankV its i + 1 ≤ rankV its j := by
  have h1 : rankV its (i + 1) = rankV its i + 1 := by
    unfold rankV
    rw [List.take_add_one, hi, List.countP_append]
    simp [he]
  rw [← h1]
  exact rankV_mono its hij

theorem KV.more {its : List IV} {hs : List (Heap × Nat)} {free : Bool} {i : Nat} {o : Oper} {it : IV} (h : KV P its hs free i o it) (jt : IV) (hs' : List (Heap × Nat)) (hi : i ≤ its.length) : KV P (its ++ [jt]) (hs ++ hs') free i o it := by
  have more : ∀ {k : Nat} {p : Heap × Nat}, hs[k]? = some p → (hs ++ hs')[k]? = some p := fun {k p} hk => by
    rw [List.getElem?_append_left (List.getElem?_eq_some_iff.1 hk).1]; exact hk
  obtain ⟨r, h1, h2, h3⟩ := h
  unfold KV
  rw [rankV_more its jt hi]
  refine ⟨r, h1.more jt, fun hr => ?_, fun hr => ?_⟩
  · obtain ⟨⟨H, X, h4, h5⟩, h6⟩ := h2 hr
    refine ⟨⟨H, X, more h4, ?_⟩, h6⟩
    cases hef : it.ef with
    | true =>
      rw [hef] at h5
      obtain ⟨H', X', k1, k2⟩ := h5
      exact ⟨H', X', more k1, k2⟩
    | false => rw [hef] at h5; exact h5
  · obtain ⟨h4, h5⟩ := h3 hr
    exact ⟨h4, fun he => by obtain ⟨H, X, k1, k2⟩ := h5 he; exact ⟨H, X, more k1, more k2⟩⟩

structure FV (P : Program) (st0 : St) (l : List Oper) (ps : List (Nat × List Nat)) (its : List IV) (hs : List (Heap × Nat)) (fr : List Nat) (st : St) : Prop where
  len : l.length = its.length
  plen : ps.length = its.length
  efp : ∀ (i : Nat) (p : Nat × List Nat) (it : IV), ps[i]? = some p → its[i]? = some it → it.ef = Nat.ble 2 p.1 ∧ (p.1 = 0 → fr.contains i = true)
  hlen : hs.length = rankV its its.length + 1
  last : hs[rankV its its.length]? = some (st.h, st.nx)
  zero : hs[0]? = some (st0.h, st0.nx)
  known : ∀ (i : Nat) (o : Oper) (it : IV), l[i]? = some o → its[i]? = some it → KV P its hs (fr.contains i) i o it
  sees : ∀ (i : Nat) (p : Nat × List Nat) (it : IV) (x : Nat), ps[i]? = some p → its[i]? = some it → tget it.tm x = .top ∨ x ∈ p.2 ∧
    (∀ (j : Nat) (o' : Oper) (jt : IV), j < i → l[j]? = some o' → its[j]? = some jt → o'.dst = some x → (∀ (k : Nat) (o'' : Oper), j < k → k < i → l[k]? = some o'' → o''.dst ≠ some x) → tget it.tm x = jt.v) ∧
    ((∀ (j : Nat) (o' : Oper), j < i → l[j]? = some o' → o'.dst ≠ some x) → tget it.tm x = tget st0.tm x)
  val : ∀ (i : Nat) (o : Oper) (it : IV) (x : Nat), l[i]? = some o → its[i]? = some it → o.dst = some x → (∀ (j : Nat) (o' : Oper), i < j → l[j]? = some o' → o'.dst ≠ some x) → tget st.tm x = it.v
  old : ∀ x, (∀ (i : Nat) (o : Oper), l[i]? = some o → o.dst ≠ some x) → tget st.tm x = tget st0.tm x
  frs : ∀ i ∈ fr, i < its.length

theorem FV.snoc {st0 : St} {l : List Oper} {ps : List (Nat × List Nat)} {its : List IV} {hs hs' : List (Heap × Nat)} {fr fr' : List Nat} {st st' : St} (h : FV P st0 l ps its hs fr st) (o : Oper) (p : Nat × List Nat) (it : IV) (htm : st'.tm = (putA o.dst it.v st).tm)
    (hef : it.ef = Nat.ble 2 p.1) (hlen : hs'.length = if it.ef then 1 else 0) (hlast : (hs ++ hs')[rankV its its.length + (if it.ef then 1 else 0)]? = some (st'.h, st'.nx)) (hfr : ∀ i, i < its.length → fr'.contains i = fr.contains i) (hf0 : p.1 = 0 → fr'.contains its.length = true) (hfl : ∀ i ∈ fr', i < its.length + 1)
    (hs1 : ∀ x, tget it.tm x = .top ∨ x ∈ p.2 ∧ tget it.tm x = tget st.tm x)
    (hk : KV P (its ++ [it]) (hs ++ hs') (fr'.contains its.length) its.length o it) : FV P st0 (l ++ [o]) (ps ++ [p]) (its ++ [it]) (hs ++ hs') fr' st' := by
  have hl := h.len
  have hpl := h.plen
  refine ⟨by simp [hl], by simp [hpl], fun i q jt hq hjt => ?_, by simp only [List.length_append, List.length_cons, List.length_nil, Nat.zero_add]; rw [rankV_snoc, h.hlen, hlen]; omega, by simp only [List.length_append, List.length_cons, List.length_nil, Nat.zero_add]; rw [rankV_snoc]; exact hlast, ?_, ?_, ?_, ?_, ?_, fun i hi => by simp only [List.length_append, List.length_cons, List.length_nil]; exact hfl i hi⟩
  · rcases snoc_get hq with ⟨h1, h2⟩ | ⟨h1, h2⟩
    · rcases snoc_get hjt with ⟨h3, h4⟩ | ⟨h3, h4⟩
      · rw [hfr i h3]; exact h.efp i q jt h2 h4
      · omega
    · rcases snoc_get hjt with ⟨h3, h4⟩ | ⟨h3, h4⟩
      · omega
      · subst h2; subst h4; subst h3; exact ⟨hef, hf0⟩
  · rw [List.getElem?_append_left (by rw [h.hlen]; omega)]; exact h.zero
  · intro i o' it' ho hit
    rcases snoc_get ho with ⟨h1, h2⟩ | ⟨h1, h2⟩
    · rcases snoc_get hit with ⟨h3, h4⟩ | ⟨h3, h4⟩
      · rw [hfr i h3]; exact (h.known i o' it' h2 h4).more it hs' (by omega)
      · omega
    · rcases snoc_get hit with ⟨h3, h4⟩ | ⟨h3, h4⟩
      · omega
      · subst h2; subst h4; subst h3; exact hk
  · intro i q jt x hq hjt
    have lft : ∀ (k : Nat) (o'' : Oper), k < i → i ≤ l.length → (l ++ [o])[k]? = some o'' → l[k]? = some o'' := fun k o'' hk hi hh => by
      rw [List.getElem?_append_left (by omega)] at hh; exact hh
    have rgt : ∀ (k : Nat) (o'' : Oper), l[k]? = some o'' → (l ++ [o])[k]? = some o'' := fun k o'' hh => by
      rw [List.getElem?_append_left (List.getElem?_eq_some_iff.1 hh).1]; exact hh
    rcases snoc_get hq with ⟨h1, h2⟩ | ⟨h1, h2⟩
    · rcases snoc_get hjt with ⟨h3, h4⟩ | ⟨h3, h4⟩
      · rcases h.sees i q jt x h2 h4 with e | ⟨e1, e2, e3⟩
        · exact .inl e
        · refine .inr ⟨e1, fun j o' kt hj ho' hkt hd hno => ?_, fun hno => e3 fun j o' hj ho' => hno j o' hj (rgt j o' ho')⟩
          rcases snoc_get hkt with ⟨h5, h6⟩ | ⟨h5, h6⟩
          · exact e2 j o' kt hj (lft j o' hj (by omega) ho') h6 hd (fun k o'' hk1 hk2 ho'' => hno k o'' hk1 hk2 (rgt k o'' ho''))
          · omega
      · omega
    · rcases snoc_get hjt with ⟨h3, h4⟩ | ⟨h3, h4⟩
      · omega
      · subst h2; subst h4
        rcases hs1 x with e | ⟨e1, e2⟩
        · exact .inl e
        · refine .inr ⟨e1, fun j o' kt hj ho' hkt hd hno => ?_, fun hno => ?_⟩
          · rw [e2]
            rcases snoc_get hkt with ⟨h5, h6⟩ | ⟨h5, h6⟩
            · exact h.val j o' kt x (lft j o' hj (by omega) ho') h6 hd (fun k o'' hk1 ho'' => hno k o'' hk1 (by have := (List.getElem?_eq_some_iff.1 ho'').1; omega) (rgt k o'' ho''))
            · omega
          · rw [e2]
            exact h.old x (fun j o' ho' => hno j o' (by have := (List.getElem?_eq_some_iff.1 ho').1; omega) (rgt j o' ho'))
  · intro i o' it' x ho hit hx hno
    rw [htm, tget_putA]
    rcases snoc_get ho with ⟨h1, h2⟩ | ⟨h1, h2⟩
    · rcases snoc_get hit with ⟨h3, h4⟩ | ⟨h3, h4⟩
      · rw [if_neg (hno l.length o h1 (by simp))]
        exact h.val i o' it' x h2 h4 hx (fun j o'' hij hj => hno j o'' hij (by rw [List.getElem?_append_left (List.getElem?_eq_some_iff.1 hj).1]; exact hj))
      · omega
    · rcases snoc_get hit with ⟨h3, h4⟩ | ⟨h3, h4⟩
      · omega
      · subst h2; subst h4
        rw [if_pos hx]
  · intro x hno
    rw [htm, tget_putA, if_neg (hno l.length o (by simp))]
    exact h.old x (fun i o' hi => hno i o' (by rw [List.getElem?_append_left (List.getElem?_eq_some_iff.1 hi).1]; exact hi))

theorem selF_mem {tm : List (Nat × AV)} : ∀ (ks : List Nat) (tm1 : List (Nat × AV)), selF tm ks = some tm1 → ∀ x, tget tm1 x = .top ∨ x ∈ ks ∧ tget tm1 x = tget tm x := by
  intro ks
  induction ks with
  | nil => intro tm1 h x; simp only [selF, Option.some.injEq] at h; subst h; exact .inl rfl
  | cons k ks ih =>
    intro tm1 h x
    simp only [selF] at h
    split at h
    · rename_i v r h1 h2
      obtain rfl := Option.some.inj h
      simp only [tget]
      by_cases e : k = x
      · subst e
        rw [if_pos rfl]
        rw [tgF_eq] at h1
        exact .inr ⟨List.mem_cons_self, (tgetS_spec _ _ _ h1).symm⟩
      · rw [if_neg e]
        exact (ih r h2 x).imp id (fun h => ⟨List.mem_cons_of_mem _ h.1, h.2⟩)
    · cases h

theorem giv_ok {its : List IV} {j : Nat} (hj : j < its.length) {g : Option Bool} (h : giv its j = some g) : ∃ q, its.reverse[j]? = some q ∧ gv q.v = some g := by
  unfold giv at h
  split at h
  · rename_i it hit
    refine ⟨it, ?_, h⟩
    rw [List.getElem?_reverse hj]
    exact hit
  · cases h

theorem runDraw_go {cf : CF} (hcf : CFok P cf) {st0 : St} {rest : List Oper} (ih : ∀ (ps : List (Nat × List Nat)) (done : List Oper) (dps : List (Nat × List Nat)) (its : List IV) (hs : List (Heap × Nat)) (fr : List Nat) (st : St) (its' : List IV) (hs' : List (Heap × Nat)) (fr' : List Nat) (st' : St),
    runDraw P cf rest ps its hs fr st = some (its', hs', fr', st') → FV P st0 done dps its.reverse hs.reverse fr st → FV P st0 (done ++ rest) (dps ++ ps) its'.reverse hs'.reverse fr' st')
    {o : Oper} {k : Nat} {ks : List Nat} {ps : List (Nat × List Nat)} {done : List Oper} {dps : List (Nat × List Nat)} {its : List IV} {hs : List (Heap × Nat)} {fr : List Nat} {st : St} {its' : List IV} {hs' : List (Heap × Nat)} {fr' : List Nat} {st' : St}
    (hh : (match selF st.tm ks with
              | some tm1 => match k with
                | 0 => match stepQ0 P cf o.op tm1 with
                  | some v => forceV v fun v => runDraw P cf rest ps (⟨v, false, tm1⟩ :: its) hs (its.length :: fr) (putA o.dst v st)
                  | none => none
                | 1 => match stepQ P cf o.op tm1 st.h with
                  | some v => forceV v fun v => runDraw P cf rest ps (⟨v, false, tm1⟩ :: its) hs fr (putA o.dst v st)
                  | none => none
                | _ => match stepAny P cf o.op tm1 st.h st.nx with
                  | some (v, h', nx') => forceV v fun v => forceN nx' fun nx' => runDraw P cf rest ps (⟨v, true, tm1⟩ :: its) ((h', nx') :: hs) fr (putA o.dst v ⟨st.tm, h', nx'⟩)
                  | none => none
              | none => none) = some (its', hs', fr', st'))
    (hg : GdV its.reverse o.guard true) (hF : FV P st0 done dps its.reverse hs.reverse fr st) : FV P st0 ((done ++ [o]) ++ rest) ((dps ++ [(k, ks)]) ++ ps) its'.reverse hs'.reverse fr' st' := by
  have cons_c : ∀ (fr : List Nat) (n i : Nat), i < n → (n :: fr).contains i = fr.contains i := fun fr n i hi => by
    rw [List.contains_cons]
    have : (i == n) = false := by simp; omega
    rw [this]; rfl
  have il : its.reverse.length = its.length := List.length_reverse
  have hrl : hs.reverse.length = rankV its.reverse its.reverse.length + 1 := hF.hlen
  split at hh
  · rename_i tm1 htm1
    have hsee := selF_mem ks tm1 htm1
    split at hh
    · split at hh
      · rename_i v hv
        rw [forceV_eq] at hh
        refine ih _ _ _ _ _ _ _ _ _ _ _ hh ?_
        have hq := stepQ0_ok hcf hv
        have := hF.snoc o (0, ks) ⟨v, false, tm1⟩ (st' := putA o.dst v st) (hs' := []) (fr' := its.length :: fr) rfl rfl rfl (by simpa [putA_h, putA_nx] using hF.last) (fun i hi => cons_c fr _ i (by omega)) (fun _ => by simp [il]) (fun i hi => by
          rcases List.mem_cons.1 hi with rfl | hi
          · omega
          · have := hF.frs i hi; omega) hsee ⟨true, hg.more _, fun _ => ⟨⟨st.h, st.nx, by rw [rankV_more _ _ (Nat.le_refl _), List.append_nil]; exact hF.last, hq _⟩, fun _ => ⟨rfl, hq⟩⟩, fun e => by cases e⟩
        rw [List.append_nil] at this
        rw [List.reverse_cons]; exact this
      · cases hh
    · split at hh
      · rename_i v hv
        rw [forceV_eq] at hh
        refine ih _ _ _ _ _ _ _ _ _ _ _ hh ?_
        have hq := stepQ_ok hcf hv
        have := hF.snoc o (1, ks) ⟨v, false, tm1⟩ (st' := putA o.dst v st) (hs' := []) (fr' := fr) rfl rfl rfl (by simpa [putA_h, putA_nx] using hF.last) (fun i hi => rfl) (fun e => by cases e) (fun i hi => Nat.lt_succ_of_lt (hF.frs i hi)) hsee
          ⟨true, hg.more _, fun _ => ⟨⟨st.h, st.nx, by rw [rankV_more _ _ (Nat.le_refl _), List.append_nil]; exact hF.last, hq⟩, fun hc => by
            have := hF.frs its.reverse.length (by simpa using hc)
            omega⟩, fun e => by cases e⟩
        rw [List.append_nil] at this
        rw [List.reverse_cons]; exact this
      · cases hh
    · rename_i k2 hk0 hk1
      split at hh
      · rename_i v h1 n1 hv
        rw [forceV_eq, forceN_eq] at hh
        refine ih _ _ _ _ _ _ _ _ _ _ _ hh ?_
        have hq := stepAny_ok hcf hv
        have h2 : Nat.ble 2 k = true := Nat.ble_eq_true_of_le (by
          match k, hk0, hk1 with
          | 0, h0, _ => exact absurd rfl h0
          | 1, _, h1 => exact absurd rfl h1
          | k + 2, _, _ => omega)
        have := hF.snoc o (k, ks) ⟨v, true, tm1⟩ (st' := putA o.dst v ⟨st.tm, h1, n1⟩) (hs' := [(h1, n1)]) (fr' := fr) (by cases o.dst <;> rfl) h2.symm rfl (by
            rw [putA_h, putA_nx, List.getElem?_append_right (by rw [hrl]; exact Nat.le_refl _), hrl]; simp) (fun i hi => rfl) (fun e => by rw [show k = 0 from e] at h2; cases h2) (fun i hi => Nat.lt_succ_of_lt (hF.frs i hi)) hsee
          ⟨true, hg.more _, fun _ => ⟨⟨st.h, st.nx, by rw [rankV_more _ _ (Nat.le_refl _), List.getElem?_append_left (by rw [hrl]; omega)]; exact hF.last, by
            rw [rankV_more _ _ (Nat.le_refl _)]
            exact ⟨h1, n1, by rw [List.getElem?_append_right (by rw [hrl]; exact Nat.le_refl _), hrl]; simp, hq⟩⟩, fun hc => by
            have := hF.frs its.reverse.length (by simpa using hc)
            omega⟩, fun e => by cases e⟩
        rw [List.reverse_cons, List.reverse_cons]; exact this
      · cases hh
  · cases hh

theorem runDraw_ok {cf : CF} (hcf : CFok P cf) {st0 : St} : ∀ (rest : List Oper) (ps : List (Nat × List Nat)) (done : List Oper) (dps : List (Nat × List Nat)) (its : List IV) (hs : List (Heap × Nat)) (fr : List Nat) (st : St) (its' : List IV) (hs' : List (Heap × Nat)) (fr' : List Nat) (st' : St),
    runDraw P cf rest ps its hs fr st = some (its', hs', fr', st') → FV P st0 done dps its.reverse hs.reverse fr st → FV P st0 (done ++ rest) (dps ++ ps) its'.reverse hs'.reverse fr' st' := by
  have cons_c : ∀ (fr : List Nat) (n i : Nat), i < n → (n :: fr).contains i = fr.contains i := fun fr n i hi => by
    rw [List.contains_cons]
    have : (i == n) = false := by simp; omega
    rw [this]; rfl
  intro rest
  induction rest with
  | nil =>
    intro ps done dps its hs fr st its' hs' fr' st' h hF
    cases ps with
    | nil =>
      simp only [runDraw, Option.some.injEq, Prod.mk.injEq] at h
      obtain ⟨rfl, rfl, rfl, rfl⟩ := h
      simpa using hF
    | cons p ps => simp only [runDraw, reduceCtorEq] at h
  | cons o rest ih =>
    intro ps done dps its hs fr st its' hs' fr' st' h hF
    cases ps with
    | nil => simp only [runDraw, reduceCtorEq] at h
    | cons p ps =>
      obtain ⟨k, ks⟩ := p
      have e1 : done ++ o :: rest = (done ++ [o]) ++ rest := by simp
      have e2 : dps ++ (k, ks) :: ps = (dps ++ [(k, ks)]) ++ ps := by simp
      rw [e1, e2]
      have il : its.reverse.length = its.length := List.length_reverse
      have hrl : hs.reverse.length = rankV its.reverse its.reverse.length + 1 := hF.hlen
      unfold runDraw at h
      simp only [] at h
      split at h
      · rename_i hg
        exact runDraw_go hcf ih h (by rw [hg]; rfl) hF
      · rename_i j b hg
        split at h
        · rename_i hj
          have hj : j < its.length := by simpa using hj
          split at h
          · rename_i g hgv
            obtain ⟨q, q1, q2⟩ := giv_ok hj hgv
            split at h
            · rename_i hgb
              exact runDraw_go hcf ih h (by rw [hg]; exact ⟨q, g, q1, q2, hgb.symm⟩) hF
            · rename_i hgb
              have hgb : (g == some b) = false := by simpa using hgb
              have hG : GdV its.reverse o.guard false := by rw [hg]; exact ⟨q, g, q1, q2, hgb.symm⟩
              split at h
              · rename_i h2
                refine ih _ _ _ _ _ _ _ _ _ _ _ h ?_
                have := hF.snoc o (k, ks) ⟨.tup [], true, []⟩ (st' := putA o.dst (.tup []) st) (hs' := [(st.h, st.nx)]) (fr' := fr) rfl h2.symm rfl (by
                    rw [putA_h, putA_nx, List.getElem?_append_right (by rw [hrl]; exact Nat.le_refl _), hrl]; simp) (fun i hi => rfl) (fun e => by rw [show k = 0 from e] at h2; cases h2) (fun i hi => Nat.lt_succ_of_lt (hF.frs i hi)) (fun x => .inl rfl)
                  ⟨false, hG.more _, (fun e => by cases e), fun _ => ⟨rfl, fun _ => ⟨st.h, st.nx, by rw [rankV_more _ _ (Nat.le_refl _), List.getElem?_append_left (by rw [hrl]; omega)]; exact hF.last, by
                    rw [rankV_more _ _ (Nat.le_refl _), List.getElem?_append_right (by rw [hrl]; exact Nat.le_refl _), hrl]; simp⟩⟩⟩
                rw [List.reverse_cons, List.reverse_cons]; exact this
              · rename_i h2
                refine ih _ _ _ _ _ _ _ _ _ _ _ h ?_
                have := hF.snoc o (k, ks) ⟨.tup [], false, []⟩ (st' := putA o.dst (.tup []) st) (hs' := []) (fr' := its.length :: fr) rfl (by cases hb : Nat.ble 2 k with | true => exact absurd hb h2 | false => rfl) rfl (by simpa [putA_h, putA_nx] using hF.last) (fun i hi => cons_c fr _ i (by omega)) (fun _ => by simp [il]) (fun i hi => by
                  rcases List.mem_cons.1 hi with rfl | hi
                  · omega
                  · have := hF.frs i hi; omega) (fun x => .inl rfl) ⟨false, hG.more _, (fun e => by cases e), fun _ => ⟨rfl, fun e => by cases e⟩⟩
                rw [List.append_nil] at this
                rw [List.reverse_cons]; exact this
          · cases h
        · cases h

end
end Go.Proofs.YtloddmbbfkejcaaGreat.Abs
end
section
/-
  A machine that runs codes whose inputs are known: what it comes to is what the program comes to. It holds of any program.
-/
namespace Go.Proofs.YtloddmbbfkejcaaGreat.Abs

section
variable {P : Program}

theorem mkSg_ok {cf : CF} {l : List Oper} {its : List IV} {hs : List (Heap × Nat)} : ∀ (sp : List (List Nat × Nat × Nat)) (acc sg : List SG), mkSg P cf l its hs sp acc = some sg →
    ∃ tail, sg = acc ++ tail ∧ tail.length = sp.length ∧ ∀ (s : Nat) (q : List Nat × Nat × Nat) (g : SG), sp[s]? = some q → tail[s]? = some g → g.e = q.1 ∧ (q.2.1 = 0 → hs[q.2.2]? = some (g.h, g.x)) := by
  intro sp
  induction sp with
  | nil => intro acc sg h; simp only [mkSg, Option.some.injEq] at h; exact ⟨[], by simp [h], rfl, fun s q g hq => by simp at hq⟩
  | cons q sp ih =>
    intro acc sg h
    obtain ⟨e, p, k⟩ := q
    have step : ∀ (g0 : SG), g0.e = e → (p = 0 → hs[k]? = some (g0.h, g0.x)) → mkSg P cf l its hs sp (acc ++ [g0]) = some sg → ∃ tail, sg = acc ++ tail ∧ tail.length = ((e, p, k) :: sp).length ∧ ∀ (s : Nat) (q : List Nat × Nat × Nat) (g : SG), ((e, p, k) :: sp)[s]? = some q → tail[s]? = some g → g.e = q.1 ∧ (q.2.1 = 0 → hs[q.2.2]? = some (g.h, g.x)) := by
      intro g0 h1 h2 h3
      obtain ⟨tail, t1, t2, t3⟩ := ih _ _ h3
      refine ⟨g0 :: tail, by rw [t1]; simp, by simp [t2], fun s q g hq hg => ?_⟩
      cases s with
      | zero =>
        simp only [List.getElem?_cons_zero, Option.some.injEq] at hq hg
        subst hq; subst hg
        exact ⟨h1, h2⟩
      | succ s => simp only [List.getElem?_cons_succ] at hq hg; exact t3 s q g hq hg
    cases p with
    | zero =>
      simp only [mkSg] at h
      split at h
      · rename_i hh x hk
        exact step ⟨e, hh, x⟩ rfl (fun _ => hk) h
      · cases h
    | succ p =>
      simp only [mkSg] at h
      split at h
      · rename_i g o it h1 h2 h3
        split at h
        · exact step ⟨e, g.h, b1of its hs k⟩ rfl (fun e => by cases e) h
        · split at h
          · rename_i v h' x' hv
            exact step ⟨e, h', x'⟩ rfl (fun e => by cases e) h
          · cases h
      · cases h

def toIX (its : List IV) (hs : List (Heap × Nat)) : List IX := its.mapIdx fun i it => ⟨it.v, it.ef, b0of its hs i, b1of its hs i, it.tm⟩

theorem toIX_get {its : List IV} {hs : List (Heap × Nat)} {i : Nat} : (toIX its hs)[i]? = (its[i]?).map fun it => ⟨it.v, it.ef, b0of its hs i, b1of its hs i, it.tm⟩ := by
  unfold toIX
  rw [List.getElem?_mapIdx]

theorem toIX_some {its : List IV} {hs : List (Heap × Nat)} {i : Nat} {ix : IX} (h : (toIX its hs)[i]? = some ix) : ∃ it, its[i]? = some it ∧ ix = ⟨it.v, it.ef, b0of its hs i, b1of its hs i, it.tm⟩ := by
  rw [toIX_get] at h
  obtain ⟨it, h1, h2⟩ := Option.map_eq_some_iff.1 h
  exact ⟨it, h1, h2.symm⟩

theorem hrOK_ok {X β β1 k : Nat} {H1 H2 : Heap} (h : hrOK X β β1 k H1 H2 = true) : HR X β β1 H1 H2 := by
  intro b B hb
  have mem : ∀ (H : Heap) (B : Blk), hget H b = some B → ∃ p ∈ H, p.1 = b := by
    intro H
    induction H with
    | nil => intro B e; cases e
    | cons q t ih =>
      obtain ⟨j, v⟩ := q
      intro B e
      by_cases ej : j = b
      · exact ⟨(j, v), List.mem_cons_self, ej⟩
      · simp only [hget, ej, if_false] at e
        obtain ⟨p, hp, he⟩ := ih B e
        exact ⟨p, List.mem_cons_of_mem _ hp, he⟩
  obtain ⟨p, hp, rfl⟩ := mem H2 B hb
  unfold hrOK at h
  have := List.all_eq_true.1 h p hp
  split at this
  · rename_i B' hB'
    rw [hgetF_eq, hb] at hB'
    obtain rfl := Option.some.inj hB'
    simp only [] at this
    generalize (if (Nat.ble β p.fst && p.fst.blt (β + k)) = true then p.fst - β + X else p.fst) = b1 at this
    split at this
    · rename_i B1 hB1
      simp only [Bool.and_eq_true, Bool.or_eq_true] at this
      obtain ⟨⟨h1, h2⟩, h3⟩ := this
      refine ⟨b1, B1, hgO hB1, Nat.eq_of_beq_eq_true h1, blkEq_ok h2, fun hlt => ?_⟩
      rcases h3 with (h3 | h3) | h3
      · have := Nat.le_of_ble_eq_true h3; omega
      · exact .inl (by simpa using h3)
      · exact .inr (Nat.le_of_ble_eq_true h3)
    · cases this
  · cases this

/-- What another place of an operation says. -/
def ExX (P : Program) (its : List IV) (hs : List (Heap × Nat)) (sg : List SG) (i s' : Nat) (o : Oper) (it : IV) (g : SG) : Prop :=
  if it.ef then ∃ g', sg[s']? = some g' ∧ EffX P o.op it.tm g g' ⟨it.v, it.ef, b0of its hs i, b1of its hs i, it.tm⟩ else OpQ P o.op it.tm g.h it.v

theorem exOK_ok {cf : CF} (hcf : CFok P cf) {l : List Oper} {its : List IV} {hs : List (Heap × Nat)} {sg : List SG} {q : Nat × Nat × Nat} (h : exOK P cf l its hs sg q = true) {o : Oper} {it : IV} {g : SG} (ho : l[q.1]? = some o) (hit : its[q.1]? = some it) (hg : sg[q.2.1]? = some g) :
    match o.guard with
    | none => ExX P its hs sg q.1 q.2.2 o it g
    | some (j, b) => ∃ r w, its[j]? = some r ∧ gv r.v = some w ∧ (w = some b → ExX P its hs sg q.1 q.2.2 o it g) ∧ (w ≠ some b → it.ef = true → ∃ g', sg[q.2.2]? = some g' ∧ g'.h = g.h ∧ g.x ≤ g'.x) := by
  have go : exOK.go P cf its hs sg q o it g = true → ExX P its hs sg q.1 q.2.2 o it g := by
    intro hh
    unfold exOK.go at hh
    unfold ExX
    cases hef : it.ef with
    | true =>
      rw [hef] at hh
      simp only [if_true] at hh ⊢
      split at hh
      · rename_i g' hg'
        refine ⟨g', hg', ?_⟩
        split at hh
        · rename_i hle
          split at hh
          · rename_i v h' x' hv
            simp only [Bool.and_eq_true] at hh
            obtain ⟨⟨⟨k1, k2⟩, k3⟩, k4⟩ := hh
            have k1 := avEq_ok _ _ k1
            have k2 := heapEq_ok _ _ k2
            have k3 := Nat.eq_of_beq_eq_true k3
            have k4 := Nat.eq_of_beq_eq_true k4
            subst k1 k2
            refine .inl ⟨Nat.le_of_ble_eq_true hle, by rw [k4]; exact k3, ?_⟩
            rw [k4]
            exact stepAny_ok hcf hv
          · cases hh
        · simp only [Bool.and_eq_true] at hh
          obtain ⟨⟨k1, k2⟩, hh⟩ := hh
          split at hh
          · rename_i v1 h1 x1 hv
            simp only [Bool.and_eq_true] at hh
            obtain ⟨⟨⟨k3, k4⟩, k5⟩, k6⟩ := hh
            have k3 := Nat.le_of_ble_eq_true k3
            refine .inr ⟨Nat.le_of_ble_eq_true k1, Nat.eq_of_beq_eq_true k2, v1, h1, x1 - g.x, ?_, Nat.le_of_ble_eq_true k4, avEq_ok _ _ k5, hrOK_ok k6⟩
            rw [Nat.add_sub_cancel' k3]
            exact stepAny_ok hcf hv
          · cases hh
      · cases hh
    | false =>
      rw [hef] at hh
      simp only [Bool.false_eq_true, if_false] at hh ⊢
      split at hh
      · rename_i v hv
        rw [← avEq_ok _ _ hh]
        exact stepQ_ok hcf hv
      · cases hh
  unfold exOK at h
  rw [ho, hit, hg] at h
  simp only [] at h
  split at h
  · rename_i j b hgd
    rw [hgd]
    simp only []
    split at h
    · rename_i r hr
      split at h
      · rename_i w hw
        refine ⟨r, w, hr, hw, fun e => ?_, fun e hef => ?_⟩
        · rw [if_pos (by simp [e])] at h; exact go h
        · rw [if_neg (by simpa using e), if_pos hef] at h
          split at h
          · rename_i g' hg'
            simp only [Bool.and_eq_true] at h
            exact ⟨g', hg', (heapEq_ok _ _ h.1).symm, Nat.le_of_ble_eq_true h.2⟩
          · cases h
      · cases h
    · cases h
  · rename_i hgd
    rw [hgd]
    exact go h

theorem rankP_eq {ps : List (Nat × List Nat)} {its : List IV} (hl : ps.length = its.length) (he : ∀ (i : Nat) (p : Nat × List Nat) (it : IV), ps[i]? = some p → its[i]? = some it → it.ef = Nat.ble 2 p.1) (i : Nat) : rankP ps i = rankV its i := by
  have e : its.map (·.ef) = ps.map (fun p => Nat.ble 2 p.1) := by
    refine List.ext_getElem? fun k => ?_
    rw [List.getElem?_map, List.getElem?_map]
    cases h1 : its[k]? with
    | none =>
      rw [List.getElem?_eq_none_iff] at h1
      rw [List.getElem?_eq_none (by omega)]; rfl
    | some it =>
      obtain ⟨p, hp⟩ : ∃ p, ps[k]? = some p := ⟨_, List.getElem?_eq_getElem (by rw [hl]; exact (List.getElem?_eq_some_iff.1 h1).1)⟩
      rw [hp, Option.map_some, Option.map_some, he k p it hp h1]
  unfold rankP rankV
  have c1 : (ps.take i).countP (fun p => Nat.ble 2 p.1) = ((ps.map (fun p => Nat.ble 2 p.1)).take i).countP id := by rw [← List.map_take, List.countP_map]; rfl
  have c2 : (its.take i).countP (fun it => it.ef) = ((its.map (·.ef)).take i).countP id := by rw [← List.map_take, List.countP_map]; rfl
  rw [c1, c2, e]

theorem monoX_ok : ∀ (hs : List (Heap × Nat)), monoX hs = true → ∀ (j i : Nat) (p q : Heap × Nat), i ≤ j → hs[i]? = some p → hs[j]? = some q → p.2 ≤ q.2
  | [], _, j, i, p, q, _, hp, _ => by simp at hp
  | [a], _, j, i, p, q, hij, hp, hq => by
    have h1 : i < 1 := (List.getElem?_eq_some_iff.1 hp).1
    have h2 : j < 1 := (List.getElem?_eq_some_iff.1 hq).1
    obtain rfl : i = 0 := by omega
    obtain rfl : j = 0 := by omega
    rw [hp] at hq
    obtain rfl := Option.some.inj hq
    exact Nat.le_refl _
  | a :: b :: t, h, j, i, p, q, hij, hp, hq => by
    simp only [monoX, Bool.and_eq_true] at h
    cases j with
    | zero =>
      obtain rfl : i = 0 := by omega
      rw [hp] at hq
      obtain rfl := Option.some.inj hq
      exact Nat.le_refl _
    | succ j =>
      rw [List.getElem?_cons_succ] at hq
      cases i with
      | zero =>
        simp only [List.getElem?_cons_zero, Option.some.injEq] at hp
        subst hp
        exact Nat.le_trans (Nat.le_of_ble_eq_true h.1) (monoX_ok (b :: t) h.2 j 0 b q (Nat.zero_le _) rfl hq)
      | succ i =>
        rw [List.getElem?_cons_succ] at hp
        exact monoX_ok (b :: t) h.2 j i p q (by omega) hp hq

theorem sameS_ok {l l' : List Nat} (h : sameS l l' = true) (j : Nat) : j ∈ l ↔ j ∈ l' := by
  unfold sameS at h
  simp only [Bool.and_eq_true] at h
  constructor
  · intro hj; have := List.all_eq_true.1 h.1 j hj; simpa using this
  · intro hj; have := List.all_eq_true.1 h.2 j hj; simpa using this

/-- A region whose order is open. -/
theorem drawn_ok {cf : CF} (hcf : CFok P cf) (hm : P.follows .mixedOrders = true) {c : Ctx} {n id : Nat} {Q : Exit → St → Prop} {l : List Oper} {pl : PL} {st st' : St} (h : drawn P cf n l pl st = some st') (hQ : Q .normal st') : AW P c n (.region id l.toArray true) Q st := by
  unfold drawn at h
  split at h
  · rename_i hchk
    rw [Bool.and_eq_true] at hchk
    obtain ⟨hchk, hdn⟩ := hchk
    split at h
    · rename_i its0 hs0 fr st1 hrun
      split at h
      · rename_i hmono
        split at h
        · rename_i sg hsg
          split at h
          · rename_i hex
            obtain rfl := Option.some.inj h
            have hF := runDraw_ok (P := P) hcf (st0 := st) l pl.its [] [] [] [(st.h, st.nx)] [] st its0 hs0 fr st1 hrun
              ⟨rfl, rfl, fun i p it h => by simp at h, rfl, rfl, rfl, fun i o it h => by simp at h, fun i p it x h => by simp at h, fun i o it x h => by simp at h, fun _ _ => rfl, fun i hi => by cases hi⟩
            rw [List.nil_append, List.nil_append] at hF
            generalize its0.reverse = its at hF hsg hex
            generalize hs0.reverse = hs at hF hsg hex hmono
            obtain ⟨tail, t1, t2, t3⟩ := mkSg_ok _ _ _ hsg
            rw [List.nil_append] at t1
            subst t1
            have hefp := hF.efp
            have hrk : ∀ i, rankP pl.its i = rankV its i := rankP_eq hF.plen (fun i p it a b => (hefp i p it a b).1)
            unfold chkX at hchk
            simp only [Bool.and_eq_true] at hchk
            obtain ⟨⟨⟨⟨⟨⟨cA, cB⟩, cC⟩, cD⟩, cE⟩, cF⟩, cG⟩ := hchk
            -- an operation's checks
            have one : ∀ (i : Nat) (o : Oper), l[i]? = some o → ∃ k ks it, pl.its[i]? = some (k, ks) ∧ its[i]? = some it ∧ it.ef = Nat.ble 2 k ∧ chkX1 l pl i o k ks = true := fun i o ho => by
              have hil : i < l.length := (List.getElem?_eq_some_iff.1 ho).1
              obtain ⟨it, hit⟩ : ∃ it, its[i]? = some it := ⟨_, List.getElem?_eq_getElem (by rw [← hF.len]; exact hil)⟩
              obtain ⟨p, hp⟩ : ∃ p, pl.its[i]? = some p := ⟨_, List.getElem?_eq_getElem (by rw [hF.plen, ← hF.len]; exact hil)⟩
              have := List.all_eq_true.1 cB i (List.mem_range.2 hil)
              rw [ho, hp] at this
              exact ⟨p.1, p.2, it, hp, hit, (hefp i p it hp hit).1, this⟩
            have o_of : ∀ (i : Nat) (it : IV), its[i]? = some it → ∃ o, l[i]? = some o := fun i it h => ⟨_, List.getElem?_eq_getElem (by rw [hF.len]; exact (List.getElem?_eq_some_iff.1 h).1)⟩
            have q_of : ∀ (s : Nat) (g : SG), sg[s]? = some g → ∃ q, pl.sp[s]? = some q ∧ g.e = q.1 ∧ (q.2.1 = 0 → hs[q.2.2]? = some (g.h, g.x)) := fun s g hg => by
              obtain ⟨q, hq⟩ : ∃ q, pl.sp[s]? = some q := ⟨_, List.getElem?_eq_getElem (by rw [← t2]; exact (List.getElem?_eq_some_iff.1 hg).1)⟩
              exact ⟨q, hq, t3 s q g hq hg⟩
            have g_of : ∀ (s : Nat) (q : List Nat × Nat × Nat), pl.sp[s]? = some q → ∃ g, sg[s]? = some g ∧ g.e = q.1 ∧ (q.2.1 = 0 → hs[q.2.2]? = some (g.h, g.x)) := fun s q hq => by
              obtain ⟨g, hg⟩ : ∃ g, sg[s]? = some g := ⟨_, List.getElem?_eq_getElem (by rw [t2]; exact (List.getElem?_eq_some_iff.1 hq).1)⟩
              exact ⟨g, hg, t3 s q g hq hg⟩
            have up : ∀ (i : Nat) (o : Oper), l[i]? = some o → ∀ p ∈ edges o, p < i := fun i o ho p hp => by
              obtain ⟨k, ks, it, _, _, _, hc⟩ := one i o ho
              unfold chkX1 at hc
              simp only [Bool.and_eq_true] at hc
              have := List.all_eq_true.1 hc.1.1.1.1.1.1 p hp
              simpa using this
            have dist0 : ∀ (i j : Nat) (o o' : Oper) (d : Nat), j < i → l[i]? = some o → l[j]? = some o' → o.dst = some d → o'.dst = some d → False := fun i j o o' d hij ho ho' hd hd' => by
              obtain ⟨k, ks, it, _, _, _, hc⟩ := one i o ho
              unfold chkX1 at hc
              simp only [Bool.and_eq_true] at hc
              have h2 := hc.1.1.1.1.1.2
              rw [hd] at h2
              simp only [] at h2
              have hm : o' ∈ l.take i := List.mem_of_getElem? (i := j) (by rw [List.getElem?_take_of_lt hij]; exact ho')
              have := List.all_eq_true.1 h2 o' hm
              rw [dstIs_iff.2 hd'] at this
              cases this
            have dist : ∀ (i j : Nat) (o o' : Oper) (d : Nat), l[i]? = some o → l[j]? = some o' → o.dst = some d → o'.dst = some d → i = j := fun i j o o' d ho ho' hd hd' => by
              rcases Nat.lt_trichotomy i j with h1 | h1 | h1
              · exact (dist0 j i o' o d h1 ho' ho hd' hd).elim
              · exact h1
              · exact (dist0 i j o o' d h1 ho ho' hd hd').elim
            have hlen : sg.length = pl.sp.length := t2
            have hrank : ∀ i, i ≤ its.length → ∃ p, hs[rankV its i]? = some p := fun i hi => ⟨_, List.getElem?_eq_getElem (by rw [hF.hlen]; have := rankV_mono its hi; omega)⟩
            have hb : ∀ (i : Nat) (it : IV), its[i]? = some it → it.ef = true → ∃ p q, hs[rankV its i]? = some p ∧ hs[rankV its i + 1]? = some q ∧ b0of its hs i = p.2 ∧ b1of its hs i = q.2 ∧ p.2 ≤ q.2 := fun i it hit hef => by
              have hil : i < its.length := (List.getElem?_eq_some_iff.1 hit).1
              obtain ⟨p, hp⟩ := hrank i (by omega)
              have hlt := rankV_lt (j := its.length) hil hit hef
              obtain ⟨q, hq⟩ : ∃ q, hs[rankV its i + 1]? = some q := ⟨_, List.getElem?_eq_getElem (by rw [hF.hlen]; omega)⟩
              exact ⟨p, q, hp, hq, by unfold b0of; rw [hp], by unfold b1of; rw [hq], monoX_ok hs hmono _ _ p q (by omega) hp hq⟩
            have hplan : PlanX l (toIX its hs) sg pl.m (dnF pl.dn) (dnF pl.un) := by
              refine ⟨by unfold toIX; rw [List.length_mapIdx]; exact hF.len, up, dist, fun i s ix g hix hef hg => ?_, fun i s o ix ho hix hef hs' hall => ?_, fun i s ix hix hef hs' hall => ?_, fun i j ix jx hix hjx hef hjf hne => ?_, fun s g hg hall => ?_, fun i o j b ho hgd => ?_⟩
              · obtain ⟨it, hit, rfl⟩ := toIX_some hix
                obtain ⟨o, ho⟩ := o_of i it hit
                obtain ⟨k, ks, it', hp, hit', hk, hc⟩ := one i o ho
                rw [hit] at hit'
                obtain rfl := Option.some.inj hit'
                unfold chkX1 at hc
                simp only [Bool.and_eq_true] at hc
                have h3 := hc.1.1.1.1.2
                rw [if_pos (by rw [← hk]; exact hef)] at h3
                obtain ⟨q, hq, hqe, _⟩ := q_of s g hg
                have := List.all_eq_true.1 h3 s (List.mem_range.2 (List.getElem?_eq_some_iff.1 hq).1)
                rw [hq] at this
                simp only [Bool.and_eq_true, Bool.or_eq_true, Bool.not_eq_true'] at this
                rw [hqe]
                exact ⟨fun hmem => this.1.resolve_left (by simp [hmem]), fun hmem => this.2.resolve_left (by simp [hmem])⟩
              · obtain ⟨it, hit, rfl⟩ := toIX_some hix
                obtain ⟨k, ks, it', hp, hit', hk, hc⟩ := one i o ho
                rw [hit] at hit'
                obtain rfl := Option.some.inj hit'
                unfold chkX1 at hc
                simp only [Bool.and_eq_true] at hc
                have h3 := hc.1.1.1.1.2
                have hef : it.ef = false := hef
                rw [if_neg (by rw [← hk, hef]; simp)] at h3
                have := List.all_eq_true.1 h3 s (List.mem_range.2 (by rw [← hlen]; exact hs'))
                simp only [Bool.and_eq_true, Bool.or_eq_true, Bool.not_eq_true'] at this
                refine this.1.resolve_left fun e => ?_
                have e2 : ((edges o).all fun p => dnF pl.dn p s) = true := List.all_eq_true.2 hall
                rw [e2] at e
                cases e
              · obtain ⟨it, hit, rfl⟩ := toIX_some hix
                obtain ⟨o, ho⟩ := o_of i it hit
                obtain ⟨k, ks, it', hp, hit', hk, hc⟩ := one i o ho
                rw [hit] at hit'
                obtain rfl := Option.some.inj hit'
                unfold chkX1 at hc
                simp only [Bool.and_eq_true] at hc
                have h3 := hc.1.1.1.1.2
                have hef : it.ef = false := hef
                rw [if_neg (by rw [← hk, hef]; simp)] at h3
                have := List.all_eq_true.1 h3 s (List.mem_range.2 (by rw [← hlen]; exact hs'))
                simp only [Bool.and_eq_true, Bool.or_eq_true, Bool.not_eq_true'] at this
                refine this.2.resolve_left fun e => ?_
                rw [← Bool.not_eq_true, List.all_eq_true] at e
                refine e fun j hj => ?_
                cases hj' : l[j]? with
                | none => rfl
                | some o' =>
                  simp only [Bool.or_eq_true, Bool.not_eq_true']
                  by_cases hmem : i ∈ edges o'
                  · exact .inr (hall j o' hj' hmem)
                  · exact .inl (by simpa using hmem)
              · obtain ⟨it, hit, rfl⟩ := toIX_some hix
                obtain ⟨jt, hjt, rfl⟩ := toIX_some hjx
                obtain ⟨p, q, p1, p2, p3, p4, p5⟩ := hb i it hit hef
                obtain ⟨p', q', r1, r2, r3, r4, r5⟩ := hb j jt hjt hjf
                show b1of its hs i ≤ b0of its hs j ∨ b1of its hs j ≤ b0of its hs i
                rcases Nat.lt_or_ge i j with hij | hij
                · have := rankV_lt hij hit hef
                  rw [p4, r3]
                  exact .inl (monoX_ok hs hmono _ _ q p' this p2 r1)
                · have := rankV_lt (show j < i by omega) hjt hjf
                  rw [r4, p3]
                  exact .inr (monoX_ok hs hmono _ _ q' p this r2 p1)
              · obtain ⟨q, hq, hqe, _⟩ := q_of s g hg
                have := List.all_eq_true.1 cC s (List.mem_range.2 (List.getElem?_eq_some_iff.1 hq).1)
                rw [hq] at this
                simp only [Bool.or_eq_true] at this
                rcases this with h1 | h1
                · exact Nat.eq_of_beq_eq_true h1
                · rw [List.any_eq_true] at h1
                  obtain ⟨i, hi, h2⟩ := h1
                  simp only [Bool.and_eq_true, Bool.not_eq_true'] at h2
                  have hil : i < its.length := by rw [← hF.plen]; exact List.mem_range.1 hi
                  obtain ⟨it, hit⟩ : ∃ it, its[i]? = some it := ⟨_, List.getElem?_eq_getElem hil⟩
                  obtain ⟨p, hp⟩ : ∃ p, pl.its[i]? = some p := ⟨_, List.getElem?_eq_getElem (by rw [hF.plen]; exact hil)⟩
                  have hef : it.ef = true := by
                    rw [(hefp i p it hp hit).1]
                    have := h2.1
                    unfold isEf at this
                    rw [hp] at this
                    exact this
                  have := hall i _ (by rw [toIX_get, hit]; rfl) hef
                  rw [hqe] at this
                  rw [List.contains_iff_mem.2 this] at h2
                  cases h2.2
              · obtain ⟨k, ks, it, _, _, _, hc⟩ := one i o ho
                unfold chkX1 at hc
                simp only [Bool.and_eq_true] at hc
                have h6 := hc.1.1.2
                rw [hgd] at h6
                simp only [Bool.and_eq_true] at h6
                refine ⟨by simpa using h6.1, ?_⟩
                cases ho' : l[j]? with
                | none => rw [ho'] at h6; cases h6.2
                | some o' =>
                  rw [ho'] at h6
                  obtain ⟨d, hd⟩ := Option.isSome_iff_exists.1 h6.2
                  exact ⟨o', d, rfl, hd⟩
            have hsees : SeesX l (toIX its hs) st.tm := by
              intro i o ix x ho hix
              obtain ⟨it, hit, rfl⟩ := toIX_some hix
              obtain ⟨k, ks, it', hp, hit', hk, hc⟩ := one i o ho
              rw [hit] at hit'
              obtain rfl := Option.some.inj hit'
              rcases hF.sees i (k, ks) it x hp hit with e | ⟨e1, e2, e3⟩
              · exact .inl e
              · refine .inr ?_
                unfold chkX1 at hc
                simp only [Bool.and_eq_true] at hc
                have := List.all_eq_true.1 hc.1.1.1.2 x e1
                rw [Bool.or_eq_true] at this
                rcases this with h5 | h5
                · rw [List.any_eq_true] at h5
                  obtain ⟨p, hp1, h5⟩ := h5
                  cases ho' : l[p]? with
                  | none => rw [ho'] at h5; cases h5
                  | some o' =>
                    rw [ho'] at h5
                    have hd := dstIs_iff.1 h5
                    obtain ⟨_, _, jt, _, hjt, _, _⟩ := one p o' ho'
                    have hpi := up i o ho p hp1
                    refine .inl ⟨p, hp1, o', _, ho', by rw [toIX_get, hjt]; rfl, hd, ?_⟩
                    exact e2 p o' jt hpi ho' hjt hd (fun k' o'' hk1 hk2 ho'' hd'' => by have := dist p k' o' o'' x ho' ho'' hd hd''; omega)
                · rw [List.all_eq_true] at h5
                  have key : ∀ (j : Nat) (o' : Oper), l[j]? = some o' → o'.dst = some x → i ∈ edges o' := fun j o' hj hd => by
                    have := h5 o' (List.mem_of_getElem? hj)
                    rw [dstIs_iff.2 hd] at this
                    simpa using this
                  exact .inr ⟨e3 fun j o' hj ho' hd => by have := up j o' ho' i (key j o' ho' hd); omega, key⟩
            have hE : ∀ x, tget st1.tm x = entX l (toIX its hs) st.tm x := fun x => by
              obtain ⟨e1, e2⟩ := entX_spec l (toIX its hs) st.tm x hplan.len dist
              by_cases hx : ∃ (i : Nat) (o : Oper), l[i]? = some o ∧ o.dst = some x
              · obtain ⟨i, o, ho, hx⟩ := hx
                obtain ⟨_, _, it, _, hit, _, _⟩ := one i o ho
                rw [e1 i o _ ho (by rw [toIX_get, hit]; rfl) hx]
                exact hF.val i o it x ho hit hx (fun j o' hij hj hd => by have := dist i j o o' x ho hj hx hd; omega)
              · rw [e2 (fun i o ho hx' => hx ⟨i, o, ho, hx'⟩)]
                exact hF.old x (fun i o ho hx' => hx ⟨i, o, ho, hx'⟩)
            -- the text's own stages
            have htp : ∀ (k s : Nat), pl.tp[k]? = some s → ∃ g, sg[s]? = some g ∧ hs[k]? = some (g.h, g.x) := fun k s hk => by
              have := List.all_eq_true.1 cE k (List.mem_range.2 (List.getElem?_eq_some_iff.1 hk).1)
              rw [hk] at this
              simp only [] at this
              split at this
              · rename_i e k' hq
                have e1 := Nat.eq_of_beq_eq_true this
                subst e1
                obtain ⟨g, hg, _, h2⟩ := g_of s _ hq
                exact ⟨g, hg, h2 rfl⟩
              · cases this
            have hm1 : pl.tp[rankV its its.length]? = some pl.m := by
              have := cG
              rw [← hF.plen, ← hrk]
              split at this
              · rename_i s hs'; rw [hs', Nat.eq_of_beq_eq_true this]
              · cases this
            obtain ⟨gm, hgm1, hgm2⟩ := htp _ _ hm1
            have hgl := hF.last
            rw [hgm2] at hgl
            obtain ⟨e1, e2⟩ := Prod.mk.inj (Option.some.inj hgl)
            have h00 : sg[0]? = some ⟨[], st.h, st.nx⟩ := by
              have := cF
              split at this
              · rename_i htp0 hsp0
                obtain ⟨g, hg, hge, hg2⟩ := g_of 0 _ hsp0
                have := hg2 rfl
                rw [hF.zero] at this
                obtain ⟨k1, k2⟩ := Prod.mk.inj (Option.some.inj this)
                rw [hg]
                obtain ⟨ge, gh, gx⟩ := g
                simp only at hge k1 k2
                rw [hge, k1, k2]
              · cases this
            refine aw_drawX hm hplan hsees (fun o ho d hd => ?_) hE (fun i ix hix hef => ?_) (fun i s o ho hs' hall hun => ?_) h00 rfl hgm1 (by rw [e1, e2]; exact hQ)
            · have := List.all_eq_true.1 hdn o ho
              exact dstOK_ok this d hd
            · obtain ⟨it, hit, rfl⟩ := toIX_some hix
              obtain ⟨p, q, p1, p2, p3, p4, p5⟩ := hb i it hit hef
              show st.nx ≤ b0of its hs i ∧ b0of its hs i ≤ b1of its hs i
              rw [p3, p4]
              exact ⟨monoX_ok hs hmono _ _ _ p (Nat.zero_le _) hF.zero p1, p5⟩
            · intro o' ix g ho' hix hg
              rw [ho] at ho'
              obtain rfl := Option.some.inj ho'
              obtain ⟨it, hit, rfl⟩ := toIX_some hix
              obtain ⟨k, ks, it', hp, hit', hk, hc⟩ := one i o ho
              rw [hit] at hit'
              obtain rfl := Option.some.inj hit'
              unfold chkX1 at hc
              simp only [Bool.and_eq_true] at hc
              have hcov := List.all_eq_true.1 hc.1.2 s (List.mem_range.2 (by rw [← hlen]; exact hs'))
              have hnext := hc.2
              have hK := hF.known i o it ho hit
              obtain ⟨r, hG, hrT, hrF⟩ := hK
              have hall' : ((edges o).all fun p => dnF pl.dn p s) = true := List.all_eq_true.2 hall
              rw [hall', hun] at hcov
              simp only [Bool.not_true, Bool.false_or, Bool.or_eq_true] at hcov
              -- the text's own place
              have own : (∃ s', pl.tp[rankV its i]? = some s' ∧ s = s') → (r = true → RunX P o.op i ⟨it.v, it.ef, b0of its hs i, b1of its hs i, it.tm⟩ it.tm sg g) ∧
                  (r = false → it.ef = true → ∃ (s' : Nat) (g' : SG), sg[s']? = some g' ∧ (∀ j, j ∈ g'.e ↔ j ∈ g.e ∨ j = i) ∧ g'.h = g.h ∧ g.x ≤ g'.x) := by
                rintro ⟨s', hs1, rfl⟩
                obtain ⟨g1, hg1, hg2⟩ := htp _ _ hs1
                rw [hg] at hg1
                obtain rfl := Option.some.inj hg1
                have nxt : it.ef = true → ∃ (s' : Nat) (g' : SG), sg[s']? = some g' ∧ (∀ j, j ∈ g'.e ↔ j ∈ g.e ∨ j = i) ∧ hs[rankV its i + 1]? = some (g'.h, g'.x) := fun hef => by
                  rw [← hk, hef] at hnext
                  simp only [Bool.not_true, Bool.false_or] at hnext
                  rw [hrk, hs1] at hnext
                  split at hnext
                  · rename_i a b ha hb'
                    obtain rfl := Option.some.inj ha
                    split at hnext
                    · rename_i q q' hq hq'
                      obtain ⟨g', hg', _⟩ := htp _ _ hb'
                      obtain ⟨_, h2⟩ := htp _ _ hb'
                      obtain ⟨g3, hg3, hge3, _⟩ := g_of b q' hq'
                      obtain ⟨g4, hg4, hge4, _⟩ := g_of s q hq
                      rw [hg] at hg4
                      obtain rfl := Option.some.inj hg4
                      obtain ⟨g5, hg5, hg6⟩ := htp _ _ hb'
                      rw [hg3] at hg5
                      obtain rfl := Option.some.inj hg5
                      refine ⟨b, g3, hg3, fun j => ?_, hg6⟩
                      rw [hge3, hge4, sameS_ok hnext j, List.mem_cons]
                      exact ⟨fun h => h.elim .inr .inl, fun h => h.elim .inr .inl⟩
                    · cases hnext
                  · cases hnext
                refine ⟨fun hr => ?_, fun hr hef => ?_⟩
                · obtain ⟨⟨H, X, k1, k2⟩, _⟩ := hrT hr
                  rw [hg2] at k1
                  obtain ⟨rfl, rfl⟩ := Prod.mk.inj (Option.some.inj k1)
                  unfold RunX
                  show (if it.ef = true then _ else _)
                  cases hef : it.ef with
                  | true =>
                    rw [hef] at k2
                    simp only [if_true] at k2 ⊢
                    obtain ⟨H', X', k3, k4⟩ := k2
                    obtain ⟨s', g', n1, n2, n3⟩ := nxt hef
                    rw [n3] at k3
                    obtain ⟨rfl, rfl⟩ := Prod.mk.inj (Option.some.inj k3)
                    refine ⟨s', g', n1, n2, .inl ?_⟩
                    have b0e : b0of its hs i = g.x := by unfold b0of; rw [hg2]
                    have b1e : b1of its hs i = g'.x := by unfold b1of; rw [n3]
                    exact ⟨Nat.le_of_eq b0e.symm, b1e.symm, by show OpOK P o.op ⟨it.tm, g.h, b0of its hs i⟩ it.v g'.h g'.x; rw [b0e]; exact k4⟩
                  | false =>
                    rw [hef] at k2
                    simp only [Bool.false_eq_true, if_false] at k2 ⊢
                    exact k2
                · obtain ⟨_, k5⟩ := hrF hr
                  obtain ⟨H, X, k1, k2⟩ := k5 hef
                  rw [hg2] at k1
                  obtain ⟨rfl, rfl⟩ := Prod.mk.inj (Option.some.inj k1)
                  obtain ⟨s', g', n1, n2, n3⟩ := nxt hef
                  rw [n3] at k2
                  obtain ⟨e5, e6⟩ := Prod.mk.inj (Option.some.inj k2)
                  exact ⟨s', g', n1, n2, e5, Nat.le_of_eq e6.symm⟩
              -- another place
              have oth : (∃ q ∈ pl.ex, q.1 = i ∧ q.2.1 = s) → match o.guard with
                  | none => RunX P o.op i ⟨it.v, it.ef, b0of its hs i, b1of its hs i, it.tm⟩ it.tm sg g
                  | some (j, b) => ∃ r w, its[j]? = some r ∧ gv r.v = some w ∧ (w = some b → RunX P o.op i ⟨it.v, it.ef, b0of its hs i, b1of its hs i, it.tm⟩ it.tm sg g) ∧
                    (w ≠ some b → it.ef = true → ∃ (s' : Nat) (g' : SG), sg[s']? = some g' ∧ (∀ j, j ∈ g'.e ↔ j ∈ g.e ∨ j = i) ∧ g'.h = g.h ∧ g.x ≤ g'.x) := by
                rintro ⟨⟨qi, qs, qt⟩, hq, rfl, rfl⟩
                have h1 := exOK_ok hcf (List.all_eq_true.1 hex _ hq) ho hit hg
                have hmem : it.ef = true → ∀ g', sg[qt]? = some g' → ∀ j, j ∈ g'.e ↔ j ∈ g.e ∨ j = qi := fun hef g' hg' j => by
                  have := List.all_eq_true.1 cD _ hq
                  simp only [] at this
                  split at this
                  · rename_i r1 r2 hr1 hr2
                    have hie : isEf pl qi = true := by
                      unfold isEf
                      rw [hp]
                      show Nat.ble 2 k = true
                      rw [← hk]; exact hef
                    rw [hie] at this
                    simp only [Bool.not_true, Bool.false_or] at this
                    obtain ⟨g3, hg3, hge3, _⟩ := g_of qt r2 hr2
                    obtain ⟨g4, hg4, hge4, _⟩ := g_of qs r1 hr1
                    rw [hg] at hg4
                    obtain rfl := Option.some.inj hg4
                    rw [hg'] at hg3
                    obtain rfl := Option.some.inj hg3
                    rw [hge3, hge4, sameS_ok this j, List.mem_cons]
                    exact ⟨fun h => h.elim .inr .inl, fun h => h.elim .inr .inl⟩
                  · cases this
                have conv : ExX P its hs sg qi qt o it g → RunX P o.op qi ⟨it.v, it.ef, b0of its hs qi, b1of its hs qi, it.tm⟩ it.tm sg g := fun hx => by
                  unfold ExX at hx
                  unfold RunX
                  show (if it.ef = true then _ else _)
                  cases hef : it.ef with
                  | true =>
                    rw [hef] at hx
                    simp only [if_true] at hx ⊢
                    obtain ⟨g', hg', hx⟩ := hx
                    exact ⟨qt, g', hg', hmem hef g' hg', hx⟩
                  | false =>
                    rw [hef] at hx
                    simp only [Bool.false_eq_true, if_false] at hx ⊢
                    exact hx
                split at h1
                · exact conv h1
                · obtain ⟨r1, w, k1, k2, k3, k4⟩ := h1
                  exact ⟨r1, w, k1, k2, fun e => conv (k3 e), fun e hef => by
                    obtain ⟨g', n1, n2, n3⟩ := k4 e hef
                    exact ⟨qt, g', n1, hmem hef g' n1, n2, n3⟩⟩
              have free : k = 0 → r = true → RunX P o.op i ⟨it.v, it.ef, b0of its hs i, b1of its hs i, it.tm⟩ it.tm sg g := fun hk0 hr => by
                obtain ⟨_, k2⟩ := hrT hr
                obtain ⟨k3, k4⟩ := k2 ((hefp i (k, ks) it hp hit).2 hk0)
                unfold RunX
                show (if it.ef = true then _ else _)
                rw [k3]
                simp only [Bool.false_eq_true, if_false]
                exact k4 _
              have sk0 : k = 0 → it.ef = true → False := fun hk0 hef => by rw [hk, hk0] at hef; cases hef
              cases hgd : o.guard with
              | none =>
                rw [hgd] at hG
                have hG : r = true := hG
                simp only []
                rcases hcov with (h1 | h1) | h1
                · exact free (Nat.eq_of_beq_eq_true h1) hG
                · refine (own ?_).1 hG
                  rw [hrk] at h1
                  split at h1
                  · rename_i s' hs1; exact ⟨s', hs1, Nat.eq_of_beq_eq_true h1⟩
                  · cases h1
                · rw [List.any_eq_true] at h1
                  obtain ⟨q, hq, h1⟩ := h1
                  simp only [Bool.and_eq_true] at h1
                  have := oth ⟨q, hq, Nat.eq_of_beq_eq_true h1.1, Nat.eq_of_beq_eq_true h1.2⟩
                  rw [hgd] at this
                  exact this
              | some jb =>
                obtain ⟨j, b⟩ := jb
                rw [hgd] at hG
                obtain ⟨qv, w, hqv, hw, hrw⟩ := hG
                have hqx : ∃ q, (toIX its hs)[j]? = some q ∧ gv q.v = some w := ⟨_, by rw [toIX_get, hqv]; rfl, hw⟩
                have hvn : w ≠ some b → it.v = .tup [] := fun e => (hrF (by rw [hrw]; simpa using e)).1
                simp only []
                rcases hcov with (h1 | h1) | h1
                · have hk0 := Nat.eq_of_beq_eq_true h1
                  exact ⟨w, hqx, fun e => free hk0 (by rw [hrw, e]; simp), fun e => ⟨hvn e, fun hef => (sk0 hk0 hef).elim⟩⟩
                · rw [hrk] at h1
                  split at h1
                  · rename_i s' hs1
                    obtain ⟨k1, k2⟩ := own ⟨s', hs1, Nat.eq_of_beq_eq_true h1⟩
                    exact ⟨w, hqx, fun e => k1 (by rw [hrw, e]; simp), fun e => ⟨hvn e, k2 (by rw [hrw]; simpa using e)⟩⟩
                  · cases h1
                · rw [List.any_eq_true] at h1
                  obtain ⟨q, hq, h1⟩ := h1
                  simp only [Bool.and_eq_true] at h1
                  have := oth ⟨q, hq, Nat.eq_of_beq_eq_true h1.1, Nat.eq_of_beq_eq_true h1.2⟩
                  rw [hgd] at this
                  obtain ⟨r1, w1, k1, k2, k3, k4⟩ := this
                  rw [hqv] at k1
                  obtain rfl := Option.some.inj k1
                  rw [hw] at k2
                  obtain rfl := Option.some.inj k2
                  exact ⟨w, hqx, k3, fun e => ⟨hvn e, k4 e⟩⟩
          · cases h
        · cases h
      · cases h
    · cases h
  · cases h

theorem loopN_ok {self : Self} (hs : RunOK P self) {n f : Nat} {x : Code} {ks : List Nat} {m : Nat} : ∀ (k : Nat) (st : St) (e : Exit) (st' : St), loopN (fun st => self n f x st) ks m k st = some (e, st') → ∀ c Q, Q e st' → LW P c n x Q st := by
  intro k
  induction k with
  | zero => intro st e st' h; simp only [loopN, reduceCtorEq] at h
  | succ k ih =>
    intro st e st' h c Q hQ
    simp only [loopN] at h
    split at h
    · rename_i st1 h1
      split at h
      · rename_i tm1 htm
        rw [forceL_eq] at h
        have hrest := ih _ _ _ h c Q hQ
        refine lw_round (hs _ _ _ _ _ _ h1 _ _ ?_)
        show LW P c n x Q st1
        intro ρ S a w hr
        exact hrest ρ S a w (hr.drop (selF_ok _ _ htm) (gcH_get _ _ _))
      · cases h
    · rename_i hne
      refine lw_round (hs _ _ _ _ _ _ h _ _ ?_)
      cases e with
      | normal => exact (hne st' h).elim
      | exit id => exact hQ
      | goto l => exact hQ
      | ret => exact hQ
      | panic ch => exact hQ
      | outgrown => exact hQ

theorem runStep_ok {T : Cfg} (hw : ∀ cf, CFok P cf → CFok P (T.wrap cf)) (hm : P.follows .mixedOrders = true) {self : Self} (hs : RunOK P self) : RunOK P (runStep P T self) := by
  intro n f code st e st' h c Q hQ
  unfold runStep at h
  split at h
  · simp only [Option.some.injEq, Prod.mk.injEq] at h; obtain ⟨rfl, rfl⟩ := h; exact aw_skip hQ
  · simp only [Option.some.injEq, Prod.mk.injEq] at h; obtain ⟨rfl, rfl⟩ := h; exact aw_exit hQ
  · simp only [Option.some.injEq, Prod.mk.injEq] at h; obtain ⟨rfl, rfl⟩ := h; exact aw_ret hQ
  · rename_i x y
    split at h
    · rename_i st1 h1
      exact aw_seq (hs _ _ _ _ _ _ h1 _ _ (hs _ _ _ _ _ _ h _ _ hQ))
    · rename_i hne
      refine aw_seq (hs _ _ _ _ _ _ h _ _ ?_)
      cases e with
      | normal => exact (hne st' h).elim
      | exit id => exact hQ
      | goto l => exact hQ
      | ret => exact hQ
      | panic ch => exact hQ
      | outgrown => exact hQ
  · rename_i id x
    split at h
    · rename_i id' st1 h1
      refine aw_block (hs _ _ _ _ _ _ h1 _ _ ?_)
      show (if id' = id then Q .normal st1 else Q (.exit id') st1)
      split at h
      · rename_i he
        rw [if_pos (Nat.eq_of_beq_eq_true he)]
        simp only [Option.some.injEq, Prod.mk.injEq] at h; obtain ⟨rfl, rfl⟩ := h; exact hQ
      · rename_i he
        rw [if_neg (fun e => he (by rw [e]; exact Nat.beq_refl _))]
        simp only [Option.some.injEq, Prod.mk.injEq] at h; obtain ⟨rfl, rfl⟩ := h; exact hQ
    · rename_i hne
      refine aw_block (hs _ _ _ _ _ _ h _ _ ?_)
      cases e with
      | exit id' => exact (hne id' st' h).elim
      | normal => exact hQ
      | goto l => exact hQ
      | ret => exact hQ
      | panic ch => exact hQ
      | outgrown => exact hQ
  · split at h
    · rename_i ho; exact aw_yes (oeO ho) (hs _ _ _ _ _ _ h _ _ hQ)
    · rename_i ho; exact aw_no (oeO ho) (hs _ _ _ _ _ _ h _ _ hQ)
    · cases h
  · exact lw_loop (loopN_ok hs _ _ _ _ h _ _ hQ)
  · rename_i id ops
    split at h
    · rename_i pl hpl
      split at h
      · rename_i st1 h1
        simp only [Option.some.injEq, Prod.mk.injEq] at h
        obtain ⟨rfl, rfl⟩ := h
        have := drawn_ok (hw _ (callFn_ok hs)) hm (c := c) (id := id) h1 hQ
        simpa using this
      · cases h
    · cases h
  · rename_i id ops
    split at h
    · rename_i st1 h1
      simp only [Option.some.injEq, Prod.mk.injEq] at h
      obtain ⟨rfl, rfl⟩ := h
      have := aw_region (id := id) (runOps_ok (hw _ (callFn_ok hs)) (c := c) _ _ _ h1 hQ)
      simpa using this
    · cases h
  · cases h

theorem run_ok {T : Cfg} (hw : ∀ cf, CFok P cf → CFok P (T.wrap cf)) (hm : P.follows .mixedOrders = true) (n : Nat) : RunOK P (run P T n) := by
  induction n with
  | zero => intro n f code st e st' h; cases h
  | succ n ih => exact runStep_ok hw hm ih

/-- What a run comes to is what a call comes to. -/
theorem runF_ok {T : Cfg} (hw : ∀ cf, CFok P cf → CFok P (T.wrap cf)) (hm : P.follows .mixedOrders = true) (n : Nat) : CFok P (runF P T n) := hw _ (callFn_ok (run_ok hw hm n))

/-- What is known of a call out of what an operation does. -/
theorem AC.of_op {f : FuncId} {fn : Func} (hf : P.funcs[f]? = some fn) (hn : (fn.name == "runtime.NumGoroutine") = false ∧ fn.body.isNone = false) {args : List AV} {h : Heap} {nx : Nat} {r : AV} {h' : Heap} {nx' : Nat} (hdom : h.all (fun p => p.1 < nx) = true) (hle : nx ≤ nx')
    (hop : OpOK P (.call { callee := .value (.func f), args := ((List.range args.length).map fun i => Operand.tmp i).toArray, argTypes := #[] }) ⟨argTm args, h, nx⟩ r h' nx') (al : Bool) (hal : al = true ∨ (r.nosl = true ∧ h'.all (fun p => p.2.nosl) = true)) :
    AC P f args h nx al (fun a b c => a = r ∧ b = h' ∧ c = nx') := by
  intro ρ S w vals hsim hfresh hargs
  have hrep : Rep ⟨w, Own ρ h, S, ρ, nx⟩ vals.size ⟨argTm args, h, nx⟩ ρ S { tmps := vals, defers := [] } w := by
    have hsz := hargs.1
    refine ⟨rfl, rfl, fun i => ?_, hsim, ⟨rfl, rfl, rfl, Nat.le_refl _, fun _ _ _ => rfl, fun _ h => h, fun _ h => .inl h, fun b B r h1 h2 => .inl ⟨b, B, r, h1, h2, rfl⟩, fun _ _ => rfl⟩, hfresh, Nat.le_refl _, fun b B hb => by simpa using hall_get hdom hb⟩
    rw [tget_argTm, if_pos (Nat.zero_le _), Nat.sub_zero]
    by_cases hi : i < args.length
    · have h1 : args[i]? = some args[i] := List.getElem?_eq_getElem hi
      have h2 : i < vals.size := by omega
      rw [h1]
      have h3 : vals.getD i undef = vals[i] := by simp [Array.getD_eq_getD_getElem?, h2]
      rw [h3]
      exact hargs.2 i _ _ h1 (by simp [h2])
    · rw [List.getElem?_eq_none (by omega)]
      exact .top
  have hd := hop _ _ ρ S _ w hrep ⟨none, _, 0, "", #[], none⟩ rfl
  unfold Does at hd
  have hv : (((List.range args.length).map fun i => Operand.tmp i).toArray.map (Act.eval { tmps := vals, defers := [] })) = vals := by
    refine Array.ext_getElem? fun i => ?_
    have hsz := hargs.1
    by_cases hi : i < args.length
    · have h2 : i < vals.size := by omega
      simp [hi, h2, Act.eval, Array.getD_eq_getD_getElem?]
    · have h2 : ¬ i < vals.size := by omega
      simp [hi, h2]
  have hrun : (execOp (Act.eval { tmps := vals, defers := [] }) ⟨none, .call { callee := .value (.func f), args := ((List.range args.length).map fun i => Operand.tmp i).toArray, argTypes := #[] }, 0, "", #[], none⟩).run P w = .ok (.enter f vals) w := by
    unfold execOp
    have he : Act.eval { tmps := vals, defers := [] } (.func f) = .func (.func f) #[] #[] := rfl
    simp only [resolve, he, Deferred.ofValue, Sem.run_bind, Sem.run_pure, Result.andThen_ok, invoke, hv]
    have := AC.calls (P := P) hf hn (#[] ++ vals ++ #[]) w
    simpa using this
  rw [hrun] at hd
  simp only [] at hd
  refine Calls.mono hd ?_
  rintro e w' ⟨v, rfl, ρ', S', hr, hvr, hext, hS⟩
  have hp := hr.post
  have hown : ∀ b, Own ρ' h' b → Own ρ h b ∨ w.heap.size ≤ b := by
    rintro b ⟨i, B, r, h1, h2, rfl⟩
    exact hp.own i B r h1 h2
  rcases hal with hal | ⟨hn1, hn2⟩
  · exact ⟨v, r, h', nx', ρ', S', rfl, ⟨rfl, rfl, rfl⟩, hvr, hr.sim, hr.fresh, hr.dom, hp.os, hp.tape, hp.output, hp.size, hp.keep, hown, fun b hb => (hp.sNew b hb).imp (fun h => ⟨hal, h⟩) id, hp.ids⟩
  · refine ⟨v, r, h', nx', ρ', fun b => S' b ∧ w.heap.size ≤ b, rfl, ⟨rfl, rfl, rfl⟩, hvr.nosl hn1, ⟨fun b B hb => ?_, hr.sim.inj, fun b hb => hr.sim.lt b hb.1⟩, hr.fresh, hr.dom, hp.os, hp.tape, hp.output, hp.size, hp.keep, hown, fun b hb => .inr hb.2, hp.ids⟩
    rcases hr.sim.blk b B hb with ⟨q, h1, h2, h3, h4⟩ | hv
    · exact .inl ⟨q, h1, h2.nosl (hall_get hn2 hb), fun hs => h3 hs.1, h4⟩
    · exact .inr hv

theorem lendCF_ok {pu : Nat → Bool} {cf : CF} (hcf : CFok P cf) : CFok P (lendCF pu cf) := by
  intro f args h nx r h' nx' he
  unfold lendCF at he
  split at he
  · exact hcf _ _ _ _ _ _ _ he
  · rename_i p t
    split at he
    · split at he
      · rename_i u largs hl
        split at he
        · rename_i r0 h0 n0 hr
          split at he
          · rename_i hc
            rw [forceL_eq] at he
            simp only [Bool.and_eq_true] at hc
            obtain ⟨hns, hdm⟩ := hc
            simp only [Option.some.injEq, Prod.mk.injEq] at he
            obtain ⟨rfl, rfl, rfl⟩ := he
            obtain ⟨⟨fn, q1, q2, q3⟩, q4⟩ := hcf _ _ _ _ _ _ _ hr
            refine ⟨⟨fn, q1, q2, q3⟩, fun al hal => ?_⟩
            have hdom : (p :: t).all (fun p => p.1 < nx) = true := by
              rw [List.all_eq_true]
              intro x hx
              have := List.all_eq_true.1 hdm x hx
              simpa using this
            have eτ : swp [] 0 nx = fun b => b + nx := by
              funext b
              simp only [swp]
              rw [if_neg (by omega)]
            refine AC.of_op q1 ⟨q2, q3⟩ hdom (by omega) ?_ al hal
            have key := op_callg (P := P) (tm := argTm args) (h := p :: t) (nx := nx) (fo := .func f) (xs := ((List.range args.length).map fun i => Operand.tmp i).toArray) (ts := #[]) (first := []) (caps := []) [] 0 false [] [] (args := args) (largs := largs)
              (q4 false (.inr hns)) q1 ⟨q2, q3⟩ rfl ?_ rfl rfl (Nat.zero_le _) (fun p hp => by cases hp) rfl ?_ rfl rfl rfl
            · rw [eτ] at key
              intro c n ρ S a w hr o ho
              refine (key c n ρ S a w hr o ho).mono fun v w' ⟨ρ', S', k1, k2, k3, k4⟩ => ⟨ρ', S', ?_, k2, k3, k4⟩
              refine k1.drop (fun i => .inr rfl) (fun b B hb => ?_)
              rw [hget_append] at hb ⊢
              cases hx : hget (h0.map fun q => (q.1 + nx, q.2.ren fun b => b + nx)) b with
              | none =>
                rw [hx] at hb
                have hb : hget (p :: t) b = some B := by simpa using hb
                show (hget (p :: t) b).or _ = some B
                rw [hb]; rfl
              | some C =>
                rw [hx] at hb
                have hb : C = B := by simpa using hb
                subst hb
                obtain ⟨j, X, j1, j2, _⟩ := hget_map_ren h0 (fun b => b + nx) b C hx
                have hno : hget (p :: t) b = none := by
                  cases hy : hget (p :: t) b with
                  | none => rfl
                  | some D =>
                    have := hall_get hdom hy
                    simp only [decide_eq_true_eq] at this
                    omega
                show (hget (p :: t) b).or _ = some C
                rw [hno]; rfl
            · -- the arguments, in their slots
              have go : ∀ (l : List AV) (k : Nat) (pre : List AV), args = pre ++ l → pre.length = k → oevsS (argTm args) ((List.range' k l.length).map fun i => Operand.tmp i) = some l := by
                intro l
                induction l with
                | nil => intro k pre _ _; rfl
                | cons x l ih =>
                  intro k pre h1 h2
                  have hk : tgetS (argTm args) k = some x := by
                    have gen : ∀ (aa : List AV) (i j : Nat) (y : AV), aa[j]? = some y → tgetS (argTm aa i) (i + j) = some y := by
                      intro aa
                      induction aa with
                      | nil => intro i j y hy; simp at hy
                      | cons z aa ih2 =>
                        intro i j y hy
                        simp only [argTm, tgetS]
                        cases j with
                        | zero => simp only [List.getElem?_cons_zero, Option.some.injEq] at hy; subst hy; simp
                        | succ j =>
                          rw [if_neg (by omega), show i + (j + 1) = (i + 1) + j from by omega]
                          exact ih2 (i + 1) j y (by simpa using hy)
                    have := gen args 0 k x (by rw [h1, List.getElem?_append_right (by omega)]; simp [h2])
                    simpa using this
                  rw [List.length_cons, List.range'_succ, List.map_cons]
                  simp only [oevsS, oevS]
                  rw [hk, ih (k + 1) (pre ++ [x]) (by rw [h1]; simp) (by simp [h2])]
              have := go args 0 [] rfl rfl
              rw [← List.range_eq_range'] at this
              simpa using this
            · have := lends_ok _ _ _ _ hl (swp [] 0 nx)
              simpa using this
          · exact hcf _ _ _ _ _ _ _ he
        · exact hcf _ _ _ _ _ _ _ he
      · exact hcf _ _ _ _ _ _ _ he
    · exact hcf _ _ _ _ _ _ _ he

def enOK (e : EN) : Option (AV × Heap × Nat) → Bool
  | some (r, h, nx) => avEq r e.r && heapEq h e.h && Nat.beq nx e.nx
  | none => false

/-- Known calls. -/
inductive Tab (P : Program) (T : List EN → Cfg) : List EN → Prop
  | nil : Tab P T []
  | cons {e t} (n : Nat) (h : Tab P T t) (he : enOK e (runF P (T t) n e.f e.args [] 0) = true) : Tab P T (e :: t)

def okB : Option (AV × Heap × Nat) → Bool
  | some (.bool true, h, _) => h.all fun p => p.2.nosl
  | _ => false

def find1 {α : Type} : List (Nat × α) → Nat → Option α
  | [], _ => none
  | (k, p) :: u, id => match Nat.beq id k with
    | true => some p
    | false => find1 u id

def look2 (l : List (Nat × List (Nat × PL))) (f id : Nat) : Option PL :=
  match find1 l f with
  | some r => find1 r id
  | none => none

end
end Go.Proofs.YtloddmbbfkejcaaGreat.Abs
end
section
/- Facts on the program's types, as a program prints them off its dump. -/
namespace Go.Proofs.YtloddmbbfkejcaaGreat.Abs
theorem ones_of {z : Array Value} (h : z.toList.all (fun u => u.oneCell') = true) : ∀ (i : Nat) (u : Value), z[i]? = some u → u.oneCell' = true := fun i u hu =>
  List.all_eq_true.1 h u (by rw [← Array.getElem?_toList] at hu; exact List.mem_of_getElem? hu)
theorem z2 : (Tryz.prog.info? 2).map (·.size) = some 1 := by kernel_rfl
theorem i2 : (Tryz.prog.info? 2).map (fun i => (i.zero, i.size, i.bytes)) = some (some (.int .i64 0), 1, 8) := by kernel_rfl
theorem a2 : (Tryz.prog.info? 2).map (·.zero) = some (some (.int .i64 0)) := by kernel_rfl
theorem o2 : (Value.cells (.int .i64 0)).size = 1 ∧ ∀ (i : Nat) (u : Value), (Value.cells (.int .i64 0))[i]? = some u → u.oneCell' = true := ⟨rfl, ones_of rfl⟩
theorem i3 : (Tryz.prog.info? 3).map (fun i => (i.zero, i.size, i.bytes)) = some (some (.int .i64 0), 1, 8) := by kernel_rfl
theorem a3 : (Tryz.prog.info? 3).map (·.zero) = some (some (.int .i64 0)) := by kernel_rfl
theorem o3 : (Value.cells (.int .i64 0)).size = 1 ∧ ∀ (i : Nat) (u : Value), (Value.cells (.int .i64 0))[i]? = some u → u.oneCell' = true := ⟨rfl, ones_of rfl⟩
theorem i4 : (Tryz.prog.info? 4).map (fun i => (i.zero, i.size, i.bytes)) = some (some (.bool false), 1, 1) := by kernel_rfl
theorem a4 : (Tryz.prog.info? 4).map (·.zero) = some (some (.bool false)) := by kernel_rfl
theorem i5 : (Tryz.prog.info? 5).map (fun i => (i.zero, i.size, i.bytes)) = some (some (.int .u8 0), 1, 1) := by kernel_rfl
theorem a5 : (Tryz.prog.info? 5).map (·.zero) = some (some (.int .u8 0)) := by kernel_rfl
theorem a6 : (Tryz.prog.info? 6).map (·.zero) = some (some (.int .u8 0)) := by kernel_rfl
theorem a7 : (Tryz.prog.info? 7).map (·.zero) = some (some (.agg #[.int .i64 0, .int .i64 0, .bool false, .int .u8 0])) := by kernel_rfl
theorem z88 : (Tryz.prog.info? 88).map (·.size) = some 3 := by kernel_rfl
theorem i88 : (Tryz.prog.info? 88).map (fun i => (i.zero, i.size, i.bytes)) = some (some (.agg #[.int .i64 0, .int .i64 0, .int .i64 0]), 3, 24) := by kernel_rfl
theorem o88 : (Value.cells (.agg #[.int .i64 0, .int .i64 0, .int .i64 0])).size = 3 ∧ ∀ (i : Nat) (u : Value), (Value.cells (.agg #[.int .i64 0, .int .i64 0, .int .i64 0]))[i]? = some u → u.oneCell' = true := ⟨rfl, ones_of rfl⟩
theorem z97 : (Tryz.prog.info? 97).map (·.size) = some 2 := by kernel_rfl
theorem i97 : (Tryz.prog.info? 97).map (fun i => (i.zero, i.size, i.bytes)) = some (some (.agg #[.string ByteArray.empty, .slice none 0 0]), 2, 40) := by kernel_rfl
theorem o97 : (Value.cells (.agg #[.string ByteArray.empty, .slice none 0 0])).size = 2 ∧ ∀ (i : Nat) (u : Value), (Value.cells (.agg #[.string ByteArray.empty, .slice none 0 0]))[i]? = some u → u.oneCell' = true := ⟨rfl, ones_of rfl⟩
end Go.Proofs.YtloddmbbfkejcaaGreat.Abs
end
section
/-
  Regions whose order is open, with blocks that are made at any time: one walk in the text's order serves every order. It holds of any program.
-/
namespace Go.Proofs.YtloddmbbfkejcaaGreat.Abs

/-- Frame: what is no own block and is lent to nobody stays. -/
theorem OpOK.frame {P : Program} {c : Ctx} {n : Nat} {op : Op} {tm : List (Nat × AV)} {H H' : Heap} {X X' : Nat} {v : AV} {ρ : Rho} {S : Nat → Prop} {a : Act} {w : World} (h : OpOK P op ⟨tm, H, X⟩ v H' X') (hr : Rep c n ⟨tm, H, X⟩ ρ S a w) (o : Oper) (ho : o.op = op) :
    Does P o a w fun u w' => ∃ ρ' S', Rep c n ⟨tm, H', X'⟩ ρ' S' a w' ∧ VR S' w' ρ' v u ∧ (∀ b r, ρ b = some r → ρ' b = some r) ∧ (∀ b, S b → S' b ∧ w'.heap[b]? = w.heap[b]?) ∧ w.heap.size ≤ w'.heap.size ∧
      ∀ b, b < w.heap.size → ¬ S b → ¬ Own ρ H b → w'.heap[b]? = w.heap[b]? ∧ ¬ S' b ∧ ¬ Own ρ' H' b := by
  have hr' : Rep ⟨w, Own ρ H, S, ρ, X⟩ n ⟨tm, H, X⟩ ρ S a w :=
    ⟨hr.size, hr.defers, hr.tmps, hr.sim, ⟨rfl, rfl, rfl, Nat.le_refl _, fun _ _ _ => rfl, fun _ h => h, fun _ h => .inl h, fun b B r h1 h2 => .inl ⟨b, B, r, h1, h2, rfl⟩, fun _ _ => rfl⟩, hr.fresh, Nat.le_refl _, hr.dom⟩
  refine (h _ n ρ S a w hr' o ho).mono fun u w' ⟨ρ', S', h1, h2, h3, h4⟩ => ⟨ρ', S', ?_, h2, h3, h4, h1.post.size, fun b hb hS hO => ⟨h1.post.keep b hb hO, fun hs => ?_, fun ⟨i, B, r, e1, e2, e3⟩ => ?_⟩⟩
  · have hp := hr.post
    have hq := h1.post
    have hown : ∀ b, Own ρ H b → c.own0 b ∨ c.w0.heap.size ≤ b := by
      rintro b ⟨i, B, r, e1, e2, rfl⟩
      exact hp.own i B r e1 e2
    refine ⟨h1.size, h1.defers, h1.tmps, h1.sim, ⟨hq.os.trans hp.os, hq.tape.trans hp.tape, hq.output.trans hp.output, Nat.le_trans hp.size hq.size, fun b hb ho => ?_, fun b hb => hq.sIn b (hp.sIn b hb), fun b hb => ?_, fun b B r e1 e2 => ?_, fun b hb => ?_⟩, h1.fresh, Nat.le_trans hr.le h1.le, h1.dom⟩
    · refine (hq.keep b (Nat.lt_of_lt_of_le hb hp.size) (fun hO => ?_)).trans (hp.keep b hb ho)
      rcases hown b hO with h' | h'
      · exact ho h'
      · omega
    · rcases hq.sNew b hb with h' | h'
      · exact hp.sNew b h'
      · exact .inr (Nat.le_trans hp.size h')
    · rcases hq.own b B r e1 e2 with h' | h'
      · exact hown _ h'
      · exact .inr (Nat.le_trans hp.size h')
    · exact (hq.ids b (Nat.lt_of_lt_of_le hb hr.le)).trans (hp.ids b hb)
  · rcases h1.post.sNew b hs with h' | h'
    · exact hS h'
    · have : w.heap.size ≤ b := h'
      omega
  · subst e3
    rcases h1.post.own i B r e1 e2 with h' | h'
    · exact hO h'
    · have : w.heap.size ≤ r.blk := h'
      omega

/-- The making of a new block, whatever else there is. -/
def NewOp (P : Program) (op : Op) (v : AV) (F : Nat) (B : Blk) : Prop :=
  ∀ (c : Ctx) (n : Nat) (H : Heap) (X : Nat) (ρ : Rho) (S : Nat → Prop) (a : Act) (w : World), Rep c n ⟨[], H, X⟩ ρ S a w → ∀ o : Oper, o.op = op →
    Does P o a w fun u w' => Same w w' ∧ ∃ r : R, w.heap.size ≤ r.blk ∧ r.blk < w'.heap.size ∧
      ∀ (S' : Nat → Prop) (w2 : World) (ρ' : Rho), w2.heap[r.blk]? = w'.heap[r.blk]? → ρ' F = some r → VR S' w2 ρ' v u ∧ BR S' w2 ρ' r B

/-- Why at least so many of those that turn the heap have run. -/
inductive LoJ (its : List It) (fl : List Nat) (o : Oper) : Nat → Prop
  | zero : LoJ its fl o 0
  | eff {p : Nat} {q : It} (h1 : p ∈ edges o) (h2 : its[p]? = some q) (h3 : q.ef = true) (h4 : p ∉ fl) : LoJ its fl o (rank its p + 1)
  | le {p : Nat} {q : It} {b : Nat} (h1 : p ∈ edges o) (h2 : its[p]? = some q) (h3 : b ≤ q.lo) : LoJ its fl o b
  | flt {p : Nat} (h1 : p ∈ edges o) (h2 : p ∈ fl) (h3 : LoJ its fl o (rank its p)) : LoJ its fl o (rank its p + 1)

section
variable (l : List Oper) (its : List It) (m : Nat) (fl : List Nat)

structure PlanF : Prop where
  len : l.length = its.length
  up : ∀ (i : Nat) (o : Oper), l[i]? = some o → ∀ p ∈ edges o, p < i
  dist : ∀ (i j : Nat) (o o' : Oper) (d : Nat), l[i]? = some o → l[j]? = some o' → o.dst = some d → o'.dst = some d → i = j
  lo : ∀ (i : Nat) (o : Oper) (it : It), l[i]? = some o → its[i]? = some it → LoJ its fl o it.lo
  eff : ∀ (i : Nat) (it : It), its[i]? = some it → it.ef = true → (i ∉ fl → it.lo = rank its i) ∧ it.hi = rank its i ∧ rank its i < m
  hi : ∀ (i : Nat) (it : It), its[i]? = some it → m ≤ it.hi ∨ it.ef = true ∨ ∃ j o q, l[j]? = some o ∧ its[j]? = some q ∧ i ∈ edges o ∧ ((q.ef = true ∧ rank its j ≤ it.hi) ∨ q.hi ≤ it.hi)
  slots : ∀ (i : Nat) (o : Oper) (it : It), l[i]? = some o → its[i]? = some it → ∀ k ∈ it.ks, (∃ p ∈ edges o, ∃ o', l[p]? = some o' ∧ o'.dst = some k) ∨ ∀ (j : Nat) (o' : Oper), l[j]? = some o' → o'.dst = some k → i ∈ edges o'
  guard : ∀ (i : Nat) (o : Oper) (j : Nat) (b : Bool), l[i]? = some o → o.guard = some (j, b) → j ∈ edges o ∧ ∃ o' d, l[j]? = some o' ∧ o'.dst = some d
  fdep : ∀ (i : Nat) (o : Oper) (it : It), l[i]? = some o → its[i]? = some it → ∀ p ∈ edges o, p ∈ fl → rank its p + 1 ≤ it.lo
  flt : ∀ (i : Nat) (o : Oper) (it : It), l[i]? = some o → its[i]? = some it → i ∈ fl → it.ef = true ∧ o.guard = none ∧ ∃ d, o.dst = some d

end

def FlOK (P : Program) (l : List Oper) (its : List It) (hs : List (Heap × Nat)) (i : Nat) : Prop :=
  ∃ o it H X B, l[i]? = some o ∧ its[i]? = some it ∧ hs[rank its i]? = some (H, X) ∧ hs[rank its i + 1]? = some ((X, B) :: H, X + 1) ∧ NewOp P o.op it.v X B

def Kept (c : Ctx) (ρ : Rho) (S : Nat → Prop) (w : World) (H : Heap) (u : Value) (v : AV) (F : Nat) (B : Blk) (r : R) : Prop :=
  c.w0.heap.size ≤ r.blk ∧ r.blk < w.heap.size ∧ ¬ S r.blk ∧ ¬ Own ρ H r.blk ∧
    ∀ (S' : Nat → Prop) (w2 : World) (ρ' : Rho), w2.heap[r.blk]? = w.heap[r.blk]? → ρ' F = some r → VR S' w2 ρ' v u ∧ BR S' w2 ρ' r B

section
variable {P : Program} {c : Ctx} {n : Nat} {Q : Exit → St → Prop} {l : List Oper} {its : List It} {m : Nat} {fl : List Nat} {hs : List (Heap × Nat)} {tm0 : List (Nat × AV)}

/-- Made, but its turn in the text has not come yet. -/
def Early (its : List It) (fl : List Nat) (t : Array Bool) (s i : Nat) : Prop := i ∈ fl ∧ L t i ∧ s ≤ rank its i

structure WInv (c : Ctx) (n : Nat) (l : List Oper) (its : List It) (m : Nat) (fl : List Nat) (hs : List (Heap × Nat)) (tm0 : List (Nat × AV)) (t : Array Bool) (a : Act) (w : World) (s : Nat) : Prop where
  size : t.size = l.length
  closed : ∀ (i : Nat) (o : Oper), l[i]? = some o → L t i → ∀ p ∈ edges o, L t p
  st : ∀ (i : Nat) (it : It), its[i]? = some it → it.ef = true → i ∉ fl → (L t i ↔ rank its i < s)
  sf : ∀ (i : Nat) (it : It), its[i]? = some it → i ∈ fl → rank its i < s → L t i
  sm : s ≤ m
  rep : ∃ tm H X ρ S, ∃ q : Nat → R, hs[s]? = some (H, X) ∧ Rep c n ⟨tm, H, X⟩ ρ S a w ∧ (∀ (i : Nat) (o : Oper) (it : It) (x : Nat), l[i]? = some o → its[i]? = some it → o.dst = some x → L t i → ¬ Early its fl t s i → tget tm x = it.v) ∧
    (∀ x, (∀ (i : Nat) (o : Oper), l[i]? = some o → o.dst = some x → ¬ L t i) → tget tm x = tget tm0 x) ∧
    (∀ (i : Nat) (o : Oper) (it : It) (d : Nat) (Hk : Heap) (F : Nat) (B : Blk), Early its fl t s i → l[i]? = some o → its[i]? = some it → o.dst = some d → hs[rank its i]? = some (Hk, F) → hs[rank its i + 1]? = some ((F, B) :: Hk, F + 1) → Kept c ρ S w H (a.tmps.getD d undef) it.v F B (q i)) ∧
    ∀ i j, Early its fl t s i → Early its fl t s j → i ≠ j → (q i).blk ≠ (q j).blk

structure DInvF (c : Ctx) (n : Nat) (l : List Oper) (its : List It) (m : Nat) (fl : List Nat) (hs : List (Heap × Nat)) (tm0 : List (Nat × AV)) (t : Array Bool) (a : Act) (w : World) (s : Nat) : Prop where
  inv : WInv c n l its m fl hs tm0 t a w s
  up : ∀ i, Early its fl t s i → s ≠ rank its i

end

def Fls (P : Program) (l : List Oper) (its : List It) (hs : List (Heap × Nat)) : List Nat → Prop
  | [] => True
  | i :: r => (match l[i]?, its[i]?, hs[rank its i]?, hs[rank its i + 1]? with
    | some o, some it, some (H, X), some (h', x') => ∃ B, h' = (X, B) :: H ∧ x' = X + 1 ∧ NewOp P o.op it.v X B
    | _, _, _, _ => False) ∧ Fls P l its hs r

theorem Fls.get {P : Program} {l : List Oper} {its : List It} {hs : List (Heap × Nat)} : ∀ {fl : List Nat}, Fls P l its hs fl → ∀ i ∈ fl, FlOK P l its hs i := by
  intro fl
  induction fl with
  | nil => intro _ i hi; cases hi
  | cons j r ih =>
    intro h i hi
    rcases List.mem_cons.1 hi with rfl | hi
    · have h1 := h.1
      revert h1
      cases e1 : l[i]? with
      | none => intro h1; exact h1.elim
      | some o =>
        cases e2 : its[i]? with
        | none => intro h1; exact h1.elim
        | some it =>
          cases e3 : hs[rank its i]? with
          | none => intro h1; exact h1.elim
          | some p =>
            cases e4 : hs[rank its i + 1]? with
            | none => intro h1; exact h1.elim
            | some q =>
              obtain ⟨H, X⟩ := p
              obtain ⟨h', x'⟩ := q
              rintro ⟨B, rfl, rfl, h3⟩
              exact ⟨o, it, H, X, B, e1, e2, e3, e4, h3⟩
    · exact ih h.2 i hi

section
variable {P : Program} {c : Ctx} {n : Nat} {Q : Exit → St → Prop} {id : Nat}

variable {l done rest : List Oper} {st0 : St} {its : List It} {hs : List (Heap × Nat)} {fr : List Nat} {tm tm1 : List (Nat × AV)} {h : Heap} {nx : Nat} {op : Op} {ty : TypeId} {pos : String} {aft : Array Edge} {v : AV} {d : Nat}

end
end Go.Proofs.YtloddmbbfkejcaaGreat.Abs
end
section
/-
  A nil row within a variable as a row of one's own. It holds of any program.
-/
namespace Go.Proofs.YtloddmbbfkejcaaGreat.Abs

section
variable {P : Program} {c : Ctx} {n : Nat} {Q : Exit → St → Prop}

end

def Blk.plain : Blk → Bool
  | .cells _ xs => xs.all AV.plain
  | .map _ => false

/-- What a function leaves behind is forgotten. -/
theorem AC.drop {P : Program} {f : FuncId} {args : List AV} {h0 : Heap} {nx0 : Nat} {al : Bool} {Q Q' : AV → Heap → Nat → Prop} (k : AC P f args h0 nx0 al Q)
    (hq : ∀ r h nx, Q r h nx → ∃ h' nx', Q' r h' nx' ∧ nx0 ≤ nx' ∧ nx' ≤ nx ∧ r.plain = true ∧ ∀ b B, hget h' b = some B → hget h b = some B ∧ b < nx' ∧ B.plain = true) : AC P f args h0 nx0 al Q' := by
  intro ρ S w vals h1 h2 h3
  refine (k ρ S w vals h1 h2 h3).mono fun e w' ⟨v, r, h, nx, ρ', S', a1, a2, a3, a4, a5, a6, a7⟩ => ?_
  obtain ⟨h', nx', q1, q2, q3, q4, q5⟩ := hq r h nx a2
  have e1 : ∀ b, b < nx' → (fun b => if b < nx' then ρ' b else none : Rho) b = ρ' b := fun b hb => if_pos hb
  refine ⟨v, r, h', nx', fun b => if b < nx' then ρ' b else none, S', a1, q1, a3.plain q4, ⟨fun b B hb => ?_, fun b b' B B' r1 r2 hb hb' hr1 hr2 hne => ?_, a4.lt⟩, fun b hb => if_neg (by omega), fun b B hb => (q5 b B hb).2.1, a7.os, a7.tape, a7.output, a7.size, a7.keep, fun b ⟨i, B, r1, o1, o2, o3⟩ => ?_, a7.s, fun b hb => (e1 b (by omega)).trans (a7.ids b hb)⟩
  · obtain ⟨g1, g2, g3⟩ := q5 b B hb
    rcases a4.blk b B g1 with ⟨r1, k1, k2, k3, k4⟩ | ⟨k1, k2⟩
    · refine .inl ⟨r1, (e1 b g2).trans k1, ?_, k3, k4⟩
      cases B with
      | cells sz xs =>
        obtain ⟨m1, m2, m3, m4, cur, e, m5, m6, m7, m8⟩ := k2
        exact ⟨m1, m2, m3, m4, cur, e, m5, m6, m7, fun i x u hx hu => (m8 i x u hx hu).plain (List.all_eq_true.1 (plain_flat g3) x (List.mem_of_getElem? hx))⟩
      | map es => cases g3
    · exact .inr ⟨(e1 b g2).trans k1, k2⟩
  · obtain ⟨g1, g2, _⟩ := q5 b B hb
    obtain ⟨g1', g2', _⟩ := q5 b' B' hb'
    exact a4.inj b b' B B' r1 r2 g1 g1' ((e1 b g2).symm.trans hr1) ((e1 b' g2').symm.trans hr2) hne
  · obtain ⟨g1, g2, _⟩ := q5 i B o1
    exact a7.own b ⟨i, B, r1, g1, (e1 i g2).symm.trans o2, o3⟩

theorem AC.yes {P : Program} {f : FuncId} {args : List AV} {al : Bool} (k : AC P f args [] 0 al (fun r _ _ => r = .bool true)) : AC P f args [] 0 al (fun r h nx => r = .bool true ∧ h = [] ∧ nx = 0) :=
  k.drop fun r h nx hr => ⟨[], 0, ⟨hr, rfl, rfl⟩, Nat.le_refl _, Nat.zero_le _, by rw [hr]; rfl, fun b B hb => by cases hb⟩

end Go.Proofs.YtloddmbbfkejcaaGreat.Abs
end
section
/-
  What a function answers, said under other names, with blocks forgotten. It holds of any program.
-/
namespace Go.Proofs.YtloddmbbfkejcaaGreat.Abs

theorem AC.le {P : Program} {f : FuncId} {args : List AV} {h0 : Heap} {nx0 : Nat} {al : Bool} {Q Q' : AV → Heap → Nat → Prop} (k : AC P f args h0 nx0 al Q)
    (hq : ∀ r h nx, Q r h nx → nx0 ≤ nx ∧ ∃ r' h' nx', Q' r' h' nx' ∧ ∀ c : Ctx, c.nx0 = nx0 → Le c 1 ⟨[(0, r)], h, nx⟩ ⟨[(0, r')], h', nx'⟩) : AC P f args h0 nx0 al Q' := by
  intro ρ S w vals h1 h2 h3
  refine (k ρ S w vals h1 h2 h3).mono fun e w' ⟨v, r, h, nx, ρ', S', a1, a2, a3, a4, a5, a6, a7⟩ => ?_
  obtain ⟨q1, r', h', nx', q2, q3⟩ := hq r h nx a2
  have hr : Rep ⟨w, Own ρ h0, S', ρ, nx0⟩ 1 ⟨[(0, r)], h, nx⟩ ρ' S' { tmps := #[v], defers := [] } w' := by
    refine ⟨rfl, rfl, fun i => ?_, a4, ⟨a7.os, a7.tape, a7.output, a7.size, a7.keep, fun _ h => h, fun _ h => .inl h, fun b B q o1 o2 => a7.own q.blk ⟨b, B, q, o1, o2, rfl⟩, a7.ids⟩, a5, q1, a6⟩
    cases i with
    | zero => exact a3
    | succ i => exact .top
  obtain ⟨ρ2, hr2⟩ := q3 _ rfl _ _ _ _ hr
  refine ⟨v, r', h', nx', ρ2, S', a1, q2, hr2.tmps 0, hr2.sim, hr2.fresh, hr2.dom, a7.os, a7.tape, a7.output, a7.size, a7.keep, fun b ⟨i, B, q, o1, o2, o3⟩ => ?_, a7.s, hr2.post.ids⟩
  subst o3
  exact hr2.post.own i B q o1 o2

end Go.Proofs.YtloddmbbfkejcaaGreat.Abs
end
section
/-
  What an argument's row has room for: cap, cuts beyond the length, zeros behind it in a new row; copy; slices.overlaps of two rows. It holds of any program.
-/
namespace Go.Proofs.YtloddmbbfkejcaaGreat.Abs

/-- What an operation does in a given context. -/
def OpC (P : Program) (c : Ctx) (n : Nat) (op : Op) (st : St) (v : AV) (h' : Heap) (nx' : Nat) : Prop :=
  ∀ (ρ : Rho) (S : Nat → Prop) (a : Act) (w : World), Rep c n st ρ S a w → ∀ o : Oper, o.op = op → Does P o a w fun u w' => ∃ ρ' S', Rep c n ⟨st.tm, h', nx'⟩ ρ' S' a w' ∧ VR S' w' ρ' v u

theorem st_c {P : Program} {c : Ctx} {n : Nat} {Q : Exit → St → Prop} {ops : Array Oper} {tm : List (Nat × AV)} {hp : Heap} {nx : Nat} {d : Nat} {op : Op} {ty : TypeId} {pos : String} {after : Array Edge} {rst : List Oper} {v : AV} {h' : Heap} {nx' : Nat}
    (h : OpC P c n op ⟨tm, hp, nx⟩ v h' nx') (hd : Nat.blt d n = true) (k : AL P c n ops Q rst ⟨(d, v) :: tm, h', nx'⟩) : AL P c n ops Q (⟨some d, op, ty, pos, after, none⟩ :: rst) ⟨tm, hp, nx⟩ := fun ρ S a w hr => by
  unfold wpList
  rw [if_pos (by simp [Region.wanted])]
  refine .inl ((h ρ S a w hr _ rfl).wp fun u w' ⟨ρ', S', h3, h4⟩ => ?_)
  exact k ρ' S' _ w' (h3.putA (some d) (blt_of hd) h4)

/-- How much room a row has that was handed over. -/
def capR (r0 : Rho) (b : Nat) : Nat := match r0 b with | some r => r.cap | none => 0

section
variable {P : Program} {n : Nat} {w0 : World} {o0 : Nat → Prop} {S0 : Nat → Prop} {r0 : Rho} {nx0 : Nat} {Q : Exit → St → Prop}

theorem capR_of {st : St} {ρ : Rho} {S : Nat → Prop} {a : Act} {w : World} (hr : Rep ⟨w0, o0, S0, r0, nx0⟩ n st ρ S a w) {b : Nat} {r : R} (hb : b < nx0) (hq : ρ b = some r) : capR r0 b = r.cap := by
  have := hr.post.ids b hb
  unfold capR
  rw [show r0 b = some r from this.symm.trans hq]

theorem opc_cap {tm : List (Nat × AV)} {h : Heap} {nx : Nat} {t e : TypeId} {x : Operand} {b st len : Nat} (hu : P.underlying t = some (.slice e)) (hx : oev tm x = .own b st len) (hl : 0 < len) (hb : b < nx0) :
    OpC P ⟨w0, o0, S0, r0, nx0⟩ n (.call { callee := .builtin .cap, args := #[x], argTypes := #[t] }) ⟨tm, h, nx⟩ (.int .i64 ((capR r0 b - st : Nat) : Int)) h nx := fun ρ S a w hr o ho => by
  have hv := ev_vr hr hx
  generalize he : a.eval x = v at hv
  cases hv with
  | own0 => omega
  | @own _ _ _ _ r c q1 q2 q3 =>
    have hc : capR r0 b - st = c := by rw [capR_of hr hb q1]; omega
    have hrun : (execOp a.eval o).run P w = .ok (.value (.int .i64 (c : Int))) w := by
      unfold execOp; rw [ho]; simp [resolve, invoke, builtin, he, Builtin.cap_, run_underlying hu, goInt]
    unfold Does
    rw [hrun, hc]
    exact ⟨ρ, S, hr, .int⟩

def junk (sz : Nat) : AV := if sz = 1 then .top else .agg (List.replicate sz .top)
theorem junk_len (sz : Nat) : (junk sz).cells.length = sz := by
  unfold junk
  split
  · rename_i h; rw [h]; rfl
  · simp [AV.cells]

/-- The room behind a row is a part of it, of which nothing is told. -/
theorem aw_room {code : Code} {tm : List (Nat × AV)} {h h' : Heap} {nx : Nat} (b : Nat) {sz : Nat} {xs : List AV} (hb : hget h b = some (.cells sz xs)) (hbn : b < nx0) (hh : hsetS h b (.cells sz (xs ++ List.replicate (capR r0 b - xs.length) (junk sz))) = some h')
    (k : AW P ⟨w0, o0, S0, r0, nx0⟩ n code Q ⟨tm, h', nx⟩) : AW P ⟨w0, o0, S0, r0, nx0⟩ n code Q ⟨tm, h, nx⟩ := fun ρ S a w hr => by
  have hh := hsetS_spec _ _ _ _ hh
  have hg : ∀ k X, hget h' k = some X → (k = b ∧ X = .cells sz (xs ++ List.replicate (capR r0 b - xs.length) (junk sz))) ∨ (k ≠ b ∧ hget h k = some X) := fun k X hk => by
    rw [← hh, hget_set] at hk
    by_cases e : b = k
    · rw [if_pos e] at hk; exact .inl ⟨e.symm, (Option.some.inj hk).symm⟩
    · rw [if_neg e] at hk; exact .inr ⟨fun e' => e e'.symm, hk⟩
  have old : ∀ k X, hget h' k = some X → ∃ Y, hget h k = some Y := fun k X hk => by
    rcases hg k X hk with ⟨rfl, _⟩ | ⟨_, h2⟩
    · exact ⟨_, hb⟩
    · exact ⟨_, h2⟩
  refine k ρ S a w ⟨hr.size, hr.defers, hr.tmps, ⟨fun k X hk => ?_, fun k k' X X' q q' hk hk' hq hq' hne => ?_, hr.sim.lt⟩, ⟨hr.post.os, hr.post.tape, hr.post.output, hr.post.size, hr.post.keep, hr.post.sIn, hr.post.sNew, fun k X q hk hq => ?_, hr.post.ids⟩, hr.fresh, hr.le, fun k X hk => ?_⟩
  · rcases hg k X hk with ⟨rfl, rfl⟩ | ⟨_, h2⟩
    · rcases hr.sim.blk k _ hb with ⟨r, q1, q2, q3, q4⟩ | ⟨q1, sz', e⟩
      · refine .inl ⟨r, q1, ?_, q3, q4⟩
        obtain ⟨g1, g2, g3, g4, cur, e, g5, g6, g7, g8⟩ := q2
        have hc := capR_of hr hbn q1
        have hall : ∀ x ∈ xs ++ List.replicate (capR r0 k - xs.length) (junk sz), x.cells.length = sz := fun x hx => by
          rcases List.mem_append.1 hx with hx | hx
          · exact g2 x hx
          · rw [(List.mem_replicate.1 hx).2]; exact junk_len sz
        refine ⟨g1, hall, by rw [List.length_append, List.length_replicate, hc]; omega, g4, cur, e, g5, g6, g7, fun i x u hx hu => ?_⟩
        rw [flat_append] at hx
        rcases Nat.lt_or_ge i (flat xs).length with h1 | h1
        · rw [List.getElem?_append_left h1] at hx
          exact g8 i x u hx hu
        · rw [List.getElem?_append_right h1] at hx
          have hm := List.mem_of_getElem? hx
          obtain ⟨y, hy, hxy⟩ := List.mem_flatMap.1 hm
          rw [(List.mem_replicate.1 hy).2] at hxy
          have : x = .top := by
            unfold junk at hxy
            split at hxy
            · simpa [AV.cells] using hxy
            · exact (List.mem_replicate.1 (by simpa [AV.cells] using hxy)).2
          rw [this]
          exact .top
      · have hc : capR r0 k = 0 := by
          unfold capR
          have := hr.post.ids k hbn
          rw [show r0 k = none from this.symm.trans q1]
        simp only [Blk.cells.injEq] at e
        obtain ⟨rfl, rfl⟩ := e
        exact .inr ⟨q1, sz, by rw [hc]; rfl⟩
    · exact hr.sim.blk k X h2
  · obtain ⟨Y, hY⟩ := old k X hk
    obtain ⟨Y', hY'⟩ := old k' X' hk'
    exact hr.sim.inj k k' Y Y' q q' hY hY' hq hq' hne
  · obtain ⟨Y, hY⟩ := old k X hk
    exact hr.post.own k Y q hY hq
  · obtain ⟨Y, hY⟩ := old k X hk
    exact hr.dom k Y hY

/-- Zeros behind a part of a row that has no room for them: a new row. -/
theorem opc_appZg {tm : List (Nat × AV)} {h : Heap} {nx : Nat} {t ti e : TypeId} {k kx : IntKind} {z : Value} {v : AV} {sz bytes b len : Nat} {xs : List AV} {x y : Operand} {m : Int} (ht : P.underlying t = some (.slice e)) (hti : P.underlying ti = some (.int k))
    (hi : (P.info? e).map (fun i => (i.zero, i.size, i.bytes)) = some (some z, sz, bytes)) (hzs : z.cells.size = sz ∧ ∀ (i : Nat) (u : Value), z.cells[i]? = some u → u.oneCell' = true) (hs : 0 < sz) (hv : ofConst z = v) (hvk : v.known = true)
    (hx : oev tm x = .own b 0 len) (hy : oev tm y = .int kx m) (hm : 0 < m) (hb : hget h b = some (.cells sz xs)) (hbn : b < nx0) (hlen : len ≤ xs.length) (hg : (capR r0 b : Int) < len + m) (hb2 : ((len : Int) + m) * bytes ≤ 140737488355328) (hb3 : (len : Int) + m ≤ 140737488355328) :
    OpC P ⟨w0, o0, S0, r0, nx0⟩ n (.call { callee := .builtin .append, args := #[x, y], argTypes := #[t, ti] }) ⟨tm, h, nx⟩ (.own nx 0 (len + m.toNat)) ((nx, .cells sz (xs.take len ++ List.replicate m.toNat v)) :: h) (nx + 1) := fun ρ S a w hr o ho => by
  obtain ⟨q, rfl⟩ : ∃ q : Nat, m = q := ⟨m.toNat, by omega⟩
  rw [Int.toNat_natCast]
  obtain ⟨i, e1, e2⟩ := Option.map_eq_some_iff.1 hi
  obtain ⟨e3, e4, e5⟩ : i.zero = some z ∧ i.size = sz ∧ i.bytes = bytes := by
    have := e2; simp only [Prod.mk.injEq] at this; exact this
  have hvr : VR S w ρ v z := hv ▸ ofConst_VR S w ρ z
  obtain ⟨v1, v2, v3⟩ := hvr.cells hvk
  have hyv := ev_int hr hy
  have hxv := ev_vr hr hx
  -- the part in the world
  obtain ⟨A, cp, olds, t1, t2, t3, t4, t5, t6, t7⟩ : ∃ (A : Option Addr) (cp : Nat) (olds : List Value), a.eval x = .slice A len cp ∧ cp < len + q ∧ olds.length = len * sz ∧ (∀ u ∈ olds, u.oneCell' = true) ∧
      (Builtin.firstCells sz len (.slice A len cp)).run P w.drew = .ok olds.toArray w.drew ∧ (∀ (j : Nat) (y : AV) (u : Value), (flat (xs.take len))[j]? = some y → olds[j]? = some u → VR S w ρ y u) ∧ (∀ q ∈ xs.take len, q.cells.length = sz) := by
    generalize a.eval x = u at hxv
    cases hxv with
    | @own0 _ _ _ A => exact ⟨A, 0, [], rfl, by omega, by simp, fun u hu => by simp at hu, by cases A <;> simp [Builtin.firstCells, loadCells, loadCellsFrom], fun j y u hy hu => by simp at hu, fun q hq => by simp at hq⟩
    | @own _ _ _ _ r cp q1 q2 q3 =>
      rw [Nat.zero_add] at q3
      obtain ⟨g1, g2, k1, k2, k3, k4, cur, el, k5, k6, k7, k8⟩ := blk_of hr hb q1
      have hc := capR_of hr hbn q1
      have hmm : len * sz ≤ cur.size := by rw [k6]; exact Nat.mul_le_mul_right _ (by omega)
      have hol : (cur.toList.take (len * sz)).length = len * sz := by rw [List.length_take, Array.length_toList]; omega
      refine ⟨some ⟨r.blk, 0, none⟩, cp, cur.toList.take (len * sz), by rw [Nat.zero_mul], by omega, hol, fun u hu => ?_, ?_, fun j y u hy hu => ?_, fun q hq => k2 q (List.mem_of_mem_take hq)⟩
      · obtain ⟨j, hj⟩ := List.getElem?_of_mem (List.mem_of_mem_take hu)
        rw [Array.getElem?_toList] at hj
        exact k7 j u hj
      · refine run_firstCells_some w.drew sz len ⟨r.blk, 0, none⟩ len cp _ hol (fun j v hj => ?_)
        have hjl : j < len * sz := by
          rcases Nat.lt_or_ge j (len * sz) with hh | hh
          · exact hh
          · rw [List.getElem?_take, if_neg (by omega)] at hj; cases hj
        rw [List.getElem?_take_of_lt hjl, Array.getElem?_toList] at hj
        rw [Addr.add_lit, Nat.zero_add]
        show w.cell? ⟨r.blk, j, none⟩ = some v
        rw [cell_of k5]
        exact hj
      · have hjl : j < len * sz := by
          rcases Nat.lt_or_ge j (len * sz) with hh | hh
          · exact hh
          · rw [List.getElem?_take, if_neg (by omega)] at hu; cases hu
        rw [List.getElem?_take_of_lt hjl, Array.getElem?_toList] at hu
        have := flat_get k2 0 len j (by omega) hjl
        rw [List.drop_zero, Nat.zero_mul, Nat.zero_add] at this
        rw [this] at hy
        exact k8 j y u hy hu
  have hb2n : (len + q) * bytes ≤ 140737488355328 := by
    have : (((len + q) * bytes : Nat) : Int) ≤ 140737488355328 := by rw [Int.natCast_mul, Int.natCast_add]; exact hb2
    omega
  have hq48 : q * bytes ≤ (len + q) * bytes := Nat.mul_le_mul_right _ (by omega)
  have hge := grownCap_ge w (len + q) cp e
  have hcm := grownCap_le_maxLen w (len + q) cp e (by unfold maxLen; omega)
  rw [← e4] at t5
  have hrun := Lib.run_append_grow_zeros (P := P) w t ti o.type e i z kx k ht hti e1 e3 A len cp olds t5 q (by omega) (by rw [e4]; exact hs) t2 (by omega) (by rw [e5]; omega) (growslice_fits t2 (by rw [e5]; exact hb2n))
  have hvc : v.cells.length = sz := v1.symm.trans hzs.1
  have hall : ∀ p ∈ xs.take len ++ List.replicate q v, p.cells.length = sz := fun p hp => (List.mem_append.1 hp).elim (t7 p) (fun h => by rw [(List.mem_replicate.1 h).2]; exact hvc)
  have hxl : (xs.take len).length = len := by rw [List.length_take]; omega
  have hlen2 : (xs.take len ++ List.replicate q v).length = len + q := by rw [List.length_append, hxl, List.length_replicate]
  have hfl : (flat (xs.take len)).length = len * sz := by rw [flat_len t7, hxl]
  have hcs : (olds.toArray ++ Builtin.zeroCells z.cells q ++ Builtin.zeroCells z.cells (grownCap w (len + q) cp e - (len + q))).size = grownCap w (len + q) cp e * sz := by
    simp only [Array.size_append, List.size_toArray, size_zeroCells, hzs.1, t3, ← Nat.add_mul]
    congr 1
    omega
  have hrep := hr.newBlk (Same.drew w) (olds.toArray ++ Builtin.zeroCells z.cells q ++ Builtin.zeroCells z.cells (grownCap w (len + q) cp e - (len + q))) e (grownCap w (len + q) cp e) sz (xs.take len ++ List.replicate q v) hall (by rw [hlen2]; exact hge) hcm hcs (fun j u hu => by
      rw [Array.getElem?_append] at hu
      split at hu
      · rw [Array.getElem?_append] at hu
        split at hu
        · exact t4 u (by rw [← List.mem_toArray]; exact Array.mem_of_getElem? hu)
        · exact zeroCells_one hzs.2 hu
      · exact zeroCells_one hzs.2 hu) (fun j p u hp hu => by
      have hjl : j < (len + q) * sz := by
        have := (List.getElem?_eq_some_iff.1 hp).1
        rwa [flat_len hall, hlen2] at this
      rw [Array.getElem?_append_left (by simp only [Array.size_append, List.size_toArray, size_zeroCells, hzs.1, t3, ← Nat.add_mul]; exact hjl)] at hu
      rw [flat_append] at hp
      rcases Nat.lt_or_ge j (len * sz) with h1 | h1
      · rw [List.getElem?_append_left (by omega)] at hp
        rw [Array.getElem?_append_left (by rw [List.size_toArray, t3]; exact h1), List.getElem?_toArray] at hu
        exact t6 j p u hp hu
      · rw [List.getElem?_append_right (by omega), hfl] at hp
        rw [Array.getElem?_append_right (by rw [List.size_toArray, t3]; exact h1), List.size_toArray, t3] at hu
        have hj2 : j - len * sz < q * sz := by rw [Nat.add_mul] at hjl; omega
        rw [flat_replicate hvc hs hj2] at hp
        have hu2 : z.cells[(j - len * sz) % sz]? = some u := by
          have hm : (j - len * sz) % z.cells.size < z.cells.size := Nat.mod_lt _ (by rw [hzs.1]; exact hs)
          unfold Builtin.zeroCells at hu
          rw [Array.getElem?_map, Array.getElem?_range, if_pos (by rw [hzs.1]; exact hj2)] at hu
          simp only [Option.map_some, Option.some.injEq] at hu
          rw [hzs.1] at hm
          rw [← hu, hzs.1, getElem!_pos z.cells _ (by rw [hzs.1]; exact hm)]
          simp [hzs.1, hm]
        exact v3 _ p u hp hu2) (fun _ _ h => h)
  unfold Does
  have hex : (execOp a.eval o).run P w = .ok (.value (.slice (some ⟨w.heap.size, 0, none⟩) (len + q) (grownCap w (len + q) cp e))) (w.drew.alloc (.cells (olds.toArray ++ Builtin.zeroCells z.cells q ++ Builtin.zeroCells z.cells (grownCap w (len + q) cp e - (len + q))) e)) := by
    unfold execOp; rw [ho]
    simp only [resolve, invoke, builtin, Sem.run_bind, Sem.run_pure, Result.andThen_ok, List.map_toArray, List.map_cons, List.map_nil, t1, hyv, hrun]
  rw [hex]
  exact ⟨_, S, hrep, .own_at0 (upd_self _ _ _) hge rfl⟩
end

end Go.Proofs.YtloddmbbfkejcaaGreat.Abs
end
section
/-
  Cuts beyond a row's length, copy, slices.overlaps. It holds of any program.
-/
namespace Go.Proofs.YtloddmbbfkejcaaGreat.Abs

section
variable {P : Program} {tm : List (Nat × AV)} {h : Heap} {nx : Nat}

/-- A part of a row of one's own, up to what it has room for. -/
theorem op_sliceC {t e : TypeId} {x : Operand} {lo hi : Option Operand} {sz b st len : Nat} {xs : List AV} {l m : Int} (hu : P.underlying t = some (.slice e)) (hz : (P.info? e).map (·.size) = some sz) (hx : oev tm x = .own b st len) (hb : hget h b = some (.cells sz xs)) (hl : Bd tm lo 0 l) (hm : Bd tm hi len m) (h0 : 0 ≤ l) (h1 : l ≤ m)
    (hpos : 0 < len) (h2 : (st : Int) + m ≤ xs.length) : OpP P (.slice t x lo hi none) tm h (.own b (st + l.toNat) (m.toNat - l.toNat)) := fun c n nx ρ S a w hr => by
  have hv := ev_vr hr hx
  generalize he : a.eval x = v at hv
  have key : ∀ (A : Option Addr) (cp : Nat), a.eval x = .slice A len cp → m ≤ cp → ∀ o : Oper, o.op = .slice t x lo hi none → (execOp a.eval o).run P w = .ok (.value (.slice (if cp = l.toNat then A else A.map (·.add (l.toNat * sz))) (m.toNat - l.toNat) (cp - l.toNat))) w := by
    intro A cp hA hcp o ho
    have hb := run_bounds (P := P) (isSlice := true) (len := len) (cap := cp) (bd_eval hr hl) (bd_eval hr hm) h0 h1 hcp w
    unfold execOp; rw [ho]
    simp only [Instr.sliceAt, Sem.run_bind, run_underlying hu, Result.andThen_ok, Instr.slice, hA, hb, run_sizeOf hz, Sem.run_pure, Option.map_none]
  cases hv with
  | own0 => omega
  | @own _ _ _ _ r cp q1 q2 q3 =>
    obtain ⟨_, _, k1, k2, k3, _⟩ := blk_of hr hb q1
    refine ⟨_, key _ _ he (by omega), ?_⟩
    by_cases h3 : cp = l.toNat
    · have e0 : m.toNat - l.toNat = 0 := by omega
      rw [if_pos h3, e0, h3, Nat.sub_self]
      exact .own0
    · rw [if_neg h3, Option.map_some, Addr.add_lit]
      have := VR.own (S := S) (w := w) (ρ := ρ) (b := b) (st := st + l.toNat) (len := m.toNat - l.toNat) (c := cp - l.toNat) q1 (by omega) (by omega)
      rw [Nat.add_mul, k1] at this
      rw [k1]
      exact this

/-- copy into a row of one's own. -/
theorem op_copy {t t' e : TypeId} {x y : Operand} {sz b st len : Nat} {xs ys : List AV} {T : AV} (hu : P.underlying t = some (.slice e)) (hz : (P.info? e).map (·.size) = some sz) (hx : oev tm x = .own b st len) (hpos : 0 < len) (hb : hget h b = some (.cells sz xs)) (hlen : st + len ≤ xs.length)
    (hy : oev tm y = T) (hsrc : SrcA h T sz ys) : OpOK P (.call { callee := .builtin .copy, args := #[x, y], argTypes := #[t, t'] }) ⟨tm, h, nx⟩ (.int .i64 ((min ys.length len : Nat) : Int)) (hset h b (.cells sz (xs.take st ++ ys.take (min ys.length len) ++ xs.drop (st + min ys.length len)))) nx := OpOK.of fun c n ρ S a w hr => by
  have hv := ev_vr hr hx
  obtain ⟨A, cp', news, s1, s2, s3, s4, s5, s6, s7⟩ := hsrc.read hr (ev_vr hr hy)
  generalize hev : a.eval x = u at hv
  cases hv with
  | own0 => omega
  | @own _ _ _ _ r cp q1 q2 q3 =>
  obtain ⟨g1, g2, k1, k2, k3, k4, cur, el, k5, k6, k7, k8⟩ := blk_of hr hb q1
  generalize hm : min ys.length len = m
  have hm1 : m ≤ ys.length := by omega
  have hm2 : m ≤ len := by omega
  have hmin : Nat.min ys.length len = m := hm
  have hnl : (news.take (m * sz)).length = m * sz := by
    have := Nat.mul_le_mul_right sz hm1
    rw [List.length_take, s3]; omega
  have hf : (Builtin.firstCells sz m (a.eval y)).run P w = .ok (news.take (m * sz)).toArray w := by
    rw [s1]
    by_cases he : ys = []
    · subst he
      have h0 : m = 0 := by simp at hm1; omega
      subst h0
      have hn0 : news = [] := List.eq_nil_of_length_eq_zero (by rw [s3]; simp)
      subst hn0
      cases A <;> simp [Builtin.firstCells, loadCells, loadCellsFrom]
    · obtain ⟨blk, off, rfl, hc⟩ := s5 he
      refine run_firstCells_some (w := w) sz m ⟨blk, off, none⟩ ys.length cp' _ hnl fun j v hj => ?_
      rw [Addr.add_lit]
      have hj2 : j < m * sz := by
        have := (List.getElem?_eq_some_iff.1 hj).1
        omega
      rw [List.getElem?_take_of_lt hj2] at hj
      exact hc j v hj
  have hfit : (st + m) * sz ≤ cur.size := by rw [k6]; exact Nat.mul_le_mul_right _ (by omega)
  rw [Nat.add_mul] at hfit
  have hst := run_storeCells_at P r.blk (st * sz) el (news.take (m * sz)) 0 cur w k5 (by rw [hnl]; omega) (fun u hu => s6 u (List.mem_of_mem_take hu))
  rw [Nat.add_zero, hnl] at hst
  generalize hcs : (cur.toList.take (st * sz) ++ news.take (m * sz) ++ cur.toList.drop (st * sz + m * sz)).toArray = cs at hst
  have hget : ∀ j, cs[j]? = if st * sz ≤ j ∧ j < st * sz + m * sz then news[j - st * sz]? else cur[j]? := by
    intro j
    rw [← hcs, List.getElem?_toArray, List.append_assoc]
    rcases Nat.lt_or_ge j (st * sz) with h1 | h1
    · rw [List.getElem?_append_left (by rw [List.length_take, Array.length_toList]; omega), List.getElem?_take_of_lt h1, Array.getElem?_toList, if_neg (by omega)]
    · rw [List.getElem?_append_right (by rw [List.length_take, Array.length_toList]; omega), List.length_take, Array.length_toList, Nat.min_eq_left (by omega)]
      rcases Nat.lt_or_ge j (st * sz + m * sz) with h2 | h2
      · rw [List.getElem?_append_left (by rw [hnl]; omega), List.getElem?_take_of_lt (by omega), if_pos ⟨h1, h2⟩]
      · rw [List.getElem?_append_right (by rw [hnl]; omega), hnl, List.getElem?_drop, Array.getElem?_toList, if_neg (by omega), show st * sz + m * sz + (j - st * sz - m * sz) = j from by omega]
  have hsz' : ∀ z ∈ xs.take st ++ ys.take m ++ xs.drop (st + m), z.cells.length = sz := fun z hz => by
    rcases List.mem_append.1 hz with h | h
    · rcases List.mem_append.1 h with h | h
      · exact k2 z (List.mem_of_mem_take h)
      · exact s4 z (List.mem_of_mem_take h)
    · exact k2 z (List.mem_of_mem_drop h)
  have hl1 : (xs.take st).length = st := by rw [List.length_take]; omega
  have hl2 : (ys.take m).length = m := by rw [List.length_take]; omega
  have hll : (xs.take st ++ ys.take m ++ xs.drop (st + m)).length = xs.length := by
    rw [List.length_append, List.length_append, hl1, hl2, List.length_drop]; omega
  have hrep := hr.write hb q1 (cs := cs) k5 sz (xs.take st ++ ys.take m ++ xs.drop (st + m)) k1 hsz' (by rw [hll]; exact k3) k4 (by
      rw [← hcs, List.size_toArray, List.length_append, List.length_append, List.length_take, List.length_drop, Array.length_toList, hnl, ← k6]; omega) (fun j u hu => by
      rw [hget j] at hu
      split at hu
      · exact s6 u (List.mem_of_getElem? hu)
      · exact k7 j u hu) (fun j z u hz hu => by
      obtain ⟨hs, y', p1, p2, p3⟩ := flat_split hsz' hz
      have hmod := Nat.mod_lt j hs
      have hdm : ∀ a, j / sz < a → j < a * sz := fun a ha => (Nat.div_lt_iff_lt_mul hs).1 ha
      have hdm2 : ∀ a, a ≤ j / sz → a * sz ≤ j := fun a ha => (Nat.le_div_iff_mul_le hs).1 ha
      rw [hget j] at hu
      rcases Nat.lt_or_ge (j / sz) st with h1 | h1
      · have := hdm st h1
        rw [if_neg (by omega)] at hu
        rw [List.append_assoc, List.getElem?_append_left (by omega), List.getElem?_take_of_lt h1] at p1
        refine k8 j z u ?_ hu
        rw [p3, flat_at k2 p1 hmod]
        exact p2
      · have ha := hdm2 st h1
        rcases Nat.lt_or_ge (j / sz) (st + m) with h2 | h2
        · have hb' := hdm (st + m) h2
          rw [Nat.add_mul] at hb'
          rw [if_pos (by omega)] at hu
          rw [List.append_assoc, List.getElem?_append_right (by omega), hl1, List.getElem?_append_left (by omega), List.getElem?_take_of_lt (by omega)] at p1
          refine s7 (j - st * sz) z u ?_ hu
          rw [show j - st * sz = (j / sz - st) * sz + j % sz from by have := Nat.mul_le_mul_right sz h1; rw [Nat.sub_mul]; omega, flat_at s4 p1 hmod]
          exact p2
        · have hb' := hdm2 (st + m) h2
          rw [Nat.add_mul] at hb'
          rw [if_neg (by omega)] at hu
          rw [List.getElem?_append_right (by rw [List.length_append, hl1, hl2]; omega), List.length_append, hl1, hl2, List.getElem?_drop, show st + m + (j / sz - (st + m)) = j / sz from by omega] at p1
          refine k8 j z u ?_ hu
          rw [p3, flat_at k2 p1 hmod]
          exact p2)
  refine ⟨_, .int .i64 (m : Int), w.setRow r.blk cs, ρ, S, fun oo hoo => ?_, .inl rfl, hrep, .int, fun _ _ h => h, fun k hk => ⟨hk, setRow_other w r.blk k cs (fun e => g1 (e ▸ hk))⟩⟩
  have hlo : (Builtin.lenOf (a.eval y)).run P w = .ok ys.length w := by rw [s1]; rfl
  unfold execOp; rw [hoo]
  rw [k1] at hev
  simp only [resolve, invoke, builtin, Sem.run_bind, Sem.run_pure, Result.andThen_ok, List.map_toArray, List.map_cons, List.map_nil, hev, Builtin.copy_, run_underlying hu, hlo, hmin, run_sizeOf hz, hf]
  simp [run_underlying hu, hlo, hmin, run_sizeOf hz, hf, hst, goInt]


/-- Two rows of one's own do not overlap. -/
theorem op_overlaps {f : FuncId} {fn : Func} {ts : Array TypeId} {tS tR e : TypeId} {x y : Operand} {sz b st len b' st' len' : Nat} {xs ys : List AV} (hf : P.funcs[f]? = some fn) (hname : (fn.name == "runtime.NumGoroutine") = false) (hbody : fn.body.isNone = true) (hn : Extern.findNext fn = none)
    (hext : Extern.find fn = some (Extern.SlicesOverlaps.overlaps #[tS, tS] #[tR])) (hu : P.underlying tS = some (.slice e)) (hz : (P.info? e).map (·.size) = some sz) (hs : 0 < sz) (hx : oev tm x = .own b st len) (hl : 0 < len) (hb : hget h b = some (.cells sz xs)) (hxl : 0 < xs.length)
    (hy : oev tm y = .own b' st' len') (hl' : 0 < len') (hb' : hget h b' = some (.cells sz ys)) (hyl : 0 < ys.length) (hne : b ≠ b') : OpP P (.call { callee := .value (.func f), args := #[x, y], argTypes := ts }) tm h (.bool false) := fun c n nx ρ S a w hr => by
  have hv := ev_vr hr hx
  have hv' := ev_vr hr hy
  generalize he : a.eval x = u at hv
  generalize he' : a.eval y = u' at hv'
  cases hv with
  | own0 => omega
  | @own _ _ _ _ r cp q1 q2 q3 =>
  cases hv' with
  | own0 => omega
  | @own _ _ _ _ r' cp' q1' q2' q3' =>
  obtain ⟨g1, g2, k1, k2, k3, k4, cur, el, k5, k6, k7, k8⟩ := blk_of hr hb q1
  obtain ⟨g1', g2', k1', k2', k3', k4', cur', el', k5', k6', k7', k8'⟩ := blk_of hr hb' q1'
  have hnb : r.blk ≠ r'.blk := hr.sim.inj b b' _ _ r r' hb hb' q1 q1' hne
  have hsz : 0 < cur'.size := by rw [k6']; exact Nat.mul_pos (by omega) hs
  have hrun : (callFunc f #[.slice (some ⟨r.blk, st * r.sz, none⟩) len cp, .slice (some ⟨r'.blk, st' * r'.sz, none⟩) len' cp']).run P w = .ok (.value (.bool false)) w := by
    rw [run_callFunc_extern hf hname hbody hn hext,
      Lib.run_overlaps_apart w tS tR e hu sz (fun w => run_sizeOf hz w) ⟨r.blk, st * r.sz, none⟩ ⟨r'.blk, st' * r'.sz, none⟩ len cp len' cp' hnb el el' cur.size cur'.size (by simp [World.shape?, k5]) (by simp [World.shape?, k5']) (by omega) (by simp [World.frozen?, k5]) (by simp [World.frozen?, k5])]
    rfl
  refine ⟨_, fun o ho => ?_, .bool⟩
  unfold execOp; rw [ho]
  have hfv : a.eval (.func f) = .func (.func f) #[] #[] := rfl
  simp [resolve, Deferred.ofValue, invoke, hfv, he, he', hrun]

end
end Go.Proofs.YtloddmbbfkejcaaGreat.Abs
end
section
/-
  slices.Insert of one element: what stands in rows of any elements. It holds of any program.
-/
namespace Go.Proofs.YtloddmbbfkejcaaGreat.Abs

/-- A state, said otherwise. -/
theorem aw_re {P : Program} {c : Ctx} {n : Nat} {Q : Exit → St → Prop} {code : Code} {tm tm' : List (Nat × AV)} {h h' : Heap} {nx : Nat} (e1 : tm = tm') (e2 : h = h') (k : AW P c n code Q ⟨tm', h', nx⟩) : AW P c n code Q ⟨tm, h, nx⟩ := by subst e1; subst e2; exact k

theorem ra_re {P : Program} {c : Ctx} {n : Nat} {fn : Func} {al : Bool} {Q : AV → Heap → Nat → Prop} {tm tm' : List (Nat × AV)} {h h' : Heap} {nx : Nat} (e1 : tm = tm') (e2 : h = h') (k : RetA P c n fn al Q .ret ⟨tm', h', nx⟩) : RetA P c n fn al Q .ret ⟨tm, h, nx⟩ := by subst e1; subst e2; exact k
theorem aw_top {P : Program} {c : Ctx} {n : Nat} {Q : Exit → St → Prop} {code : Code} {d : Nat} {v v' : AV} {tm : List (Nat × AV)} {h h' : Heap} {nx : Nat} (e1 : v = v') (e2 : h = h') (k : AW P c n code Q ⟨(d, v') :: tm, h', nx⟩) : AW P c n code Q ⟨(d, v) :: tm, h, nx⟩ := by subst e1; subst e2; exact k
theorem own_len {b st st' k k' : Nat} (e0 : st = st') (e : k = k') : AV.own b st k = .own b st' k' := by rw [e0, e]

/-- A row with one more in it. -/
def insA (l : List AV) (i : Nat) (x : AV) : List AV := l.take i ++ x :: l.drop i

theorem ins_room (l : List AV) (x : AV) (i : Nat) (hi : i < l.length) (J R : List AV) (hJ : J = l ++ R) :
    ((J.take (i + 1) ++ l.drop i ++ J.drop (l.length + 1)).take i ++ [x] ++ (J.take (i + 1) ++ l.drop i ++ J.drop (l.length + 1)).drop (i + 1)).take (l.length + 1) = insA l i x := by
  have hk : (J.take (i + 1)).length = i + 1 := by rw [hJ, List.length_take, List.length_append]; omega
  have e1 : (J.take (i + 1) ++ l.drop i ++ J.drop (l.length + 1)).take i = l.take i := by
    rw [List.append_assoc, List.take_append_of_le_length (by omega), List.take_take, Nat.min_eq_left (by omega), hJ, List.take_append_of_le_length (by omega)]
  have e2 : (J.take (i + 1) ++ l.drop i ++ J.drop (l.length + 1)).drop (i + 1) = l.drop i ++ J.drop (l.length + 1) := by
    rw [List.append_assoc, List.drop_left' hk]
  rw [e1, e2, ← List.append_assoc, insA, show x :: l.drop i = [x] ++ l.drop i from rfl, ← List.append_assoc]
  refine List.take_left' ?_
  rw [List.length_append, List.length_append, List.length_take, List.length_drop]
  show min i l.length + 1 + (l.length - i) = _
  omega

theorem ins_grow (l : List AV) (x z : AV) (i : Nat) (hi : i < l.length) :
    (((l.take i ++ List.replicate (l.length + 1 - i) z)).take i ++ [x] ++ ((l.take i ++ List.replicate (l.length + 1 - i) z)).drop (i + 1)).take (i + 1) ++ l.drop i
      ++ (((l.take i ++ List.replicate (l.length + 1 - i) z)).take i ++ [x] ++ ((l.take i ++ List.replicate (l.length + 1 - i) z)).drop (i + 1)).drop (l.length + 1) = insA l i x := by
  have h1 : (l.take i).length = i := by rw [List.length_take]; omega
  have h2 : ((l.take i ++ List.replicate (l.length + 1 - i) z)).take i = l.take i := List.take_left' h1
  have h3 : (l.take i ++ [x]).length = i + 1 := by rw [List.length_append, h1]; rfl
  rw [h2, List.take_left' h3, List.drop_of_length_le (i := l.length + 1), List.append_nil, insA, show x :: l.drop i = [x] ++ l.drop i from rfl, List.append_assoc]
  rw [List.length_append, h3, List.length_drop, List.length_append, h1, List.length_replicate]; omega

theorem cp_eq {xs ys ys' : List AV} {a a' k k' : Nat} (ha : a = a') (hy : ys.take k = ys') (hk : a + k = k') : xs.take a ++ ys.take k ++ xs.drop (a + k) = xs.take a' ++ ys' ++ xs.drop k' := by rw [ha, hy, ← hk, ha]
theorem hget_top {k : Nat} {B : Blk} {h : Heap} : hget ((k, B) :: h) k = some B := by simp [hget]
theorem hset3 {k s : Nat} {a b c : Blk} {X Y : List AV} (e : X = Y) : hset [(k, a), (0, b), (1, c)] k (.cells s X) = [(k, .cells s Y), (0, b), (1, c)] := by rw [e]; simp [hset]
theorem hset2 {s : Nat} {a c : Blk} {X Y : List AV} (e : X = Y) : hset [(0, a), (1, c)] 0 (.cells s X) = [(0, .cells s Y), (1, c)] := by rw [e]; rfl

end Go.Proofs.YtloddmbbfkejcaaGreat.Abs
end
section
/-
  The machine, with calls of slices.Insert that are told: what is put in, whatever the room. It holds of any program in which such calls come to what they should.
-/
namespace Go.Proofs.YtloddmbbfkejcaaGreat.Abs

section
variable {P : Program}

/-- A call of slices.Insert comes to what it should. -/
def InsC (P : Program) (f sz : Nat) : Prop := (∃ fn, P.funcs[f]? = some fn ∧ (fn.name == "runtime.NumGoroutine") = false ∧ fn.body.isNone = false) ∧
  ∀ (l : List AV) (x : AV) (i K : Nat) (al : Bool), i ≤ l.length → l.length ≤ 100000 → (∀ z ∈ l, z.cells.length = sz) → (∀ z ∈ [x], z.cells.length = sz) →
    (∀ σ : Nat → Nat, (∀ b, b < K + 2 → σ b = b) → (insA l i x).map (AV.ren σ) = insA l i x) → (al = true ∨ (Blk.cells sz (insA l i x)).nosl = true) →
    AC P f [.own 0 0 l.length, .int .i64 i, .own 1 0 1] [(0, .cells sz l), (1, .cells sz [x])] (K + 2) al
      (fun v h nx => v = .own (K + 2) 0 (l.length + 1) ∧ h = [(K + 2, .cells sz (insA l i x))] ∧ nx = K + 3)

theorem nm_ren {m : Nat} {σ : Nat → Nat} (hσ : ∀ b, b < m → σ b = b) (x : AV) : ∀ acc, nmA m x acc = [] → acc = [] ∧ x.ren σ = x := by
  have one : ∀ (b : Nat) (acc : List Nat), (match Nat.ble m b with | true => b :: acc | false => acc) = [] → acc = [] ∧ σ b = b := fun b acc h => by
    split at h
    · cases h
    · rename_i hb
      refine ⟨h, hσ b ?_⟩
      have : ¬ m ≤ b := fun hle => by rw [Nat.ble_eq_true_of_le hle] at hb; cases hb
      omega
  induction x using AV.rec (motive_2 := fun xs => ∀ acc, nmL m xs acc = [] → acc = [] ∧ rens σ xs = xs) with
  | ptr b i o => intro acc h; simp only [nmA] at h; obtain ⟨h1, h2⟩ := one b acc h; exact ⟨h1, by simp only [AV.ren, h2]⟩
  | own b i o => intro acc h; simp only [nmA] at h; obtain ⟨h1, h2⟩ := one b acc h; exact ⟨h1, by simp only [AV.ren, h2]⟩
  | omap b => intro acc h; simp only [nmA] at h; obtain ⟨h1, h2⟩ := one b acc h; exact ⟨h1, by simp only [AV.ren, h2]⟩
  | fn f xs ys ih1 ih2 => intro acc h; simp only [nmA] at h; obtain ⟨h1, h2⟩ := ih1 _ h; obtain ⟨h3, h4⟩ := ih2 _ h1; exact ⟨h3, by simp only [AV.ren, h2, h4]⟩
  | ifc t v ih => intro acc h; simp only [nmA] at h; obtain ⟨h1, h2⟩ := ih _ h; exact ⟨h1, by simp only [AV.ren, h2]⟩
  | agg xs ih => intro acc h; simp only [nmA] at h; obtain ⟨h1, h2⟩ := ih _ h; exact ⟨h1, by simp only [AV.ren, h2]⟩
  | tup xs ih => intro acc h; simp only [nmA] at h; obtain ⟨h1, h2⟩ := ih _ h; exact ⟨h1, by simp only [AV.ren, h2]⟩
  | nil => rename_i acc h; exact ⟨h, rfl⟩
  | cons x xs ih1 ih2 => rename_i acc h; simp only [nmL] at h; obtain ⟨h1, h2⟩ := ih2 _ h; obtain ⟨h3, h4⟩ := ih1 _ h1; exact ⟨h3, by simp only [rens, h2, h4]⟩
  | _ => intro acc h; exact ⟨h, rfl⟩

theorem nms_ren {m : Nat} {σ : Nat → Nat} (hσ : ∀ b, b < m → σ b = b) : ∀ (xs : List AV), nmL m xs [] = [] → xs.map (AV.ren σ) = xs := by
  have go : ∀ (xs : List AV) (acc : List Nat), nmL m xs acc = [] → acc = [] ∧ xs.map (AV.ren σ) = xs := by
    intro xs
    induction xs with
    | nil => intro acc h; exact ⟨h, rfl⟩
    | cons x xs ih =>
      intro acc h
      simp only [nmL] at h
      obtain ⟨h1, h2⟩ := ih _ h
      obtain ⟨h3, h4⟩ := nm_ren hσ x _ h1
      exact ⟨h3, by rw [List.map_cons, h2, h4]⟩
  exact fun xs h => (go xs [] h).2

theorem ren_nosl (σ : Nat → Nat) (x : AV) : (x.ren σ).nosl = x.nosl := by
  induction x using AV.rec (motive_2 := fun xs => nosls (rens σ xs) = nosls xs) with
  | fn f xs ys ih1 ih2 => simp only [AV.ren, AV.nosl, ih1, ih2]
  | ifc t v ih => simp only [AV.ren, AV.nosl, ih]
  | agg xs ih => simp only [AV.ren, AV.nosl, ih]
  | tup xs ih => simp only [AV.ren, AV.nosl, ih]
  | nil => rfl
  | cons x xs ih1 ih2 => simp only [rens, nosls, ih1, ih2]
  | _ => rfl

theorem insA_map (g : AV → AV) (l : List AV) (i : Nat) (x : AV) : (insA l i x).map g = insA (l.map g) i (g x) := by simp [insA, List.map_take, List.map_drop]
theorem argTm_oevs (args : List AV) : oevsS (argTm args) ((List.range args.length).map fun i => Operand.tmp i) = some args := by
  have go : ∀ (l : List AV) (k : Nat) (pre : List AV), args = pre ++ l → pre.length = k → oevsS (argTm args) ((List.range' k l.length).map fun i => Operand.tmp i) = some l := by
    intro l
    induction l with
    | nil => intro k pre _ _; rfl
    | cons x l ih =>
      intro k pre h1 h2
      have hk : tgetS (argTm args) k = some x := by
        have gen : ∀ (aa : List AV) (i j : Nat) (y : AV), aa[j]? = some y → tgetS (argTm aa i) (i + j) = some y := by
          intro aa
          induction aa with
          | nil => intro i j y hy; simp at hy
          | cons z aa ih2 =>
            intro i j y hy
            simp only [argTm, tgetS]
            cases j with
            | zero => simp only [List.getElem?_cons_zero, Option.some.injEq] at hy; subst hy; simp
            | succ j =>
              rw [if_neg (by omega), show i + (j + 1) = (i + 1) + j from by omega]
              exact ih2 (i + 1) j y (by simpa using hy)
        have := gen args 0 k x (by rw [h1, List.getElem?_append_right (by omega)]; simp [h2])
        simpa using this
      rw [List.length_cons, List.range'_succ, List.map_cons]
      simp only [oevsS, oevS]
      rw [hk, ih (k + 1) (pre ++ [x]) (by rw [h1]; simp) (by simp [h2])]
  have := go args 0 [] rfl rfl
  rwa [← List.range_eq_range'] at this

/-- How the names are called in the call: those of the two rows are its 0 and 1. -/
def insL (b b2 : Nat) : List (Nat × Nat) := [(0, b), (1, b2), (b, 0), (b2, 1)]
def insK (pl : Bool) (nx : Nat) : Nat := if pl then 0 else nx - 2
def insM (pl : Bool) (b b2 : Nat) : List (Nat × Nat) := if pl then [(0, b), (1, b2)] else insL b b2

def insOK (sz s s2 b n b2 nx : Nat) (i : Int) (h : Heap) (xs : List AV) (x : AV) (pl : Bool) (xs' : List AV) (x' : AV) : Bool :=
  Nat.beq s sz && Nat.beq s2 sz && Nat.beq n xs.length && Nat.blt b nx && Nat.blt b2 nx && !(Nat.beq b b2) && decide (0 ≤ i) && decide (i.toNat < n) && Nat.ble n 100000 && Nat.ble (insK pl nx + 2) nx
    && (insM pl b b2).all (fun p => p.1 < insK pl nx + 2)
    && xs'.all (fun z => Nat.beq z.cells.length sz) && Nat.beq x'.cells.length sz
    && avsEq (xs'.map (AV.ren (swp (insM pl b b2) (insK pl nx + 2) nx))) xs && avEq (x'.ren (swp (insM pl b b2) (insK pl nx + 2) nx)) x
    && (nmL (insK pl nx + 2) (insA xs' i.toNat x') []).isEmpty && h.all (fun p => Nat.blt p.1 nx)

def insCF (f sz : Nat) (cf : CF) : CF := fun g args h nx =>
  match Nat.beq g f with
  | false => cf g args h nx
  | true => match args with
    | [.own b 0 n, .int .i64 i, .own b2 0 1] => match hget h b, hget h b2 with
      | some (.cells s xs), some (.cells s2 [x]) =>
        forceL (xs.map (AV.ren (swp (insL b b2) nx nx))) fun xs' =>
          if insOK sz s s2 b n b2 nx i h xs x (plains (x :: xs)) xs' (x.ren (swp (insL b b2) nx nx)) then
            some (.own (insK (plains (x :: xs)) nx + 2 + nx) 0 (n + 1), rest h [b, b2] ++ [(insK (plains (x :: xs)) nx + 2 + nx, .cells sz (insA xs i.toNat x))], nx + (insK (plains (x :: xs)) nx + 3))
          else cf g args h nx
      | _, _ => cf g args h nx
    | _ => cf g args h nx

theorem insCF_ok {f sz : Nat} (hI : InsC P f sz) {cf : CF} (hcf : CFok P cf) : CFok P (insCF f sz cf) := by
  intro g args h nx r h' nx' he
  unfold insCF at he
  split at he
  · exact hcf _ _ _ _ _ _ _ he
  rename_i hg
  obtain rfl := Nat.eq_of_beq_eq_true hg
  split at he
  · rename_i b n i b2
    split at he
    · rename_i s xs s2 x q1 q2
      rw [forceL_eq] at he
      split at he
      · rename_i hok
        generalize plains (x :: xs) = pl at he hok
        generalize xs.map (AV.ren (swp (insL b b2) nx nx)) = xs' at he hok
        generalize x.ren (swp (insL b b2) nx nx) = x' at he hok
        simp only [Option.some.injEq, Prod.mk.injEq] at he
        obtain ⟨rfl, rfl, rfl⟩ := he
        unfold insOK at hok
        simp only [Bool.and_eq_true, Bool.not_eq_true', decide_eq_true_eq] at hok
        obtain ⟨⟨⟨⟨⟨⟨⟨⟨⟨⟨⟨⟨⟨⟨⟨⟨c1, c2⟩, c3⟩, c4⟩, c5⟩, c6⟩, c7⟩, c8⟩, c9⟩, c10⟩, c11⟩, c12⟩, c13⟩, c14⟩, c15⟩, c16⟩, c17⟩ := hok
        obtain rfl := Nat.eq_of_beq_eq_true c1
        obtain rfl := Nat.eq_of_beq_eq_true c2
        obtain rfl := Nat.eq_of_beq_eq_true c3
        have e14 := avsEq_ok _ _ c14
        have e15 := avEq_ok _ _ c15
        have hb : b < nx := by simpa using c4
        have hb2 : b2 < nx := by simpa using c5
        have hne : b ≠ b2 := fun e => by subst e; simp at c6
        have hK : insK pl nx + 2 ≤ nx := Nat.le_of_ble_eq_true c10
        have hlen : xs'.length = xs.length := by rw [← e14, List.length_map]
        obtain ⟨k, rfl⟩ : ∃ k : Nat, i = k := ⟨i.toNat, by omega⟩
        rw [Int.toNat_natCast] at *
        obtain ⟨⟨fn, f1, f2, f3⟩, hac⟩ := hI
        refine ⟨⟨fn, f1, f2, f3⟩, fun al hal => ?_⟩
        have hdom : h.all (fun p => p.1 < nx) = true := by
          rw [List.all_eq_true]
          intro y hy
          have := List.all_eq_true.1 c17 y hy
          simpa using this
        generalize hKK : insK pl nx = K at *
        generalize hM : insM pl b b2 = M at *
        have s0 : swp M (K + 2) nx 0 = b := by rw [← hM]; unfold insM insL; split <;> simp [swp]
        have s1 : swp M (K + 2) nx 1 = b2 := by rw [← hM]; unfold insM insL; split <;> simp [swp]
        have s2' : swp M (K + 2) nx (K + 2) = K + 2 + nx := by
          have : ∀ (M : List (Nat × Nat)), M.all (fun p => p.1 < K + 2) = true → swp M (K + 2) nx (K + 2) = K + 2 + nx := by
            intro M
            induction M with
            | nil => intro _; simp [swp]
            | cons p M ih =>
              intro hM
              rw [List.all_cons, Bool.and_eq_true, decide_eq_true_eq] at hM
              simp only [swp]
              rw [if_neg (by omega), ih hM.2]
          exact this M c11
        have l2 : M.all (fun p => p.2 < nx) = true := by
          rw [← hM]; unfold insM insL; split <;> simp [hb, hb2] <;> omega
        refine AC.of_op f1 ⟨f2, f3⟩ hdom (by omega) ?_ al hal
        have hnm : (nmL (K + 2) (insA xs' k x') []) = [] := List.isEmpty_iff.1 c16
        have hnosl : al = true ∨ (Blk.cells s2 (insA xs' k x')).nosl = true := by
          refine hal.imp id fun ⟨_, hh⟩ => ?_
          have h1 : (Blk.cells s2 (insA xs k x)).nosl = true := by
            rw [List.all_append, Bool.and_eq_true] at hh
            simpa using hh.2
          rw [← e14, ← e15, ← insA_map] at h1
          simp only [Blk.nosl] at h1 ⊢
          rw [List.all_eq_true] at h1 ⊢
          exact fun z hz => by rw [← ren_nosl]; exact h1 _ (List.mem_map_of_mem hz)
        have key := op_callg (P := P) (tm := argTm [.own b 0 xs.length, .int .i64 (k : Int), .own b2 0 1]) (h := h) (nx := nx) (fo := .func g) (xs := ((List.range 3).map fun i => Operand.tmp i).toArray) (ts := #[]) (first := []) (caps := []) M (K + 2) al
          [(0, .cells s2 xs'), (1, .cells s2 [x'])] [b, b2] (args := [.own b 0 xs.length, .int .i64 (k : Int), .own b2 0 1]) (largs := [.own 0 0 xs'.length, .int .i64 (k : Int), .own 1 0 1])
          (hac xs' x' k K al (by omega) (by rw [hlen]; exact Nat.le_of_ble_eq_true c9) (fun z hz => Nat.eq_of_beq_eq_true (List.all_eq_true.1 c12 z hz)) (fun z hz => by rw [List.mem_singleton.1 hz]; exact Nat.eq_of_beq_eq_true c13)
            (fun σ hσ => nms_ren hσ _ hnm) hnosl) f1 ⟨f2, f3⟩ rfl (by simpa using argTm_oevs [.own b 0 xs.length, .int .i64 (k : Int), .own b2 0 1]) c11 l2 hK ?_ ?_ ?_ rfl rfl rfl
        · simp only [AV.ren, s2', hlen, List.map_cons, List.map_nil, Blk.ren, insA_map, e14, e15] at key
          exact key
        · intro p hp
          rcases List.mem_cons.1 hp with rfl | hp
          · refine ⟨?_, by rw [s0]; simp⟩
            rw [s0, q1]
            simp only [hget, Blk.ren, if_true, Option.map_some, e14]
          · obtain rfl := List.mem_singleton.1 hp
            refine ⟨?_, by rw [s1]; simp⟩
            rw [s1, q2]
            simp [hget, Blk.ren, e15]
        · simp only [List.map_cons, List.map_nil, List.all_cons, List.all_nil, Bool.and_true, s0, s1]
          simp [hne, Ne.symm hne]
        · exact .cons (.same (by simp only [AV.ren, s0, hlen])) (.cons (.same rfl) (.cons (.same (by simp only [AV.ren, s1])) .nil))
      · exact hcf _ _ _ _ _ _ _ he
    · exact hcf _ _ _ _ _ _ _ he
  · exact hcf _ _ _ _ _ _ _ he

/-- Such calls, of some functions. -/
def insCFs : List (Nat × Nat) → CF → CF
  | [], cf => cf
  | (f, sz) :: t, cf => insCF f sz (insCFs t cf)

theorem insCFs_ok : ∀ {l : List (Nat × Nat)}, (∀ p ∈ l, InsC P p.1 p.2) → ∀ {cf : CF}, CFok P cf → CFok P (insCFs l cf)
  | [], _, _, hcf => hcf
  | (f, sz) :: t, h, _, hcf => insCF_ok (h _ List.mem_cons_self) (insCFs_ok (fun p hp => h p (List.mem_cons_of_mem _ hp)) hcf)

/-- The run, with such calls told. -/
def cfgI (ins : List (Nat × Nat)) (pl : Nat → Nat → Option PL) (pu : Nat → Bool) : Cfg := ⟨pl, fun cf => lendCF pu (insCFs ins cf)⟩

/-- A closed call that comes to yes. -/
theorem ac_yesI (hm : P.follows .mixedOrders = true) {ins : List (Nat × Nat)} (hi : ∀ p ∈ ins, InsC P p.1 p.2) {pl : Nat → Nat → Option PL} {pu : Nat → Bool} (n : Nat) {f : FuncId} {args : List AV}
    (he : okB (runF P (cfgI ins pl pu) n f args [] 0) = true) : AC P f args [] 0 false (fun r h nx => r = .bool true) := by
  unfold okB at he
  split at he
  · rename_i h' nx' hr
    refine ((runF_ok (T := cfgI ins pl pu) (fun cf hcf => lendCF_ok (insCFs_ok hi hcf)) hm n _ _ _ _ _ _ _ hr).2 false (.inr ⟨rfl, he⟩)).mono ?_
    rintro _ _ _ ⟨rfl, _, _⟩; rfl
  · cases he

end
end Go.Proofs.YtloddmbbfkejcaaGreat.Abs
end
section
/-
  slices.Insert of one element into a row of one's own: by capacity it is put into the room behind, or a new row is made.
-/
-- hget_top: new rows have names that are not told
namespace Go.Proofs.YtloddmbbfkejcaaGreat.Abs

theorem ov_next_seat : Extern.findNext Tryz.f179 = none := by decide
set_option maxRecDepth 100000 in
theorem ov_find_seat : Extern.find Tryz.f179 = some (Extern.SlicesOverlaps.overlaps #[37, 37] #[4]) := by rfl
theorem ov_name_seat : (Tryz.f179.name == "runtime.NumGoroutine") = false := by decide

set_option maxHeartbeats 4000000 in
theorem insert_seat (l : List AV) (x : AV) (i K : Nat) (al : Bool) (hi : i ≤ l.length) (hl : l.length ≤ 100000) (hzl : ∀ z ∈ l, z.cells.length = 3) (hzx : ∀ z ∈ [x], z.cells.length = 3)
    (hren : ∀ σ : Nat → Nat, (∀ b, b < K + 2 → σ b = b) → (insA l i x).map (AV.ren σ) = insA l i x) (hal : al = true ∨ (Blk.cells 3 (insA l i x)).nosl = true) :
    AC Tryz.prog 154 [.own 0 0 l.length, .int .i64 i, .own 1 0 1] [(0, .cells 3 l), (1, .cells 3 [x])] (K + 2) al
      (fun v h nx => v = .own (K + 2) 0 (l.length + 1) ∧ h = [(K + 2, .cells 3 (insA l i x))] ∧ nx = K + 3) := by
  have hn1 : ([x] : List AV).length = 1 := rfl
  have hal' : al = true ∨ ((AV.own (K + 2) 0 (l.length + 1)).nosl = true ∧ ([(K + 2, Blk.cells 3 (insA l i x))] : Heap).all (fun p => p.2.nosl) = true) := hal.imp id fun h => ⟨rfl, by rw [List.all_cons, h]; rfl⟩
  have hsw : ∀ (j : Nat), (Blk.cells 3 (insA l i x)).ren (swp [] (K + 3) j) = .cells 3 (insA l i x) := fun j => by
    rw [Blk.ren, hren _ (fun b hb => by simp only [swp]; rw [if_pos (by omega)])]
  have hsw2 : ∀ (j : Nat), (Blk.cells 3 (insA l i x)).ren (swp [(K + 2, 0)] (K + 3) j) = .cells 3 (insA l i x) := fun j => by
    rw [Blk.ren, hren _ (fun b hb => by simp only [swp]; rw [if_neg (by omega), if_pos (by omega)])]
  by_cases h1 : i = l.length
  · skip
    refine ac_fn Tryz.func154 rfl rfl rfl rfl (fun w0 S0 r0 => ?_)
    refine aw_seq ?_
    refine aw_region ?_
    refine st_p (mva rfl) rfl ?_
    refine al_nil ?_
    refine nm ?_
    refine aw_seq ?_
    refine aw_region ?_
    refine st_p (mv rfl) rfl ?_
    refine st_p (mv rfl) rfl ?_
    first | refine st_p (op_sliceL Tryz.underlying37 z88 rfl (by exact ⟨_, rfl⟩) (by exact rfl) (by first | omega | (simp only [bl_len, List.length_map, List.length_append, List.length_take, List.length_drop]; omega)) (by first | omega | (simp only [bl_len, List.length_map, List.length_append, List.length_take, List.length_drop]; omega)) (by first | omega | (simp only [bl_len, List.length_map, List.length_append, List.length_take, List.length_drop]; omega))) rfl ?_ | refine st_p (op_slice Tryz.underlying37 z88 rfl rfl (by exact ⟨_, rfl⟩) (by exact rfl) (by first | omega | (simp only [bl_len, List.length_map, List.length_append, List.length_take, List.length_drop]; omega)) (by first | omega | (simp only [bl_len, List.length_map, List.length_append, List.length_take, List.length_drop]; omega)) (by first | omega | (simp only [bl_len, List.length_map, List.length_append, List.length_take, List.length_drop]; omega))) rfl ?_ | refine st_p (op_slice Tryz.underlying37 z88 rfl hget_top (by exact ⟨_, rfl⟩) (by exact rfl) (by first | omega | (simp only [bl_len, List.length_map, List.length_append, List.length_take, List.length_drop]; omega)) (by first | omega | (simp only [bl_len, List.length_map, List.length_append, List.length_take, List.length_drop]; omega)) (by first | omega | (simp only [bl_len, List.length_map, List.length_append, List.length_take, List.length_drop]; omega))) rfl ?_ | refine st_p (op_sliceC Tryz.underlying37 z88 rfl rfl (by exact ⟨_, rfl⟩) (by exact rfl) (by first | omega | (simp only [bl_len, List.length_map, List.length_append, List.length_take, List.length_drop]; omega)) (by first | omega | (simp only [bl_len, List.length_map, List.length_append, List.length_take, List.length_drop]; omega)) (by omega) (by first | omega | (simp only [bl_len, List.length_map, List.length_append, List.length_take, List.length_drop]; omega))) rfl ?_
    refine al_nil ?_
    refine nm ?_
    refine aw_seq ?_
    refine aw_region ?_
    refine st_p (mv rfl) rfl ?_
    first | refine st_p (op_len Tryz.underlying37 rfl) rfl ?_ | refine st_p (op_leno Tryz.underlying37 rfl) rfl ?_ | refine st_p (op_lenn Tryz.underlying37 rfl) rfl ?_
    refine st_p (mva rfl) rfl ?_
    refine al_nil ?_
    refine nm ?_
    refine aw_seq ?_
    refine aw_seq ?_
    refine aw_region ?_
    refine st_p (mv rfl) rfl ?_
    first | refine st_p (OpP.conv (op_eq rfl rfl) (yes (by first | assumption | omega))) rfl ?_ | refine st_p (OpP.conv (op_eq rfl rfl) (no (by first | assumption | omega))) rfl ?_ | refine st_p (op_eq rfl rfl) rfl ?_
    refine al_nil ?_
    refine nm ?_
    -- IF t16
    refine aw_no (rfl) ?_
    refine aw_skip ?_
    refine nm ?_
    refine aw_seq ?_
    refine aw_region ?_
    refine st_p (mv rfl) rfl ?_
    first | refine st_p (op_len Tryz.underlying37 rfl) rfl ?_ | refine st_p (op_leno Tryz.underlying37 rfl) rfl ?_ | refine st_p (op_lenn Tryz.underlying37 rfl) rfl ?_
    refine st_p (mva rfl) rfl ?_
    refine al_nil ?_
    refine nm ?_
    refine aw_seq ?_
    refine aw_seq ?_
    refine aw_region ?_
    refine st_p (mv rfl) rfl ?_
    refine st_p (mv rfl) rfl ?_
    first | refine st_p (OpP.conv (op_eq rfl rfl) (yes (by first | assumption | omega))) rfl ?_ | refine st_p (OpP.conv (op_eq rfl rfl) (no (by first | assumption | omega))) rfl ?_ | refine st_p (op_eq rfl rfl) rfl ?_
    refine al_nil ?_
    refine nm ?_
    -- IF t22
    refine aw_yes (rfl) ?_
    refine aw_seq ?_
    refine aw_region ?_
    refine st_p (mv rfl) rfl ?_
    refine st_p (mv rfl) rfl ?_
    first | refine st_o (op_app Tryz.underlying37 Tryz.underlying37 (.inl ⟨_, rfl⟩) i88 o88 rfl rfl rfl (by first | rfl | omega | (simp; done) | (simp; omega)) ((SrcA.whole rfl (by first | rfl | simp)).ok rfl (by first | assumption | intro z hz; simp only [List.mem_singleton, List.drop_zero, List.take_succ_cons, List.take_zero, List.mem_cons, List.not_mem_nil, or_false, List.mem_map] at hz; first | (subst hz; rfl) | (obtain ⟨_, _, rfl⟩ := hz; rfl) | (rcases hz with rfl | rfl <;> rfl))) (by first | omega | (simp; try omega)) rfl) rfl ?_ | refine st_o (op_appN Tryz.underlying37 Tryz.underlying37 (.inl ⟨_, rfl⟩) i88 o88 rfl ((SrcA.whole rfl (by first | rfl | simp)).ok rfl (by first | assumption | intro z hz; simp only [List.mem_singleton, List.drop_zero, List.take_succ_cons, List.take_zero, List.mem_cons, List.not_mem_nil, or_false, List.mem_map] at hz; first | (subst hz; rfl) | (obtain ⟨_, _, rfl⟩ := hz; rfl) | (rcases hz with rfl | rfl <;> rfl))) (by first | omega | (simp; try omega))) rfl ?_ | refine st_o (op_app Tryz.underlying37 Tryz.underlying37 (.inl ⟨_, rfl⟩) i88 o88 rfl rfl rfl (by first | rfl | omega | (simp; done) | (simp; omega)) ((SrcA.own rfl (by first | omega | (simp; try omega))).ok rfl (by first | assumption | intro z hz; simp only [List.mem_singleton, List.drop_zero, List.take_succ_cons, List.take_zero, List.mem_cons, List.not_mem_nil, or_false, List.mem_map] at hz; first | (subst hz; rfl) | (obtain ⟨_, _, rfl⟩ := hz; rfl) | (rcases hz with rfl | rfl <;> rfl))) (by first | omega | (simp; try omega)) rfl) rfl ?_ | refine st_o (op_appN Tryz.underlying37 Tryz.underlying37 (.inl ⟨_, rfl⟩) i88 o88 rfl ((SrcA.own rfl (by first | omega | (simp; try omega))).ok rfl (by first | assumption | intro z hz; simp only [List.mem_singleton, List.drop_zero, List.take_succ_cons, List.take_zero, List.mem_cons, List.not_mem_nil, or_false, List.mem_map] at hz; first | (subst hz; rfl) | (obtain ⟨_, _, rfl⟩ := hz; rfl) | (rcases hz with rfl | rfl <;> rfl))) (by first | omega | (simp; try omega))) rfl ?_ | refine st_o (op_app Tryz.underlying37 Tryz.underlying37 (.inl ⟨_, rfl⟩) i88 o88 rfl rfl rfl (by first | rfl | omega | (simp; done) | (simp; omega)) ((SrcA.sl (.inr trivial)).ok rfl (by first | assumption | intro z hz; simp only [List.mem_singleton, List.drop_zero, List.take_succ_cons, List.take_zero, List.mem_cons, List.not_mem_nil, or_false, List.mem_map] at hz; first | (subst hz; rfl) | (obtain ⟨_, _, rfl⟩ := hz; rfl) | (rcases hz with rfl | rfl <;> rfl))) (by first | omega | (simp; try omega)) rfl) rfl ?_ | refine st_o (op_appN Tryz.underlying37 Tryz.underlying37 (.inl ⟨_, rfl⟩) i88 o88 rfl ((SrcA.sl (.inr trivial)).ok rfl (by first | assumption | intro z hz; simp only [List.mem_singleton, List.drop_zero, List.take_succ_cons, List.take_zero, List.mem_cons, List.not_mem_nil, or_false, List.mem_map] at hz; first | (subst hz; rfl) | (obtain ⟨_, _, rfl⟩ := hz; rfl) | (rcases hz with rfl | rfl <;> rfl))) (by first | omega | (simp; try omega))) rfl ?_ | refine st_o (op_app Tryz.underlying37 Tryz.underlying37 (.inl ⟨_, rfl⟩) i88 o88 rfl rfl rfl (by first | rfl | omega | (simp; done) | (simp; omega)) (SrcA.nils.ok rfl (by intro z hz; cases hz)) (by first | omega | (simp; try omega)) rfl) rfl ?_ | refine st_o (op_appN Tryz.underlying37 Tryz.underlying37 (.inl ⟨_, rfl⟩) i88 o88 rfl (SrcA.nils.ok rfl (by intro z hz; cases hz)) (by first | omega | (simp; try omega))) rfl ?_
    refine st_p (mva rfl) rfl ?_
    refine al_nil ?_
    refine nm ?_
    refine aw_ret ?_
    refine rs ?_
    have e : (l ++ [x]).length = l.length + 1 := by rw [List.length_append, hn1]
    have e' : insA l i x = l ++ [x] := by rw [insA, h1, List.take_length, List.drop_length]
    exact ret_a ⟨[(6, .own (K + 2) 0 (l.length + 1))], [(K + 2, .cells 3 (insA l i x))], K + 3⟩ (le_to [] (by first | rfl | simp) (by first | rfl | simp) (by first | rfl | simp) (by first | rfl | simp) (by first | rfl | simp [apart]) ⟨by rw [e]; simp [tget, AV.ren, swp], trivial⟩ ⟨by rw [hsw, e']; simp [hget, swp], trivial⟩) (res1 Tryz.results154) hal' ⟨rfl, rfl, rfl⟩
  · have hlt : i < l.length := by omega
    refine ac_fn Tryz.func154 rfl rfl rfl rfl (fun w0 S0 r0 => ?_)
    refine aw_seq ?_
    refine aw_region ?_
    refine st_p (mva rfl) rfl ?_
    refine al_nil ?_
    refine nm ?_
    refine aw_seq ?_
    refine aw_region ?_
    refine st_p (mv rfl) rfl ?_
    refine st_p (mv rfl) rfl ?_
    first | refine st_p (op_sliceL Tryz.underlying37 z88 rfl (by exact ⟨_, rfl⟩) (by exact rfl) (by first | omega | (simp only [bl_len, List.length_map, List.length_append, List.length_take, List.length_drop]; omega)) (by first | omega | (simp only [bl_len, List.length_map, List.length_append, List.length_take, List.length_drop]; omega)) (by first | omega | (simp only [bl_len, List.length_map, List.length_append, List.length_take, List.length_drop]; omega))) rfl ?_ | refine st_p (op_slice Tryz.underlying37 z88 rfl rfl (by exact ⟨_, rfl⟩) (by exact rfl) (by first | omega | (simp only [bl_len, List.length_map, List.length_append, List.length_take, List.length_drop]; omega)) (by first | omega | (simp only [bl_len, List.length_map, List.length_append, List.length_take, List.length_drop]; omega)) (by first | omega | (simp only [bl_len, List.length_map, List.length_append, List.length_take, List.length_drop]; omega))) rfl ?_ | refine st_p (op_slice Tryz.underlying37 z88 rfl hget_top (by exact ⟨_, rfl⟩) (by exact rfl) (by first | omega | (simp only [bl_len, List.length_map, List.length_append, List.length_take, List.length_drop]; omega)) (by first | omega | (simp only [bl_len, List.length_map, List.length_append, List.length_take, List.length_drop]; omega)) (by first | omega | (simp only [bl_len, List.length_map, List.length_append, List.length_take, List.length_drop]; omega))) rfl ?_ | refine st_p (op_sliceC Tryz.underlying37 z88 rfl rfl (by exact ⟨_, rfl⟩) (by exact rfl) (by first | omega | (simp only [bl_len, List.length_map, List.length_append, List.length_take, List.length_drop]; omega)) (by first | omega | (simp only [bl_len, List.length_map, List.length_append, List.length_take, List.length_drop]; omega)) (by omega) (by first | omega | (simp only [bl_len, List.length_map, List.length_append, List.length_take, List.length_drop]; omega))) rfl ?_
    refine al_nil ?_
    refine nm ?_
    refine aw_seq ?_
    refine aw_region ?_
    refine st_p (mv rfl) rfl ?_
    first | refine st_p (op_len Tryz.underlying37 rfl) rfl ?_ | refine st_p (op_leno Tryz.underlying37 rfl) rfl ?_ | refine st_p (op_lenn Tryz.underlying37 rfl) rfl ?_
    refine st_p (mva rfl) rfl ?_
    refine al_nil ?_
    refine nm ?_
    refine aw_seq ?_
    refine aw_seq ?_
    refine aw_region ?_
    refine st_p (mv rfl) rfl ?_
    first | refine st_p (OpP.conv (op_eq rfl rfl) (yes (by first | assumption | omega))) rfl ?_ | refine st_p (OpP.conv (op_eq rfl rfl) (no (by first | assumption | omega))) rfl ?_ | refine st_p (op_eq rfl rfl) rfl ?_
    refine al_nil ?_
    refine nm ?_
    -- IF t16
    refine aw_no (rfl) ?_
    refine aw_skip ?_
    refine nm ?_
    refine aw_seq ?_
    refine aw_region ?_
    refine st_p (mv rfl) rfl ?_
    first | refine st_p (op_len Tryz.underlying37 rfl) rfl ?_ | refine st_p (op_leno Tryz.underlying37 rfl) rfl ?_ | refine st_p (op_lenn Tryz.underlying37 rfl) rfl ?_
    refine st_p (mva rfl) rfl ?_
    refine al_nil ?_
    refine nm ?_
    refine aw_seq ?_
    refine aw_seq ?_
    refine aw_region ?_
    refine st_p (mv rfl) rfl ?_
    refine st_p (mv rfl) rfl ?_
    first | refine st_p (OpP.conv (op_eq rfl rfl) (yes (by first | assumption | omega))) rfl ?_ | refine st_p (OpP.conv (op_eq rfl rfl) (no (by first | assumption | omega))) rfl ?_ | refine st_p (op_eq rfl rfl) rfl ?_
    refine al_nil ?_
    refine nm ?_
    -- IF t22
    by_cases hc : (l.length : Int) + ((1 : Nat) : Int) > ((capR r0 0 - 0 : Nat) : Int)
    · skip
      refine aw_no (rfl) ?_
      refine aw_skip ?_
      refine nm ?_
      refine aw_seq ?_
      refine aw_seq ?_
      refine aw_region ?_
      refine st_p (mv rfl) rfl ?_
      refine st_p (mv rfl) rfl ?_
      first | refine st_p (op_addi rfl rfl (by omega)) rfl ?_ | refine st_p (op_add rfl rfl) rfl ?_
      refine st_p (mv rfl) rfl ?_
      first | refine st_p (op_capN Tryz.underlying37 rfl) rfl ?_ | refine st_c (opc_cap Tryz.underlying37 rfl (by omega) (by first | decide | omega)) rfl ?_
      first | refine st_p (OpP.conv (op_gt rfl rfl) (yes (by first | assumption | omega))) rfl ?_ | refine st_p (OpP.conv (op_gt rfl rfl) (no (by first | assumption | omega))) rfl ?_ | refine st_p (op_gt rfl rfl) rfl ?_
      refine al_nil ?_
      refine nm ?_
      -- IF t31
      obtain ⟨B0, hB0⟩ : ∃ B0, B0 = l.take i ++ List.replicate (l.length + 1 - i) (ofConst (.agg #[.int .i64 0, .int .i64 0, .int .i64 0])) := ⟨_, rfl⟩
      have hl0 : B0.length = l.length + 1 := by rw [hB0, List.length_append, List.length_take, List.length_replicate]; omega
      refine aw_yes (rfl) ?_
      refine aw_seq ?_
      refine aw_region ?_
      refine st_p (mv rfl) rfl ?_
      refine st_p (mv rfl) rfl ?_
      first | refine st_p (op_sliceN Tryz.underlying37 z88 rfl rfl) rfl ?_ | refine st_p (op_sliceL Tryz.underlying37 z88 rfl (by exact rfl) (by exact ⟨_, rfl⟩) (by first | omega | (simp only [bl_len, List.length_map, List.length_append, List.length_take, List.length_drop]; omega)) (by first | omega | (simp only [bl_len, List.length_map, List.length_append, List.length_take, List.length_drop]; omega)) (by first | omega | (simp only [bl_len, List.length_map, List.length_append, List.length_take, List.length_drop]; omega))) rfl ?_ | refine st_p (op_slice Tryz.underlying37 z88 rfl rfl (by exact rfl) (by exact ⟨_, rfl⟩) (by first | omega | (simp only [bl_len, List.length_map, List.length_append, List.length_take, List.length_drop]; omega)) (by first | omega | (simp only [bl_len, List.length_map, List.length_append, List.length_take, List.length_drop]; omega)) (by first | omega | (simp only [bl_len, List.length_map, List.length_append, List.length_take, List.length_drop]; omega))) rfl ?_ | refine st_p (op_slice Tryz.underlying37 z88 rfl hget_top (by exact rfl) (by exact ⟨_, rfl⟩) (by first | omega | (simp only [bl_len, List.length_map, List.length_append, List.length_take, List.length_drop]; omega)) (by first | omega | (simp only [bl_len, List.length_map, List.length_append, List.length_take, List.length_drop]; omega)) (by first | omega | (simp only [bl_len, List.length_map, List.length_append, List.length_take, List.length_drop]; omega))) rfl ?_ | refine st_p (op_sliceC Tryz.underlying37 z88 rfl rfl (by exact rfl) (by exact ⟨_, rfl⟩) (by first | omega | (simp only [bl_len, List.length_map, List.length_append, List.length_take, List.length_drop]; omega)) (by first | omega | (simp only [bl_len, List.length_map, List.length_append, List.length_take, List.length_drop]; omega)) (by omega) (by first | omega | (simp only [bl_len, List.length_map, List.length_append, List.length_take, List.length_drop]; omega))) rfl ?_
      refine st_p (mv rfl) rfl ?_
      refine st_p (mv rfl) rfl ?_
      first | refine st_p (op_addi rfl rfl (by omega)) rfl ?_ | refine st_p (op_add rfl rfl) rfl ?_
      refine st_p (mv rfl) rfl ?_
      first | refine st_p (op_subi rfl rfl (by omega)) rfl ?_ | refine st_p (op_sub rfl rfl) rfl ?_
      first | refine st_o (op_appZi Tryz.underlying37 Tryz.underlying3 i88 o88 (by decide) rfl rfl (by omega) (by omega) (by omega)) rfl ?_ | refine st_c (opc_appZg Tryz.underlying37 Tryz.underlying3 i88 o88 (by decide) rfl rfl rfl rfl (by omega) rfl (by first | decide | omega) (by omega) (by omega) (by omega) (by omega)) rfl ?_
      refine st_p (mva rfl) rfl ?_
      refine al_nil ?_
      refine nm ?_
      refine aw_seq ?_
      refine aw_top (h' := [(K + 2, .cells 3 B0), (0, .cells 3 l), (1, .cells 3 [x])]) (own_len (st' := 0) (k' := l.length + 1) rfl (by omega)) ?_ ?_
      · rw [hB0, show (i : Int).toNat - Int.toNat 0 = i from by omega, show (((l.length : Nat) : Int) + ((1 : Nat) : Int) - (i : Int)).toNat = l.length + 1 - i from by omega]
      refine aw_region ?_
      refine st_p (mv rfl) rfl ?_
      refine st_p (mv rfl) rfl ?_
      first | refine st_p (op_sliceL Tryz.underlying37 z88 rfl (by exact ⟨_, rfl⟩) (by exact rfl) (by first | omega | (simp only [bl_len, List.length_map, List.length_append, List.length_take, List.length_drop]; omega)) (by first | omega | (simp only [bl_len, List.length_map, List.length_append, List.length_take, List.length_drop]; omega)) (by first | omega | (simp only [bl_len, List.length_map, List.length_append, List.length_take, List.length_drop]; omega))) rfl ?_ | refine st_p (op_slice Tryz.underlying37 z88 rfl rfl (by exact ⟨_, rfl⟩) (by exact rfl) (by first | omega | (simp only [bl_len, List.length_map, List.length_append, List.length_take, List.length_drop]; omega)) (by first | omega | (simp only [bl_len, List.length_map, List.length_append, List.length_take, List.length_drop]; omega)) (by first | omega | (simp only [bl_len, List.length_map, List.length_append, List.length_take, List.length_drop]; omega))) rfl ?_ | refine st_p (op_slice Tryz.underlying37 z88 rfl hget_top (by exact ⟨_, rfl⟩) (by exact rfl) (by first | omega | (simp only [bl_len, List.length_map, List.length_append, List.length_take, List.length_drop]; omega)) (by first | omega | (simp only [bl_len, List.length_map, List.length_append, List.length_take, List.length_drop]; omega)) (by first | omega | (simp only [bl_len, List.length_map, List.length_append, List.length_take, List.length_drop]; omega))) rfl ?_ | refine st_p (op_sliceC Tryz.underlying37 z88 rfl rfl (by exact ⟨_, rfl⟩) (by exact rfl) (by first | omega | (simp only [bl_len, List.length_map, List.length_append, List.length_take, List.length_drop]; omega)) (by first | omega | (simp only [bl_len, List.length_map, List.length_append, List.length_take, List.length_drop]; omega)) (by omega) (by first | omega | (simp only [bl_len, List.length_map, List.length_append, List.length_take, List.length_drop]; omega))) rfl ?_
      refine st_p (mv rfl) rfl ?_
      first | refine st_o (op_copy Tryz.underlying37 z88 rfl (by omega) rfl (by omega) rfl (.own rfl (by omega))) rfl ?_ | refine st_o (op_copy Tryz.underlying37 z88 rfl (by omega) rfl (by omega) rfl (.sl (.inr trivial))) rfl ?_ | refine st_o (op_copy Tryz.underlying37 z88 rfl (by omega) rfl (by omega) rfl .nils) rfl ?_ | refine st_o (op_copy Tryz.underlying37 z88 rfl (by omega) hget_top (by omega) rfl (.own rfl (by omega))) rfl ?_ | refine st_o (op_copy Tryz.underlying37 z88 rfl (by omega) hget_top (by omega) rfl (.sl (.inr trivial))) rfl ?_ | refine st_o (op_copy Tryz.underlying37 z88 rfl (by omega) hget_top (by omega) rfl .nils) rfl ?_
      refine al_nil ?_
      refine nm ?_
      refine aw_seq ?_
      obtain ⟨B1, hB1⟩ : ∃ B1, B1 = B0.take i ++ [x] ++ B0.drop (i + 1) := ⟨_, rfl⟩
      have hl1 : B1.length = l.length + 1 := by rw [hB1, List.length_append, List.length_append, List.length_take, List.length_drop, hn1]; omega
      refine aw_re rfl (h' := [(K + 2, .cells 3 B1), (0, .cells 3 l), (1, .cells 3 [x])]) ?_ ?_
      · refine hset3 ?_
        rw [hB1]
        have e1 : (([x].drop 0).take 1) = [x] := rfl
        have e2 : min (([x].drop 0).take 1).length ((((l.length + 1 : Nat) : Int)).toNat - (i : Int).toNat) = 1 := by rw [e1, hn1]; omega
        refine cp_eq (by omega) ?_ ?_
        · rw [e2]; rfl
        · rw [e2]; omega
      refine dr_go ?_
      refine dr_f 0 0 [9] rfl (fun H => mv rfl) ?_
      refine dr_f 0 0 [1] rfl (fun H => mv rfl) ?_
      refine dr_f 0 0 [7] rfl (fun H => mv rfl) ?_
      first | refine dr_f 0 0 [47, 48] rfl (fun H => op_addi rfl rfl (by omega)) ?_ | refine dr_f 0 0 [47, 48] rfl (fun H => op_add rfl rfl) ?_
      first | refine dr_q 0 0 [46, 49] rfl (op_sliceL Tryz.underlying37 z88 rfl (by exact ⟨_, rfl⟩) (by exact rfl) (by first | omega | (simp only [bl_len, List.length_map, List.length_append, List.length_take, List.length_drop]; omega)) (by first | omega | (simp only [bl_len, List.length_map, List.length_append, List.length_take, List.length_drop]; omega)) (by first | omega | (simp only [bl_len, List.length_map, List.length_append, List.length_take, List.length_drop]; omega))) ?_ | refine dr_q 0 0 [46, 49] rfl (op_slice Tryz.underlying37 z88 rfl rfl (by exact ⟨_, rfl⟩) (by exact rfl) (by first | omega | (simp only [bl_len, List.length_map, List.length_append, List.length_take, List.length_drop]; omega)) (by first | omega | (simp only [bl_len, List.length_map, List.length_append, List.length_take, List.length_drop]; omega)) (by first | omega | (simp only [bl_len, List.length_map, List.length_append, List.length_take, List.length_drop]; omega))) ?_ | refine dr_q 0 0 [46, 49] rfl (op_slice Tryz.underlying37 z88 rfl hget_top (by exact ⟨_, rfl⟩) (by exact rfl) (by first | omega | (simp only [bl_len, List.length_map, List.length_append, List.length_take, List.length_drop]; omega)) (by first | omega | (simp only [bl_len, List.length_map, List.length_append, List.length_take, List.length_drop]; omega)) (by first | omega | (simp only [bl_len, List.length_map, List.length_append, List.length_take, List.length_drop]; omega))) ?_ | refine dr_q 0 0 [46, 49] rfl (op_sliceC Tryz.underlying37 z88 rfl rfl (by exact ⟨_, rfl⟩) (by exact rfl) (by first | omega | (simp only [bl_len, List.length_map, List.length_append, List.length_take, List.length_drop]; omega)) (by first | omega | (simp only [bl_len, List.length_map, List.length_append, List.length_take, List.length_drop]; omega)) (by omega) (by first | omega | (simp only [bl_len, List.length_map, List.length_append, List.length_take, List.length_drop]; omega))) ?_
      refine dr_f 0 0 [0] rfl (fun H => mv rfl) ?_
      refine dr_f 0 0 [1] rfl (fun H => mv rfl) ?_
      first | refine dr_q 0 0 [51, 52] rfl (op_sliceL Tryz.underlying37 z88 rfl (by exact ⟨_, rfl⟩) (by exact rfl) (by first | omega | (simp only [bl_len, List.length_map, List.length_append, List.length_take, List.length_drop]; omega)) (by first | omega | (simp only [bl_len, List.length_map, List.length_append, List.length_take, List.length_drop]; omega)) (by first | omega | (simp only [bl_len, List.length_map, List.length_append, List.length_take, List.length_drop]; omega))) ?_ | refine dr_q 0 0 [51, 52] rfl (op_slice Tryz.underlying37 z88 rfl rfl (by exact ⟨_, rfl⟩) (by exact rfl) (by first | omega | (simp only [bl_len, List.length_map, List.length_append, List.length_take, List.length_drop]; omega)) (by first | omega | (simp only [bl_len, List.length_map, List.length_append, List.length_take, List.length_drop]; omega)) (by first | omega | (simp only [bl_len, List.length_map, List.length_append, List.length_take, List.length_drop]; omega))) ?_ | refine dr_q 0 0 [51, 52] rfl (op_slice Tryz.underlying37 z88 rfl hget_top (by exact ⟨_, rfl⟩) (by exact rfl) (by first | omega | (simp only [bl_len, List.length_map, List.length_append, List.length_take, List.length_drop]; omega)) (by first | omega | (simp only [bl_len, List.length_map, List.length_append, List.length_take, List.length_drop]; omega)) (by first | omega | (simp only [bl_len, List.length_map, List.length_append, List.length_take, List.length_drop]; omega))) ?_ | refine dr_q 0 0 [51, 52] rfl (op_sliceC Tryz.underlying37 z88 rfl rfl (by exact ⟨_, rfl⟩) (by exact rfl) (by first | omega | (simp only [bl_len, List.length_map, List.length_append, List.length_take, List.length_drop]; omega)) (by first | omega | (simp only [bl_len, List.length_map, List.length_append, List.length_take, List.length_drop]; omega)) (by omega) (by first | omega | (simp only [bl_len, List.length_map, List.length_append, List.length_take, List.length_drop]; omega))) ?_
      first | refine dr_e 0 [50, 53] rfl (op_copy Tryz.underlying37 z88 rfl (by omega) rfl (by omega) rfl (.own rfl (by omega))) ?_ | refine dr_e 0 [50, 53] rfl (op_copy Tryz.underlying37 z88 rfl (by omega) rfl (by omega) rfl (.sl (.inr trivial))) ?_ | refine dr_e 0 [50, 53] rfl (op_copy Tryz.underlying37 z88 rfl (by omega) rfl (by omega) rfl .nils) ?_ | refine dr_e 0 [50, 53] rfl (op_copy Tryz.underlying37 z88 rfl (by omega) hget_top (by omega) rfl (.own rfl (by omega))) ?_ | refine dr_e 0 [50, 53] rfl (op_copy Tryz.underlying37 z88 rfl (by omega) hget_top (by omega) rfl (.sl (.inr trivial))) ?_ | refine dr_e 0 [50, 53] rfl (op_copy Tryz.underlying37 z88 rfl (by omega) hget_top (by omega) rfl .nils) ?_
      refine dr_end [] (by kernel_rfl) (by kernel_rfl) (by kernel_rfl) (by kernel_rfl) trivial ?_
      refine nm ?_
      refine aw_seq ?_
      refine aw_region ?_
      refine st_p (mv rfl) rfl ?_
      refine st_p (mva rfl) rfl ?_
      refine al_nil ?_
      refine nm ?_
      refine aw_ret ?_
      refine rs ?_
      have e3 : (l.drop (0 + (i : Int).toNat)).take ((l.length : Int).toNat - (i : Int).toNat) = l.drop i := by
        rw [show 0 + (i : Int).toNat = i from by omega, show (l.length : Int).toNat - (i : Int).toNat = l.length - i from by omega]
        exact List.take_of_length_le (by rw [List.length_drop]; omega)
      have e4 : min ((l.drop (0 + (i : Int).toNat)).take ((l.length : Int).toNat - (i : Int).toNat)).length ((((l.length + 1 : Nat) : Int)).toNat - ((i : Int) + ((1 : Nat) : Int)).toNat) = l.length - i := by rw [e3, List.length_drop]; omega
      refine ra_re rfl (h' := [(K + 2, .cells 3 (insA l i x)), (0, .cells 3 l), (1, .cells 3 [x])]) ?_ ?_
      · refine hset3 ?_
        rw [← ins_grow l x (ofConst (.agg #[.int .i64 0, .int .i64 0, .int .i64 0])) i hlt, ← hB0, ← hB1]
        refine cp_eq (by omega) ?_ ?_
        · rw [e4, e3]; exact List.take_of_length_le (by rw [List.length_drop]; omega)
        · rw [e4]; omega
      exact ret_a ⟨[(6, .own (K + 2) 0 (l.length + 1))], [(K + 2, .cells 3 (insA l i x))], K + 3⟩ (le_to [] (by first | rfl | simp) (by first | rfl | simp) (by first | rfl | simp) (by first | rfl | simp) (by first | rfl | simp [apart]) ⟨by simp [tget, AV.ren, swp], trivial⟩ ⟨by rw [hsw]; simp [hget, swp], trivial⟩) (res1 Tryz.results154) hal' ⟨rfl, rfl, rfl⟩
    · skip
      refine aw_no (rfl) ?_
      refine aw_skip ?_
      refine nm ?_
      refine aw_seq ?_
      refine aw_seq ?_
      refine aw_region ?_
      refine st_p (mv rfl) rfl ?_
      refine st_p (mv rfl) rfl ?_
      first | refine st_p (op_addi rfl rfl (by omega)) rfl ?_ | refine st_p (op_add rfl rfl) rfl ?_
      refine st_p (mv rfl) rfl ?_
      first | refine st_p (op_capN Tryz.underlying37 rfl) rfl ?_ | refine st_c (opc_cap Tryz.underlying37 rfl (by omega) (by first | decide | omega)) rfl ?_
      first | refine st_p (OpP.conv (op_gt rfl rfl) (yes (by first | assumption | omega))) rfl ?_ | refine st_p (OpP.conv (op_gt rfl rfl) (no (by first | assumption | omega))) rfl ?_ | refine st_p (op_gt rfl rfl) rfl ?_
      refine al_nil ?_
      refine nm ?_
      -- IF t31
      obtain ⟨J, hJ⟩ : ∃ J, J = l ++ List.replicate (capR r0 0 - l.length) (junk 3) := ⟨_, rfl⟩
      have hlJ : J.length = capR r0 0 := by rw [hJ, List.length_append, List.length_replicate]; omega
      refine aw_room 0 (h' := [(0, .cells 3 J), (1, .cells 3 [x])]) rfl (by omega) (by rw [← hJ]; rfl) ?_
      refine aw_no (rfl) ?_
      refine aw_skip ?_
      refine nm ?_
      refine aw_seq ?_
      refine aw_region ?_
      refine st_p (mv rfl) rfl ?_
      refine st_p (mv rfl) rfl ?_
      refine st_p (mv rfl) rfl ?_
      first | refine st_p (op_addi rfl rfl (by omega)) rfl ?_ | refine st_p (op_add rfl rfl) rfl ?_
      first | refine st_p (op_sliceN Tryz.underlying37 z88 rfl rfl) rfl ?_ | refine st_p (op_sliceL Tryz.underlying37 z88 rfl (by exact rfl) (by exact ⟨_, rfl⟩) (by first | omega | (simp only [bl_len, List.length_map, List.length_append, List.length_take, List.length_drop]; omega)) (by first | omega | (simp only [bl_len, List.length_map, List.length_append, List.length_take, List.length_drop]; omega)) (by first | omega | (simp only [bl_len, List.length_map, List.length_append, List.length_take, List.length_drop]; omega))) rfl ?_ | refine st_p (op_slice Tryz.underlying37 z88 rfl rfl (by exact rfl) (by exact ⟨_, rfl⟩) (by first | omega | (simp only [bl_len, List.length_map, List.length_append, List.length_take, List.length_drop]; omega)) (by first | omega | (simp only [bl_len, List.length_map, List.length_append, List.length_take, List.length_drop]; omega)) (by first | omega | (simp only [bl_len, List.length_map, List.length_append, List.length_take, List.length_drop]; omega))) rfl ?_ | refine st_p (op_slice Tryz.underlying37 z88 rfl hget_top (by exact rfl) (by exact ⟨_, rfl⟩) (by first | omega | (simp only [bl_len, List.length_map, List.length_append, List.length_take, List.length_drop]; omega)) (by first | omega | (simp only [bl_len, List.length_map, List.length_append, List.length_take, List.length_drop]; omega)) (by first | omega | (simp only [bl_len, List.length_map, List.length_append, List.length_take, List.length_drop]; omega))) rfl ?_ | refine st_p (op_sliceC Tryz.underlying37 z88 rfl rfl (by exact rfl) (by exact ⟨_, rfl⟩) (by first | omega | (simp only [bl_len, List.length_map, List.length_append, List.length_take, List.length_drop]; omega)) (by first | omega | (simp only [bl_len, List.length_map, List.length_append, List.length_take, List.length_drop]; omega)) (by omega) (by first | omega | (simp only [bl_len, List.length_map, List.length_append, List.length_take, List.length_drop]; omega))) rfl ?_
      refine st_p (mva rfl) rfl ?_
      refine al_nil ?_
      refine nm ?_
      refine aw_seq ?_
      refine aw_seq ?_
      refine aw_region ?_
      refine st_p (mv rfl) rfl ?_
      refine st_p (mv rfl) rfl ?_
      refine st_p (mv rfl) rfl ?_
      refine st_p (mv rfl) rfl ?_
      first | refine st_p (op_addi rfl rfl (by omega)) rfl ?_ | refine st_p (op_add rfl rfl) rfl ?_
      first | refine st_p (op_sliceL Tryz.underlying37 z88 rfl (by exact ⟨_, rfl⟩) (by exact rfl) (by first | omega | (simp only [bl_len, List.length_map, List.length_append, List.length_take, List.length_drop]; omega)) (by first | omega | (simp only [bl_len, List.length_map, List.length_append, List.length_take, List.length_drop]; omega)) (by first | omega | (simp only [bl_len, List.length_map, List.length_append, List.length_take, List.length_drop]; omega))) rfl ?_ | refine st_p (op_slice Tryz.underlying37 z88 rfl rfl (by exact ⟨_, rfl⟩) (by exact rfl) (by first | omega | (simp only [bl_len, List.length_map, List.length_append, List.length_take, List.length_drop]; omega)) (by first | omega | (simp only [bl_len, List.length_map, List.length_append, List.length_take, List.length_drop]; omega)) (by first | omega | (simp only [bl_len, List.length_map, List.length_append, List.length_take, List.length_drop]; omega))) rfl ?_ | refine st_p (op_slice Tryz.underlying37 z88 rfl hget_top (by exact ⟨_, rfl⟩) (by exact rfl) (by first | omega | (simp only [bl_len, List.length_map, List.length_append, List.length_take, List.length_drop]; omega)) (by first | omega | (simp only [bl_len, List.length_map, List.length_append, List.length_take, List.length_drop]; omega)) (by first | omega | (simp only [bl_len, List.length_map, List.length_append, List.length_take, List.length_drop]; omega))) rfl ?_ | refine st_p (op_sliceC Tryz.underlying37 z88 rfl rfl (by exact ⟨_, rfl⟩) (by exact rfl) (by first | omega | (simp only [bl_len, List.length_map, List.length_append, List.length_take, List.length_drop]; omega)) (by first | omega | (simp only [bl_len, List.length_map, List.length_append, List.length_take, List.length_drop]; omega)) (by omega) (by first | omega | (simp only [bl_len, List.length_map, List.length_append, List.length_take, List.length_drop]; omega))) rfl ?_
      -- STOP: call slices.overlaps[diwan/api.Seat](t61, t66) -> 67
      refine st_p (op_overlaps Tryz.func179 ov_name_seat rfl ov_next_seat ov_find_seat Tryz.underlying37 z88 (by omega) rfl (by omega) rfl (by omega) rfl (by omega) rfl (by omega) (by decide)) rfl ?_
      first | refine st_p (op_notT rfl) rfl ?_ | refine st_p (op_notF rfl) rfl ?_ | refine st_p (op_not rfl) rfl ?_
      refine al_nil ?_
      refine nm ?_
      -- IF t68
      refine aw_yes (rfl) ?_
      refine aw_seq ?_
      have hzJ : ∀ z ∈ J, z.cells.length = 3 := fun z hz => by
        rw [hJ] at hz
        rcases List.mem_append.1 hz with h | h
        · exact hzl z h
        · rw [List.eq_of_mem_replicate h]; exact junk_len 3
      have hlJ' : l.length + 1 ≤ J.length := by omega
      refine dr_go ?_
      refine dr_f 0 0 [0] rfl (fun H => mv rfl) ?_
      refine dr_f 0 0 [1] rfl (fun H => mv rfl) ?_
      refine dr_f 0 0 [7] rfl (fun H => mv rfl) ?_
      first | refine dr_f 0 0 [70, 71] rfl (fun H => op_addi rfl rfl (by omega)) ?_ | refine dr_f 0 0 [70, 71] rfl (fun H => op_add rfl rfl) ?_
      first | refine dr_q 0 0 [69, 72] rfl (op_sliceL Tryz.underlying37 z88 rfl (by exact ⟨_, rfl⟩) (by exact rfl) (by first | omega | (simp only [bl_len, List.length_map, List.length_append, List.length_take, List.length_drop]; omega)) (by first | omega | (simp only [bl_len, List.length_map, List.length_append, List.length_take, List.length_drop]; omega)) (by first | omega | (simp only [bl_len, List.length_map, List.length_append, List.length_take, List.length_drop]; omega))) ?_ | refine dr_q 0 0 [69, 72] rfl (op_slice Tryz.underlying37 z88 rfl rfl (by exact ⟨_, rfl⟩) (by exact rfl) (by first | omega | (simp only [bl_len, List.length_map, List.length_append, List.length_take, List.length_drop]; omega)) (by first | omega | (simp only [bl_len, List.length_map, List.length_append, List.length_take, List.length_drop]; omega)) (by first | omega | (simp only [bl_len, List.length_map, List.length_append, List.length_take, List.length_drop]; omega))) ?_ | refine dr_q 0 0 [69, 72] rfl (op_slice Tryz.underlying37 z88 rfl hget_top (by exact ⟨_, rfl⟩) (by exact rfl) (by first | omega | (simp only [bl_len, List.length_map, List.length_append, List.length_take, List.length_drop]; omega)) (by first | omega | (simp only [bl_len, List.length_map, List.length_append, List.length_take, List.length_drop]; omega)) (by first | omega | (simp only [bl_len, List.length_map, List.length_append, List.length_take, List.length_drop]; omega))) ?_ | refine dr_q 0 0 [69, 72] rfl (op_sliceC Tryz.underlying37 z88 rfl rfl (by exact ⟨_, rfl⟩) (by exact rfl) (by first | omega | (simp only [bl_len, List.length_map, List.length_append, List.length_take, List.length_drop]; omega)) (by first | omega | (simp only [bl_len, List.length_map, List.length_append, List.length_take, List.length_drop]; omega)) (by omega) (by first | omega | (simp only [bl_len, List.length_map, List.length_append, List.length_take, List.length_drop]; omega))) ?_
      refine dr_f 0 0 [0] rfl (fun H => mv rfl) ?_
      refine dr_f 0 0 [1] rfl (fun H => mv rfl) ?_
      first | refine dr_q 0 0 [74, 75] rfl (op_sliceL Tryz.underlying37 z88 rfl (by exact ⟨_, rfl⟩) (by exact rfl) (by first | omega | (simp only [bl_len, List.length_map, List.length_append, List.length_take, List.length_drop]; omega)) (by first | omega | (simp only [bl_len, List.length_map, List.length_append, List.length_take, List.length_drop]; omega)) (by first | omega | (simp only [bl_len, List.length_map, List.length_append, List.length_take, List.length_drop]; omega))) ?_ | refine dr_q 0 0 [74, 75] rfl (op_slice Tryz.underlying37 z88 rfl rfl (by exact ⟨_, rfl⟩) (by exact rfl) (by first | omega | (simp only [bl_len, List.length_map, List.length_append, List.length_take, List.length_drop]; omega)) (by first | omega | (simp only [bl_len, List.length_map, List.length_append, List.length_take, List.length_drop]; omega)) (by first | omega | (simp only [bl_len, List.length_map, List.length_append, List.length_take, List.length_drop]; omega))) ?_ | refine dr_q 0 0 [74, 75] rfl (op_slice Tryz.underlying37 z88 rfl hget_top (by exact ⟨_, rfl⟩) (by exact rfl) (by first | omega | (simp only [bl_len, List.length_map, List.length_append, List.length_take, List.length_drop]; omega)) (by first | omega | (simp only [bl_len, List.length_map, List.length_append, List.length_take, List.length_drop]; omega)) (by first | omega | (simp only [bl_len, List.length_map, List.length_append, List.length_take, List.length_drop]; omega))) ?_ | refine dr_q 0 0 [74, 75] rfl (op_sliceC Tryz.underlying37 z88 rfl rfl (by exact ⟨_, rfl⟩) (by exact rfl) (by first | omega | (simp only [bl_len, List.length_map, List.length_append, List.length_take, List.length_drop]; omega)) (by first | omega | (simp only [bl_len, List.length_map, List.length_append, List.length_take, List.length_drop]; omega)) (by omega) (by first | omega | (simp only [bl_len, List.length_map, List.length_append, List.length_take, List.length_drop]; omega))) ?_
      first | refine dr_e 0 [73, 76] rfl (op_copy Tryz.underlying37 z88 rfl (by omega) rfl (by omega) rfl (.own rfl (by omega))) ?_ | refine dr_e 0 [73, 76] rfl (op_copy Tryz.underlying37 z88 rfl (by omega) rfl (by omega) rfl (.sl (.inr trivial))) ?_ | refine dr_e 0 [73, 76] rfl (op_copy Tryz.underlying37 z88 rfl (by omega) rfl (by omega) rfl .nils) ?_ | refine dr_e 0 [73, 76] rfl (op_copy Tryz.underlying37 z88 rfl (by omega) hget_top (by omega) rfl (.own rfl (by omega))) ?_ | refine dr_e 0 [73, 76] rfl (op_copy Tryz.underlying37 z88 rfl (by omega) hget_top (by omega) rfl (.sl (.inr trivial))) ?_ | refine dr_e 0 [73, 76] rfl (op_copy Tryz.underlying37 z88 rfl (by omega) hget_top (by omega) rfl .nils) ?_
      refine dr_end [] (by kernel_rfl) (by kernel_rfl) (by kernel_rfl) (by kernel_rfl) trivial ?_
      refine nm ?_
      refine aw_seq ?_
      have e5 : ((J.drop (0 + Int.toNat 0 + (i : Int).toNat)).take ((((((l.length : Int) + ((1 : Nat) : Int)).toNat - Int.toNat 0 : Nat) : Int)).toNat - (i : Int).toNat)).take (l.length - i) = l.drop i := by
        rw [show 0 + Int.toNat 0 + (i : Int).toNat = i from by omega, List.take_take, Nat.min_eq_left (by omega), hJ, List.drop_append_of_le_length (by omega)]
        exact List.take_left' (by rw [List.length_drop])
      obtain ⟨J1, hJ1⟩ : ∃ J1, J1 = J.take (i + 1) ++ l.drop i ++ J.drop (l.length + 1) := ⟨_, rfl⟩
      have hl1 : J1.length = J.length := by rw [hJ1, List.length_append, List.length_append, List.length_take, List.length_drop, List.length_drop]; omega
      refine aw_re rfl (h' := [(0, .cells 3 J1), (1, .cells 3 [x])]) ?_ ?_
      · refine hset2 ?_
        rw [hJ1]
        have e7 : min ((J.drop (0 + Int.toNat 0 + (i : Int).toNat)).take ((((((l.length : Int) + ((1 : Nat) : Int)).toNat - Int.toNat 0 : Nat) : Int)).toNat - (i : Int).toNat)).length ((((((l.length : Int) + ((1 : Nat) : Int)).toNat - Int.toNat 0 : Nat) : Int)).toNat - ((i : Int) + ((1 : Nat) : Int)).toNat) = l.length - i := by
          rw [List.length_take, List.length_drop]; omega
        refine cp_eq (by omega) ?_ ?_
        · rw [e7]; exact e5
        · rw [e7]; omega
      refine aw_region ?_
      refine st_p (mv rfl) rfl ?_
      refine st_p (mv rfl) rfl ?_
      first | refine st_p (op_sliceL Tryz.underlying37 z88 rfl (by exact ⟨_, rfl⟩) (by exact rfl) (by first | omega | (simp only [bl_len, List.length_map, List.length_append, List.length_take, List.length_drop]; omega)) (by first | omega | (simp only [bl_len, List.length_map, List.length_append, List.length_take, List.length_drop]; omega)) (by first | omega | (simp only [bl_len, List.length_map, List.length_append, List.length_take, List.length_drop]; omega))) rfl ?_ | refine st_p (op_slice Tryz.underlying37 z88 rfl rfl (by exact ⟨_, rfl⟩) (by exact rfl) (by first | omega | (simp only [bl_len, List.length_map, List.length_append, List.length_take, List.length_drop]; omega)) (by first | omega | (simp only [bl_len, List.length_map, List.length_append, List.length_take, List.length_drop]; omega)) (by first | omega | (simp only [bl_len, List.length_map, List.length_append, List.length_take, List.length_drop]; omega))) rfl ?_ | refine st_p (op_slice Tryz.underlying37 z88 rfl hget_top (by exact ⟨_, rfl⟩) (by exact rfl) (by first | omega | (simp only [bl_len, List.length_map, List.length_append, List.length_take, List.length_drop]; omega)) (by first | omega | (simp only [bl_len, List.length_map, List.length_append, List.length_take, List.length_drop]; omega)) (by first | omega | (simp only [bl_len, List.length_map, List.length_append, List.length_take, List.length_drop]; omega))) rfl ?_ | refine st_p (op_sliceC Tryz.underlying37 z88 rfl rfl (by exact ⟨_, rfl⟩) (by exact rfl) (by first | omega | (simp only [bl_len, List.length_map, List.length_append, List.length_take, List.length_drop]; omega)) (by first | omega | (simp only [bl_len, List.length_map, List.length_append, List.length_take, List.length_drop]; omega)) (by omega) (by first | omega | (simp only [bl_len, List.length_map, List.length_append, List.length_take, List.length_drop]; omega))) rfl ?_
      refine st_p (mv rfl) rfl ?_
      first | refine st_o (op_copy Tryz.underlying37 z88 rfl (by omega) rfl (by omega) rfl (.own rfl (by omega))) rfl ?_ | refine st_o (op_copy Tryz.underlying37 z88 rfl (by omega) rfl (by omega) rfl (.sl (.inr trivial))) rfl ?_ | refine st_o (op_copy Tryz.underlying37 z88 rfl (by omega) rfl (by omega) rfl .nils) rfl ?_ | refine st_o (op_copy Tryz.underlying37 z88 rfl (by omega) hget_top (by omega) rfl (.own rfl (by omega))) rfl ?_ | refine st_o (op_copy Tryz.underlying37 z88 rfl (by omega) hget_top (by omega) rfl (.sl (.inr trivial))) rfl ?_ | refine st_o (op_copy Tryz.underlying37 z88 rfl (by omega) hget_top (by omega) rfl .nils) rfl ?_
      refine al_nil ?_
      refine nm ?_
      refine aw_seq ?_
      obtain ⟨J2, hJ2⟩ : ∃ J2, J2 = J1.take i ++ [x] ++ J1.drop (i + 1) := ⟨_, rfl⟩
      refine aw_re rfl (h' := [(0, .cells 3 J2), (1, .cells 3 [x])]) ?_ ?_
      · refine hset2 ?_
        rw [hJ2]
        have e1 : (([x].drop 0).take 1) = [x] := rfl
        have e8 : min (([x].drop 0).take 1).length ((((((l.length : Int) + ((1 : Nat) : Int)).toNat - Int.toNat 0 : Nat) : Int)).toNat - (i : Int).toNat) = 1 := by rw [e1, hn1]; omega
        refine cp_eq (by omega) ?_ ?_
        · rw [e8]; rfl
        · rw [e8]; omega
      refine aw_trim 0 (l.length + 1) rfl ?_
      refine aw_region ?_
      refine st_p (mv rfl) rfl ?_
      refine st_p (mva rfl) rfl ?_
      refine al_nil ?_
      refine nm ?_
      refine aw_ret ?_
      refine rs ?_
      have e6 : J2.take (l.length + 1) = insA l i x := by rw [hJ2, hJ1]; exact ins_room l x i hlt J _ hJ
      exact ret_a ⟨[(6, .own (K + 2) 0 (l.length + 1))], [(K + 2, .cells 3 (insA l i x))], K + 3⟩ (le_to [(K + 2, 0)] (by first | rfl | simp) (by first | rfl | simp) (by first | rfl | simp) (by first | rfl | simp) (by first | rfl | simp [apart]) ⟨by simp [tget, AV.ren, swp], trivial⟩ ⟨by rw [hsw2]; simp [hget, swp, hset, e6], trivial⟩) (res1 Tryz.results154) hal' ⟨rfl, rfl, rfl⟩

end Go.Proofs.YtloddmbbfkejcaaGreat.Abs
end
