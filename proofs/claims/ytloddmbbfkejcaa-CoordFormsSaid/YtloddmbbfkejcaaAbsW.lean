/-
  A machine that runs codes whose inputs are known: its walk is sound. It holds of any program.
-/
import Derived.Test.YtloddmbbfkejcaaAbsV
namespace Go.Proofs.Ytloddmbbfkejcaa.Abs

theorem forceI_eq {α : Type} (n : Int) (k : Int → α) : forceI n k = k n := by
  unfold forceI
  cases n <;> rfl

theorem forceV_eq {α : Type} (v : AV) (k : AV → α) : forceV v k = k v := by
  unfold forceV
  split
  · exact forceI_eq _ _
  · rename_i b; cases b <;> rfl
  · rfl
  · rfl
  · rfl

theorem putF_eq {α : Type} (d : Option Nat) (v : AV) (st : St) (k : St → α) : putF d v st k = k (putA d v st) := by
  unfold putF putA
  cases d with
  | none => rfl
  | some d => exact (forceV_eq _ _).trans rfl

theorem tgTop_eq (tm : List (Nat × AV)) (d : Nat) : tgTop tm d = tget tm d := by
  unfold tgTop
  rw [tgF_eq]
  induction tm with
  | nil => rfl
  | cons p t ih =>
    obtain ⟨i, v⟩ := p
    unfold tgetS tget
    by_cases e : i = d
    · rw [if_pos e, if_pos e]
    · rw [if_neg e, if_neg e]; exact ih

theorem gdst_eq (ops : List Oper) (j : Nat) : gdst ops j = (ops.toArray[j]?).bind (·.dst) := by
  unfold gdst
  rw [List.getElem?_toArray]
  cases ops[j]? <;> rfl

theorem dstOK_ok {n : Nat} {d : Option Nat} (h : dstOK n d = true) : ∀ k, d = some k → k < n := by
  intro k e
  subst e
  simpa [dstOK] using h

/-- What calls do. -/
def CFok (P : Program) (cf : CF) : Prop := ∀ f args h nx r h' nx', cf f args h nx = some (r, h', nx') → (∃ fn, P.funcs[f]? = some fn ∧ (fn.name == "runtime.NumGoroutine") = false ∧ fn.body.isNone = false) ∧
  ∀ al, (al = true ∨ (r.nosl = true ∧ h'.all (fun p => p.2.nosl) = true)) → AC P f args h nx al (fun a b c => a = r ∧ b = h' ∧ c = nx')

section
variable {P : Program}

/-- An operation that enters a function with the whole heap. -/
theorem enter_ok {op : Op} {tm : List (Nat × AV)} {h : Heap} {nx : Nat} {f : FuncId} {args : List AV} {r : AV} {h' : Heap} {nx' : Nat} (hac : AC P f args h nx true (fun a b c => a = r ∧ b = h' ∧ c = nx')) (hle : nx ≤ nx')
    (H : ∀ (c : Ctx) (n : Nat) (ρ : Rho) (S : Nat → Prop) (a : Act) (w : World), Rep c n ⟨tm, h, nx⟩ ρ S a w → ∀ o : Oper, o.op = op → ∃ vals, (execOp a.eval o).run P w = .ok (.enter f vals) w ∧ VRs S w ρ args vals) : OpOK P op ⟨tm, h, nx⟩ r h' nx' := by
  intro c n ρ S a w hr o ho
  obtain ⟨vals, hrun, hvrs⟩ := H c n ρ S a w hr o ho
  unfold Does
  rw [hrun]
  refine (hac ρ S w _ hr.sim hr.fresh hvrs).mono ?_
  rintro e w' ⟨v, r', hh, nn, ρ', S', rfl, ⟨rfl, rfl, rfl⟩, hv, hs, hf2, hdm, hp⟩
  refine ⟨v, rfl, ρ', fun b => S b ∨ S' b, ?_, hv.mono (fun b hb => ⟨.inr hb, rfl⟩) (fun _ _ h => h), ?_, ?_⟩
  rotate_left
  · exact fun b q hb => (hp.ids b (hr.known hb)).trans hb
  · intro b hb
    refine ⟨.inl hb, hp.keep b (hr.sim.lt b hb) ?_⟩
    rintro ⟨i, B, q, e1, e2, rfl⟩
    exact (blk_of hr e1 e2).1 hb
  have hno : ∀ b, S b → ¬ Own ρ h b := by
    rintro b hb ⟨i, B, q, e1, e2, rfl⟩
    exact (blk_of hr e1 e2).1 hb
  have hkeepS : ∀ b, S b → w'.heap[b]? = w.heap[b]? := fun b hb => hp.keep b (hr.sim.lt b hb) (hno b hb)
  have hq := hr.post
  have hown : ∀ b, Own ρ h b → c.own0 b ∨ c.w0.heap.size ≤ b := by
    rintro b ⟨i, B, q, e1, e2, rfl⟩
    exact hq.own i B q e1 e2
  refine ⟨hr.size, hr.defers, fun i => (hr.tmps i).mono (fun b hb => ⟨.inl hb, hkeepS b hb⟩) (fun b q hb => (hp.ids b (hr.known hb)).trans hb), ⟨fun b B hb => ?_, hs.inj, fun b hb => ?_⟩, ?_, hf2, Nat.le_trans hr.le hle, hdm⟩
  · rcases hs.blk b B hb with ⟨q, e1, e2, e3, e4⟩ | hv2
    · refine .inl ⟨q, e1, e2.mono (fun b hb => ⟨.inr hb, rfl⟩) (fun _ _ h => h) rfl, ?_, e4⟩
      rintro (h5 | h5)
      · rcases hp.own q.blk ⟨b, B, q, hb, e1, rfl⟩ with h6 | h6
        · exact hno _ h5 h6
        · have := hr.sim.lt _ h5; omega
      · exact e3 h5
    · exact .inr hv2
  · rcases hb with h5 | h5
    · exact Nat.lt_of_lt_of_le (hr.sim.lt b h5) hp.size
    · exact hs.lt b h5
  · refine ⟨hp.os.trans hq.os, hp.tape.trans hq.tape, hp.output.trans hq.output, Nat.le_trans hq.size hp.size, fun b hb ho => ?_, fun b hb => .inl (hq.sIn b hb), fun b hb => ?_, fun b B q e1 e2 => ?_, fun b hb => ?_⟩
    · refine (hp.keep b (Nat.lt_of_lt_of_le hb hq.size) (fun hO => ?_)).trans (hq.keep b hb ho)
      rcases hown b hO with h5 | h5
      · exact ho h5
      · omega
    · rcases hb with h5 | h5
      · exact hq.sNew b h5
      · rcases hp.s b h5 with ⟨_, h6⟩ | h6
        · exact hq.sNew b h6
        · exact .inr (Nat.le_trans hq.size h6)
    · rcases hp.own q.blk ⟨b, B, q, e1, e2, rfl⟩ with h5 | h5
      · exact hown _ h5
      · exact .inr (Nat.le_trans hq.size h5)
    · exact (hp.ids b (Nat.lt_of_lt_of_le hb hr.le)).trans (hq.ids b hb)

/-- A call that is handed the whole heap. -/
theorem op_callI {tm : List (Nat × AV)} {h : Heap} {nx : Nat} {fo : Operand} {xs : Array Operand} {ts : Array TypeId} {f : FuncId} {fn : Func} {first caps args : List AV} {r : AV} {h' : Heap} {nx' : Nat}
    (hac : AC P f (first ++ (args ++ caps)) h nx true (fun a b c => a = r ∧ b = h' ∧ c = nx')) (hf : P.funcs[f]? = some fn) (hn : (fn.name == "runtime.NumGoroutine") = false ∧ fn.body.isNone = false)
    (hfo : oev tm fo = .fn (.func f) first caps) (hargs : xs.toList.map (oev tm) = args) (hle : nx ≤ nx') : OpOK P (.call { callee := .value fo, args := xs, argTypes := ts }) ⟨tm, h, nx⟩ r h' nx' := by
  refine enter_ok hac hle fun c n ρ S a w hr o ho => ?_
  have hf' := hr.oev fo
  rw [show (St.mk tm h nx).tm = tm from rfl, hfo] at hf'
  generalize hfv : a.eval fo = fv at hf'
  cases hf' with
  | fn us vs h1 h2 h3 h4 =>
  have hrun : (execOp a.eval o).run P w = .ok (.enter f (us ++ xs.map a.eval ++ vs)) w := by
    unfold execOp
    rw [ho]
    simp only [resolve, hfv, Deferred.ofValue, Sem.run_bind, Sem.run_pure, Result.andThen_ok, invoke]
    exact AC.calls hf hn _ _
  have hargsVR : ∀ (i : Nat) (x : AV) (u : Value), (first ++ (args ++ caps))[i]? = some x → (us ++ xs.map a.eval ++ vs)[i]? = some u → VR S w ρ x u := by
    intro i x u hx hu
    subst hargs
    rw [Array.append_assoc] at hu
    rcases Nat.lt_or_ge i first.length with hlt | hge
    · rw [List.getElem?_append_left hlt] at hx
      rw [Array.getElem?_append_left (by omega)] at hu
      exact h3 i x u hx hu
    · rw [List.getElem?_append_right hge] at hx
      rw [Array.getElem?_append_right (by omega), ← h1] at hu
      generalize i - first.length = j at hx hu
      rcases Nat.lt_or_ge j xs.size with hlt | hge
      · rw [List.getElem?_append_left (by simpa using hlt)] at hx
        rw [Array.getElem?_append_left (by simpa using hlt)] at hu
        rw [List.getElem?_map, Array.getElem?_toList] at hx
        rw [Array.getElem?_map] at hu
        obtain ⟨y, hy, rfl⟩ := Option.map_eq_some_iff.1 hx
        rw [hy] at hu
        obtain rfl := Option.some.inj hu
        exact hr.oev y
      · rw [List.getElem?_append_right (by simpa using hge)] at hx
        rw [Array.getElem?_append_right (by simpa using hge)] at hu
        simp only [List.length_map, Array.length_toList] at hx
        simp only [Array.size_map] at hu
        exact h4 _ x u hx hu
  have hlen : (first ++ (args ++ caps)).length = (us ++ xs.map a.eval ++ vs).size := by
    subst hargs
    simp [h1, h2, Nat.add_assoc]
  exact ⟨_, hrun, hlen, hargsVR⟩

theorem methF_ok {t : TypeId} {m : String} {f : FuncId} {pr : Bool} {e : TypeId} (h : methF P t m = some (f, pr, e)) : ∃ i mm, P.info? t = some i ∧ P.underlying t = some (.pointer e) ∧ i.methods.find? (·.name == m) = some mm ∧ mm.path = #[] ∧ mm.func = some (f, pr) := by
  unfold methF at h
  split at h
  · rename_i i e' hi hu
    split at h
    · rename_i mm hm
      split at h
      · rename_i g pr' hp hf
        simp only [Option.some.injEq, Prod.mk.injEq] at h
        obtain ⟨rfl, rfl, rfl⟩ := h
        exact ⟨i, mm, hi, hu, hm, by rw [← Array.toArray_toList (xs := mm.path), hp], hf⟩
      · cases h
    · cases h
  · cases h

/-- A method of a value behind an interface. -/
theorem op_inv {tm : List (Nat × AV)} {h : Heap} {nx : Nat} {rc : Operand} {m : String} {xs : Array Operand} {ts : Array TypeId} {t e : TypeId} {b i o : Nat} {as : List AV} {f : FuncId} {fn : Func} {pr : Bool} {rv r : AV} {h' : Heap} {nx' : Nat}
    (hrc : oev tm rc = .ifc t (.ptr b i o)) (has : xs.toList.map (oev tm) = as) (hm : methF P t m = some (f, pr, e)) (hrv : (if pr then some (AV.ptr b i o) else stepH0 P [(0, .ptr b i o)] h e (.tmp 0)) = some rv)
    (hac : AC P f (rv :: as) h nx true (fun a b c => a = r ∧ b = h' ∧ c = nx')) (hf : P.funcs[f]? = some fn) (hn : (fn.name == "runtime.NumGoroutine") = false ∧ fn.body.isNone = false) (hle : nx ≤ nx') :
    OpOK P (.call { callee := .invoke rc m, args := xs, argTypes := ts }) ⟨tm, h, nx⟩ r h' nx' := by
  refine enter_ok hac hle fun c n ρ S a w hr oo ho => ?_
  obtain ⟨inf, mm, i1, i2, i3, i4, i5⟩ := methF_ok hm
  have hv := hr.oev rc
  rw [show (St.mk tm h nx).tm = tm from rfl, hrc] at hv
  generalize hev : a.eval rc = u at hv
  cases hv with
  | @ifc _ _ _ u' hv =>
  -- the receiver
  have hrec : ∃ rvv, (receiverAt t (.val u') pr (some ((m.splitOn ".").getLastD m))).run P w = .ok rvv w ∧ VR S w ρ rv rvv := by
    cases pr with
    | true =>
      simp only [if_true, Option.some.injEq] at hrv
      subst hrv
      exact ⟨u', by simp [receiverAt, run_underlying i2, Place.get], hv⟩
    | false =>
      simp only [Bool.false_eq_true, if_false] at hrv
      have hr1 : Rep c 1 ⟨[(0, .ptr b i o)], h, nx⟩ ρ S { tmps := #[u'], defers := [] } w := by
        refine ⟨rfl, rfl, fun k => ?_, hr.sim, hr.post, hr.fresh, hr.le, hr.dom⟩
        show VR S w ρ (tget [(0, .ptr b i o)] k) _
        simp only [tget]
        by_cases hk : 0 = k
        · subst hk; rw [if_pos rfl]; exact hv
        · rw [if_neg hk]; exact .top
      have hop : OpP P (.load e (.tmp 0)) [(0, .ptr b i o)] h rv := stepH_ok (by unfold stepH; exact hrv)
      obtain ⟨rvv, k1, k2⟩ := hop c 1 nx ρ S _ w hr1
      refine ⟨rvv, ?_, k2⟩
      have h3 := k1 ⟨none, .load e (.tmp 0), 0, "", #[], none⟩ rfl
      have ea : Act.eval { tmps := #[u'], defers := [] } (.tmp 0) = u' := rfl
      cases hv with
      | ptr hp =>
        simp only [execOp, Instr.loadAt, Instr.sureAddr, Sem.run_bind, ea, Sem.run_pure, Result.andThen_ok] at h3
        generalize hl : (loadVar e _).run P w = q at h3
        cases q with
        | ok z w1 =>
          simp only [Result.andThen_ok, Sem.run_pure, Result.ok.injEq, Next.value.injEq] at h3
          obtain ⟨rfl, rfl⟩ := h3
          have hw : ∀ (q : Addr) (nm : String), (Builtin.ssaWrapNilChk_ #[t] t #[.pointer (some q), strVal "", strVal nm]).run P w1 = .ok (.pointer (some q)) w1 := fun _ _ => rfl
          simp only [receiverAt, Sem.run_bind, run_underlying i2, Result.andThen_ok, Place.get, Sem.run_pure, hw, asAddr, hl]
        | halt z w1 => cases h3
  obtain ⟨rvv, k1, k2⟩ := hrec
  refine ⟨#[rvv] ++ xs.map a.eval, ?_, ?_, ?_⟩
  · unfold execOp
    rw [ho]
    have hmeth : (method (P.types.size + Made.depth) t u' m).run P w = .ok (f, rvv) w := by
      have e1 : P.types.size + Made.depth = (P.types.size + Made.depth - 1) + 1 := by simp [Made.depth]
      rw [e1]
      unfold method
      have hp0 : mm.path.isEmpty = true := by rw [i4]; rfl
      simp only [typeInfo, Sem.run_bind, run_program, Result.andThen_ok, i1, Sem.run_pure, i3, i4, follow, i5, List.isEmpty_toArray, List.isEmpty_nil, if_true, k1]
    simp only [resolve, hev, invoke, callMethod, Sem.run_bind, Sem.run_pure, Result.andThen_ok, run_program]
    have hx0 : (#[Value.iface t u'] ++ xs.map a.eval)[0]? = some (Value.iface t u') := by rw [Array.getElem?_append_left (by exact Nat.zero_lt_one)]; rfl
    have hx1 : (#[Value.iface t u'] ++ xs.map a.eval).extract 1 (#[Value.iface t u'] ++ xs.map a.eval).size = xs.map a.eval := by
      apply Array.ext'
      simp [List.take_of_length_le]
    rw [hx0, hx1]
    simp only [callMethod, Sem.run_bind, run_program, Result.andThen_ok, hmeth]
    exact AC.calls hf hn _ _
  · subst has; simp [Nat.add_comm]
  · intro j x u hx hu
    cases j with
    | zero => simp only [List.getElem?_cons_zero, Option.some.injEq] at hx; subst hx; rw [Array.getElem?_append_left (by exact Nat.zero_lt_one)] at hu; obtain rfl := Option.some.inj hu; exact k2
    | succ j =>
      rw [List.getElem?_cons_succ] at hx
      rw [Array.getElem?_append_right (by exact Nat.succ_le_succ (Nat.zero_le j))] at hu
      rw [show j + 1 - #[rvv].size = j from rfl] at hu
      subst has
      rw [List.getElem?_map, Array.getElem?_toList] at hx
      rw [Array.getElem?_map] at hu
      obtain ⟨y, hy, rfl⟩ := Option.map_eq_some_iff.1 hx
      rw [hy] at hu
      obtain rfl := Option.some.inj hu
      exact hr.oev y

theorem isInv_ok {op : Op} {r : Operand} {m : String} {xs : Array Operand} (h : isInv op = some (r, m, xs)) : ∃ ts, op = .call { callee := .invoke r m, args := xs, argTypes := ts } := by
  unfold isInv at h
  split at h
  · rename_i c
    split at h
    · rename_i r' m' hc
      simp only [Option.some.injEq, Prod.mk.injEq] at h
      obtain ⟨rfl, rfl, rfl⟩ := h
      obtain ⟨cal, ys, ts⟩ := c
      simp only at hc
      subst hc
      exact ⟨ts, rfl⟩
    · cases h
  · cases h

theorem anyI_ok {cf : CF} (hcf : CFok P cf) {r : Operand} {m : String} {xs : Array Operand} {ts : Array TypeId} {tm : List (Nat × AV)} {h : Heap} {nx : Nat} {v : AV} {h' : Heap} {nx' : Nat} (he : anyI P cf r m xs tm h nx = some (v, h', nx')) :
    OpOK P (.call { callee := .invoke r m, args := xs, argTypes := ts }) ⟨tm, h, nx⟩ v h' nx' := by
  unfold anyI at he
  split at he
  · rename_i t b i o as h1 h2
    split at he
    · rename_i f pr e hm
      split at he
      · rename_i rv hrv
        split at he
        · rename_i v0 h0 n0 hr
          split at he
          · rename_i hle
            simp only [Option.some.injEq, Prod.mk.injEq] at he
            obtain ⟨rfl, rfl, rfl⟩ := he
            obtain ⟨⟨fn, q1, q2, q3⟩, q4⟩ := hcf _ _ _ _ _ _ _ hr
            exact op_inv (oeO h1) (oevsS_spec _ _ (oesF_spec h2)) hm hrv (q4 true (.inl rfl)) q1 ⟨q2, q3⟩ (Nat.le_of_ble_eq_true hle)
          · cases he
        · cases he
      · cases he
    · cases he
  · cases he

theorem callArgs_ok {tm : List (Nat × AV)} {c : Call} {f : FuncId} {args : List AV} (h : callArgs tm c = some (f, args)) : ∃ fo first caps a0, c.callee = .value fo ∧ oev tm fo = .fn (.func f) first caps ∧ c.args.toList.map (oev tm) = a0 ∧ oevsS tm c.args.toList = some a0 ∧ args = first ++ (a0 ++ caps) := by
  unfold callArgs at h
  split at h
  · rename_i fo hc
    split at h
    · rename_i g first caps a0 h1 h2
      simp only [Option.some.injEq, Prod.mk.injEq] at h
      obtain ⟨rfl, rfl⟩ := h
      exact ⟨fo, first, caps, a0, hc, oeO h1, oevsS_spec _ _ (oesF_spec h2), oesF_spec h2, rfl⟩
    · cases h
  · cases h

theorem isCall_ok {op : Op} {c : Call} (h : isCall op = some c) : op = .call c := by
  unfold isCall at h
  split at h
  · split at h
    · obtain rfl := Option.some.inj h; rfl
    · cases h
  · cases h

theorem stepAny_ok {cf : CF} (hcf : CFok P cf) {op : Op} {tm : List (Nat × AV)} {h : Heap} {nx : Nat} {v : AV} {h' : Heap} {nx' : Nat} (he : stepAny P cf op tm h nx = some (v, h', nx')) : OpOK P op ⟨tm, h, nx⟩ v h' nx' := by
  unfold stepAny at he
  split at he
  · unfold anyV at he
    split at he
    · rename_i hv; simp only [Option.some.injEq, Prod.mk.injEq] at he; obtain ⟨rfl, rfl, rfl⟩ := he; exact (stepV_ok hv).ok
    · cases he
  · unfold anyH at he
    split at he
    · rename_i hv; simp only [Option.some.injEq, Prod.mk.injEq] at he; obtain ⟨rfl, rfl, rfl⟩ := he; exact (stepH_ok hv).ok
    · split at he
      · rename_i hv; simp only [Option.some.injEq, Prod.mk.injEq] at he; obtain ⟨rfl, rfl, rfl⟩ := he; exact (stepV_ok hv).ok
      · split at he
        · rename_i hv; simp only [Option.some.injEq, Prod.mk.injEq] at he; obtain ⟨rfl, rfl, rfl⟩ := he; exact stepF_ok hv _
        · cases he
  · exact stepO_ok he
  · unfold anyC at he
    split at he
    · rename_i c hc
      split at he
      · rename_i f args ha
        split at he
        · rename_i r hh nn hr
          split at he
          · rename_i hle
            simp only [Option.some.injEq, Prod.mk.injEq] at he
            obtain ⟨rfl, rfl, rfl⟩ := he
            obtain ⟨fo, first, caps, a0, k1, k2, k3, _, rfl⟩ := callArgs_ok ha
            obtain ⟨⟨fn, q1, q2, q3⟩, q4⟩ := hcf _ _ _ _ _ _ _ hr
            rw [isCall_ok hc]
            obtain ⟨cal, xs, ts⟩ := c
            subst k1
            exact op_callI (q4 true (.inl rfl)) q1 ⟨q2, q3⟩ k2 k3 (Nat.le_of_ble_eq_true hle)
          · cases he
        · cases he
      · cases he
    · split at he
      · rename_i q1 q2 q3 hq
        obtain ⟨ts, rfl⟩ := isInv_ok hq
        exact anyI_ok hcf he
      · split at he
        · rename_i hv; simp only [Option.some.injEq, Prod.mk.injEq] at he; obtain ⟨rfl, rfl, rfl⟩ := he; exact (stepV_ok hv).ok
        · exact stepO_ok he

theorem runOps_ok {cf : CF} (hcf : CFok P cf) {c : Ctx} {n : Nat} {Q : Exit → St → Prop} {ops : List Oper} : ∀ (rest : List Oper) (st st' : St), runOps P cf n ops rest st = some st' → Q .normal st' → AL P c n ops.toArray Q rest st := by
  intro rest
  induction rest with
  | nil => intro st st' h hQ; simp only [runOps, Option.some.injEq] at h; subst h; exact al_nil hQ
  | cons o rest ih =>
    intro st st' h hQ
    unfold runOps at h
    split at h
    · rename_i hd
      have hd := dstOK_ok hd
      split at h
      · rename_i hg
        split at h
        · rename_i v h1 n1 he
          rw [putF_eq] at h
          exact al_op hg hd (stepAny_ok hcf he) (ih _ _ h hQ)
        · cases h
      · rename_i j b hg
        split at h
        · rename_i d hgd
          rw [gdst_eq] at hgd
          split at h
          · rename_i hdn
            have hdn : d < n := by simpa using hdn
            split at h
            · rename_i g hgv
              rw [tgTop_eq] at hgv
              split at h
              · rename_i hgb
                split at h
                · rename_i v h1 n1 he
                  rw [putF_eq] at h
                  have hgb : g = some b := by simpa using hgb
                  subst hgb
                  intro ρ S a w hr
                  unfold wpList
                  rw [if_pos (by simp [Region.wanted, hg, yielded_gv hr hgd hdn hgv])]
                  exact .inl (al_run hd hr (stepAny_ok hcf he) (ih _ _ h hQ))
                · cases h
              · rename_i hgb
                rw [putF_eq] at h
                exact al_pass hg hgd hdn hgv (by simpa using hgb) hd (ih _ _ h hQ)
            · cases h
          · cases h
        · cases h
    · cases h

/-- A loop, round by round. -/
def LW (P : Program) (c : Ctx) (n : Nat) (code : Code) (Q : Exit → St → Prop) (st : St) : Prop :=
  ∀ ρ S a w, Rep c n st ρ S a w → ∀ b k cs, ∃ e a' w', Lift c n Q e a' w' ∧ Arrives P (lone (b.at a (.code code :: .inLoop code :: k)) cs w) b k cs e a' w'

theorem lw_loop {c : Ctx} {n : Nat} {code : Code} {Q : Exit → St → Prop} {st : St} (h : LW P c n code Q st) : AW P c n (.loop code) Q st := by
  intro ρ S a w hr b k cs
  obtain ⟨e, a', w', hq, harr⟩ := h ρ S a w hr b k cs
  exact ⟨e, a', w', hq, .of_steps (.one step_loop) harr⟩

theorem lw_round {c : Ctx} {n : Nat} {code : Code} {Q : Exit → St → Prop} {st : St} (h : AW P c n code (thenA (LW P c n code Q) Q) st) : LW P c n code Q st := by
  intro ρ S a w hr b k cs
  obtain ⟨e, a₁, w₁, ⟨st₁, ρ₁, S₁, hq, hr₁⟩, harr⟩ := h ρ S a w hr b (.inLoop code :: k) cs
  cases e with
  | normal =>
    obtain ⟨e₂, a₂, w₂, hq₂, harr₂⟩ := hq ρ₁ S₁ a₁ w₁ hr₁ b k cs
    exact ⟨e₂, a₂, w₂, hq₂, .of_steps (Steps.trans harr (.one step_inLoop)) harr₂⟩
  | exit id => exact ⟨_, a₁, w₁, ⟨st₁, ρ₁, S₁, hq, hr₁⟩, .pass (x := .inLoop code) rfl (fun _ _ => .inl (by simp)) harr⟩
  | goto l => exact ⟨_, a₁, w₁, ⟨st₁, ρ₁, S₁, hq, hr₁⟩, .pass (x := .inLoop code) rfl (fun _ _ => .inl (by simp)) harr⟩
  | ret => exact ⟨_, a₁, w₁, ⟨st₁, ρ₁, S₁, hq, hr₁⟩, .pass (x := .inLoop code) rfl (fun _ _ => .inl (by simp)) harr⟩
  | panic ch => exact ⟨_, a₁, w₁, ⟨st₁, ρ₁, S₁, hq, hr₁⟩, .pass (x := .inLoop code) rfl (fun _ _ => .inl (by simp)) harr⟩
  | outgrown => exact ⟨_, a₁, w₁, ⟨st₁, ρ₁, S₁, hq, hr₁⟩, .pass (x := .inLoop code) rfl (fun _ _ => .inl (by simp)) harr⟩

/-- What may be dropped. -/
theorem Rep.drop {c : Ctx} {n : Nat} {tm tm' : List (Nat × AV)} {h h2 : Heap} {nx : Nat} {ρ : Rho} {S : Nat → Prop} {a : Act} {w : World} (hr : Rep c n ⟨tm, h, nx⟩ ρ S a w) (ht : ∀ i, tget tm' i = .top ∨ tget tm' i = tget tm i) (hh : ∀ b B, hget h2 b = some B → hget h b = some B) : Rep c n ⟨tm', h2, nx⟩ ρ S a w :=
  ⟨hr.size, hr.defers, fun i => by
    show VR S w ρ (tget tm' i) _
    rcases ht i with e | e
    · rw [e]; exact .top
    · rw [e]; exact hr.tmps i, ⟨fun b B hb => hr.sim.blk b B (hh b B hb), fun b b' B B' r r' h1 h2 h3 h4 => hr.sim.inj b b' B B' r r' (hh _ _ h1) (hh _ _ h2) h3 h4, hr.sim.lt⟩,
    ⟨hr.post.os, hr.post.tape, hr.post.output, hr.post.size, hr.post.keep, hr.post.sIn, hr.post.sNew, fun b B r h1 h2 => hr.post.own b B r (hh _ _ h1) h2, hr.post.ids⟩, hr.fresh, hr.le, fun b B hb => hr.dom b B (hh b B hb)⟩

theorem selF_ok {tm : List (Nat × AV)} : ∀ (ks : List Nat) (tm1 : List (Nat × AV)), selF tm ks = some tm1 → ∀ i, tget tm1 i = .top ∨ tget tm1 i = tget tm i := by
  intro ks
  induction ks with
  | nil => intro tm1 h i; simp only [selF, Option.some.injEq] at h; subst h; exact .inl rfl
  | cons k ks ih =>
    intro tm1 h i
    simp only [selF] at h
    split at h
    · rename_i v r h1 h2
      obtain rfl := Option.some.inj h
      simp only [tget]
      by_cases e : k = i
      · subst e
        rw [if_pos rfl]
        rw [tgF_eq] at h1
        exact .inr (tgetS_spec _ _ _ h1).symm
      · rw [if_neg e]; exact ih r h2 i
    · cases h

theorem res1S_ok {tm : List (Nat × AV)} {h : Heap} {nx : Nat} {rv : ResultVar} {x : AV} (he : res1S P tm h rv = some x) {c : Ctx} {n : Nat} {ρ : Rho} {S : Nat → Prop} {a : Act} {w : World} (hr : Rep c n ⟨tm, h, nx⟩ ρ S a w) {g : ResultVar → Sem Value}
    (g1 : ∀ t, g (.tmp t) = pure (a.tmps.getD t undef)) (g2 : ∀ a' t, g (.cell a' t) = do loadVar t (← asAddr (a.tmps.getD a' undef))) : ∃ u, (g rv).run P w = .ok u w ∧ VR S w ρ x u := by
  cases rv with
  | tmp t =>
    have he : tgetS tm t = some x := he
    refine ⟨a.tmps.getD t undef, by rw [g1, Sem.run_pure], ?_⟩
    rw [← tgetS_spec _ _ _ he]
    exact hr.tmps t
  | cell a' t =>
    have he : stepH P (.load t (.tmp a')) tm h = some x := he
    obtain ⟨u, h1, h2⟩ := stepH_ok he c n nx ρ S a w hr
    refine ⟨u, ?_, h2⟩
    have h3 := h1 ⟨none, .load t (.tmp a'), 0, "", #[], none⟩ rfl
    -- the address is one
    unfold stepH at he
    simp only [] at he
    unfold stepH0 at he
    split at he
    · rename_i b i o d hx hu
      have hv := ev_vr hr (oeO hx)
      have ea : a.eval (.tmp a') = a.tmps.getD a' undef := rfl
      rw [ea] at hv
      rw [g2]
      generalize hq : a.tmps.getD a' undef = q at hv
      cases hv with
      | ptr hp =>
        simp only [execOp, Instr.loadAt, Instr.sureAddr, Sem.run_bind, ea, hq, asAddr, Sem.run_pure, Result.andThen_ok] at h3 ⊢
        generalize hl : (loadVar t _).run P w = r at h3 ⊢
        cases r with
        | ok z w1 =>
          simp only [Result.andThen_ok, Sem.run_pure, Result.ok.injEq, Next.value.injEq] at h3
          obtain ⟨rfl, rfl⟩ := h3
          rfl
        | halt z w1 => cases h3
    · cases he

theorem ressS_ok {tm : List (Nat × AV)} {h : Heap} {nx : Nat} {c : Ctx} {n : Nat} {ρ : Rho} {S : Nat → Prop} {a : Act} {w : World} (hr : Rep c n ⟨tm, h, nx⟩ ρ S a w) {g : ResultVar → Sem Value}
    (g1 : ∀ t, g (.tmp t) = pure (a.tmps.getD t undef)) (g2 : ∀ a' t, g (.cell a' t) = do loadVar t (← asAddr (a.tmps.getD a' undef))) : ∀ (l : List ResultVar) (xs : List AV), ressS P tm h l = some xs →
    ∃ us : List Value, (l.mapM g).run P w = .ok us w ∧ xs.length = us.length ∧ ∀ (i : Nat) (x : AV) (u : Value), xs[i]? = some x → us[i]? = some u → VR S w ρ x u := by
  intro l
  induction l with
  | nil => intro xs h; simp only [ressS, Option.some.injEq] at h; subst h; exact ⟨[], by simp, rfl, fun i x u hx => by simp at hx⟩
  | cons rv l ih =>
    intro xs h
    simp only [ressS] at h
    split at h
    · rename_i x r h1 h2
      obtain rfl := Option.some.inj h
      obtain ⟨u, k1, k2⟩ := res1S_ok h1 hr g1 g2
      obtain ⟨us, q1, q2, q3⟩ := ih r h2
      refine ⟨u :: us, ?_, by simp [q2], fun i y z hy hz => ?_⟩
      · rw [List.mapM_cons]
        simp only [Sem.run_bind, Sem.run_pure]
        rw [k1, Result.andThen_ok, q1, Result.andThen_ok]
      · cases i with
        | zero => simp only [List.getElem?_cons_zero, Option.some.injEq] at hy hz; subst hy; subst hz; exact k2
        | succ i => simp only [List.getElem?_cons_succ] at hy hz; exact q3 i y z hy hz
    · cases h

theorem resS_ok {fn : Func} {st : St} {r : AV} (he : resS P fn.results.toList st.tm st.h = some r) : ResOK P fn st r := by
  intro c n ρ S a w hr
  obtain ⟨tm, h, nx⟩ := st
  have main : ∀ xs, ressS P tm h fn.results.toList = some xs → ∃ us : List Value, (results fn a.tmps).run P w = .ok (if hu : us.toArray.size = 1 then us.toArray[0] else .tuple us.toArray) w ∧ xs.length = us.length ∧ ∀ (i : Nat) (x : AV) (u : Value), xs[i]? = some x → us[i]? = some u → VR S w ρ x u := fun xs hxs => by
    unfold results
    rw [Array.mapM_eq_mapM_toList]
    simp only [Sem.run_bind, Sem.run_map]
    obtain ⟨us, k1, k2, k3⟩ := ressS_ok hr (g := fun x => match x with
      | .tmp t => pure (a.tmps.getD t undef)
      | .cell a' t => do loadVar t (← asAddr (a.tmps.getD a' undef))) (fun _ => rfl) (fun _ _ => rfl) _ _ hxs
    refine ⟨us, ?_, k2, k3⟩
    have k1' : (fn.results.toList.mapM (fun (x : ResultVar) => (match x with
      | .tmp t => pure (a.tmps.getD t undef)
      | .cell a' t => do loadVar t (← asAddr (a.tmps.getD a' undef)) : Sem Value))).run P w = .ok us w := k1
    erw [k1']
    simp only [Result.andThen_ok, Sem.run_pure]
  unfold resS at he
  split at he
  · rename_i x hx
    obtain rfl := Option.some.inj he
    obtain ⟨us, k1, k2, k3⟩ := main _ hx
    match us, k2, k1, k3 with
    | [u], _, k1, k3 => exact ⟨u, k1, k3 0 _ u rfl rfl⟩
  · rename_i xs hne hx
    obtain rfl := Option.some.inj he
    obtain ⟨us, k1, k2, k3⟩ := main _ hx
    have : us.toArray.size ≠ 1 := fun e => by
      rw [List.size_toArray, ← k2] at e
      obtain ⟨x, rfl⟩ := List.length_eq_one_iff.1 e
      exact hne x rfl
    rw [dif_neg this] at k1
    exact ⟨_, k1, .tup us.toArray (by simpa using k2) (fun i x u hx hu => k3 i x u hx (by simpa using hu))⟩
  · cases he

/-- What a run says. -/
def RunOK (P : Program) (self : Self) : Prop := ∀ n f code st e st', self n f code st = some (e, st') → ∀ c Q, Q e st' → AW P c n code Q st

theorem callFn_ok {self : Self} (hs : RunOK P self) : CFok P (callFn P self) := by
  intro f args h nx r h' nx' he
  unfold callFn at he
  split at he
  · rename_i fn hf
    split at he
    · rename_i body hb
      split at he
      · rename_i h0
        simp only [Bool.and_eq_true, Bool.not_eq_true'] at h0
        refine ⟨⟨fn, hf, h0.2, by rw [hb]; rfl⟩, fun al hal => ?_⟩
        have hdom : h.all (fun p => p.1 < nx) = true := by
          rw [List.all_eq_true]
          intro p hp
          have := List.all_eq_true.1 h0.1.2 p hp
          simpa using this
        have fin : ∀ st, retF P fn.results.toList nx st = some (r, h', nx') → ∀ c, ∃ st' r1, Le c fn.ntmps st st' ∧ ResOK P fn st' r1 ∧ (al = true ∨ (r1.nosl = true ∧ st'.h.all (fun p => p.2.nosl) = true)) ∧ (r1 = r ∧ st'.h = h' ∧ st'.nx = nx') := fun st he c => by
          unfold retF at he
          rw [forceL_eq] at he
          split at he
          · rename_i r0 hr0
            rw [forceV_eq, forceN_eq] at he
            simp only [Option.some.injEq, Prod.mk.injEq] at he
            obtain ⟨rfl, rfl, rfl⟩ := he
            exact ⟨⟨st.tm, gcH nx (rootsR nx st.tm fn.results.toList []) st.h, st.nx⟩, r0, fun ρ S a w hr => ⟨ρ, hr.drop (fun i => .inr rfl) (gcH_get _ _ _)⟩, resS_ok hr0, hal, rfl, rfl, rfl⟩
          · cases he
        refine ac_fn hf rfl hb h0.1.1 hdom (fun w0 S0 r0 => ?_)
        split at he
        · rename_i st hst
          exact hs _ _ _ _ _ _ hst _ _ (fin st he _)
        · rename_i st hst
          exact hs _ _ _ _ _ _ hst _ _ (fin st he _)
        · cases he
      · cases he
    · cases he
  · cases he

end
end Go.Proofs.Ytloddmbbfkejcaa.Abs
