/-
  The walk over abstract states: codes, regions in their text's order, calls. They hold of any program.
-/
import Derived.Test.YtloddmbbfkejcaaAbsA
namespace Go.Proofs.Ytloddmbbfkejcaa.Abs

/-- A constant. -/
def ofConst1 : Value → AV
  | .bool b => .bool b
  | .int k n => .int k n
  | .string s => .str s
  | .pointer none => .nilp
  | .slice none 0 0 => .nils
  | .map none => .nilm
  | .nilFunc => .nilf
  | .nilIface => .nili
  | _ => .top

def ofConst : Value → AV
  | .agg cs => .agg (cs.toList.map ofConst1)
  | v => ofConst1 v

theorem ofConst1_VR (S : Nat → Prop) (w : World) (ρ : Rho) (v : Value) : VR S w ρ (ofConst1 v) v := by
  unfold ofConst1
  split <;> constructor

theorem ofConst_VR (S : Nat → Prop) (w : World) (ρ : Rho) (v : Value) : VR S w ρ (ofConst v) v := by
  unfold ofConst
  split
  · refine .agg _ (by simp) (fun i x u hx hu => ?_)
    rw [List.getElem?_map] at hx
    rw [← Array.getElem?_toList] at hu
    rw [hu] at hx
    obtain rfl := Option.some.inj hx
    exact ofConst1_VR S w ρ u
  · exact ofConst1_VR S w ρ _

def oev (tm : List (Nat × AV)) : Operand → AV
  | .tmp t => tget tm t
  | .const v => ofConst v
  | .global _ => .top
  | .func f => .fn (.func f) [] []

theorem Rep.oev {c : Ctx} {n : Nat} {st : St} {ρ : Rho} {S : Nat → Prop} {a : Act} {w : World} (h : Rep c n st ρ S a w) (x : Operand) : VR S w ρ (oev st.tm x) (a.eval x) := by
  cases x with
  | tmp t => exact h.tmps t
  | const v => exact ofConst_VR S w ρ v
  | global g => exact .top
  | func f => exact .fn #[] #[] rfl rfl (fun i x u hx _ => by simp at hx) (fun i x u hx _ => by simp at hx)

/-- The post condition in the world. -/
def Lift (c : Ctx) (n : Nat) (Q : Exit → St → Prop) : Exit → Act → World → Prop := fun e a w => ∃ st ρ S, Q e st ∧ Rep c n st ρ S a w

def AW (P : Program) (c : Ctx) (n : Nat) (code : Code) (Q : Exit → St → Prop) (st : St) : Prop :=
  ∀ ρ S a w, Rep c n st ρ S a w → code.wp P (Lift c n Q) a w

def AL (P : Program) (c : Ctx) (n : Nat) (ops : Array Oper) (Q : Exit → St → Prop) (rest : List Oper) (st : St) : Prop :=
  ∀ ρ S a w, Rep c n st ρ S a w → wpList P ops (Lift c n Q) rest a w

def thenA (next : St → Prop) (Q : Exit → St → Prop) : Exit → St → Prop
  | .normal, st => next st
  | e, st => Q e st

def inBlockA (id : Nat) (Q : Exit → St → Prop) : Exit → St → Prop
  | .exit id', st => if id' = id then Q .normal st else Q (.exit id') st
  | e, st => Q e st

section
variable {P : Program} {c : Ctx} {n : Nat} {Q : Exit → St → Prop} {st : St}

theorem aw_mono {code : Code} {Q' : Exit → St → Prop} (hq : ∀ e st, Q e st → Q' e st) (h : AW P c n code Q st) : AW P c n code Q' st :=
  fun ρ S a w hr => Code.wp_mono (fun _ _ _ ⟨st, ρ, S, q, r⟩ => ⟨st, ρ, S, hq _ _ q, r⟩) (h ρ S a w hr)

theorem aw_seq {x y : Code} (h : AW P c n x (thenA (AW P c n y Q) Q) st) : AW P c n (.seq x y) Q st := fun ρ S a w hr =>
  wp_seq (Code.wp_mono (fun e a w ⟨st', ρ', S', q, r⟩ => by
    cases e with
    | normal => exact q ρ' S' a w r
    | _ => exact ⟨st', ρ', S', q, r⟩) (h ρ S a w hr))

theorem aw_skip (h : Q .normal st) : AW P c n .skip Q st := fun _ _ _ _ hr => wp_skip ⟨_, _, _, h, hr⟩
theorem aw_exit {id : Nat} (h : Q (.exit id) st) : AW P c n (.exit id) Q st := fun _ _ _ _ hr => wp_exit ⟨_, _, _, h, hr⟩
theorem aw_ret (h : Q .ret st) : AW P c n .ret Q st := fun _ _ _ _ hr => wp_ret ⟨_, _, _, h, hr⟩

theorem aw_block {id : Nat} {x : Code} (h : AW P c n x (inBlockA id Q) st) : AW P c n (.block id x) Q st := fun ρ S a w hr =>
  wp_block (Code.wp_mono (fun e a w ⟨st', ρ', S', q, r⟩ => by
    cases e with
    | exit id' =>
      simp only [inBlockA] at q
      simp only [Exit.inBlock]
      split
      · rename_i he; rw [if_pos he] at q; exact ⟨st', ρ', S', q, r⟩
      · rename_i he; rw [if_neg he] at q; exact ⟨st', ρ', S', q, r⟩
    | _ => exact ⟨st', ρ', S', q, r⟩) (h ρ S a w hr))

theorem VR.bool_inv {S : Nat → Prop} {w : World} {ρ : Rho} {b : Bool} {v : Value} (h : VR S w ρ (.bool b) v) : v = .bool b := by cases h; rfl
theorem VR.int_inv {S : Nat → Prop} {w : World} {ρ : Rho} {k : IntKind} {m : Int} {v : Value} (h : VR S w ρ (.int k m) v) : v = .int k m := by cases h; rfl
theorem VR.str_inv {S : Nat → Prop} {w : World} {ρ : Rho} {s : ByteArray} {v : Value} (h : VR S w ρ (.str s) v) : v = .string s := by cases h; rfl

theorem aw_yes {x y : Code} {o : Operand} (hc : oev st.tm o = .bool true) (h : AW P c n x Q st) : AW P c n (.cond o x y) Q st := fun ρ S a w hr =>
  wp_cond_true (by have := hr.oev o; rw [hc] at this; exact this.bool_inv) (h ρ S a w hr)
theorem aw_no {x y : Code} {o : Operand} (hc : oev st.tm o = .bool false) (h : AW P c n y Q st) : AW P c n (.cond o x y) Q st := fun ρ S a w hr =>
  wp_cond_false (by have := hr.oev o; rw [hc] at this; exact this.bool_inv) (h ρ S a w hr)
theorem aw_if {x y : Code} {o : Operand} {p : Prop} [Decidable p] (hc : oev st.tm o = .bool (decide p)) (h1 : p → AW P c n x Q st) (h2 : ¬ p → AW P c n y Q st) : AW P c n (.cond o x y) Q st := by
  by_cases hp : p
  · exact aw_yes (by rw [hc, decide_eq_true hp]) (h1 hp)
  · exact aw_no (by rw [hc, decide_eq_false hp]) (h2 hp)
theorem aw_ifb {x y : Code} {o : Operand} {b : Bool} (hc : oev st.tm o = .bool b) (h1 : b = true → AW P c n x Q st) (h2 : b = false → AW P c n y Q st) : AW P c n (.cond o x y) Q st := by
  cases b
  · exact aw_no hc (h2 rfl)
  · exact aw_yes hc (h1 rfl)

theorem aw_region {id : Nat} {l : List Oper} (h : AL P c n l.toArray Q l st) : AW P c n (.region id l.toArray false) Q st := fun ρ S a w hr =>
  wp_region_lit (h ρ S a w hr)

theorem al_nil {ops : Array Oper} (h : Q .normal st) : AL P c n ops Q [] st := fun _ _ _ _ hr => wpList_nil ⟨_, _, _, h, hr⟩

/-- What becomes of an operation: a value, or a call that hands one back. -/
def Does (P : Program) (o : Oper) (a : Act) (w : World) (K : Value → World → Prop) : Prop :=
  match (execOp a.eval o).run P w with
  | .ok (.value v) w' => K v w'
  | .ok .skip w' => K undef w'
  | .ok (.enter f args) w' => Calls P f args w' fun e w'' => ∃ v, e = .returned v ∧ K v w''
  | _ => False

theorem Does.wp {P : Program} {o : Oper} {a : Act} {w : World} {K : Value → World → Prop} {K' : Act → World → Prop} {Qe : Exit → Act → World → Prop} (h : Does P o a w K) (hk : ∀ v w', K v w' → K' (a.put o.dst v) w') : o.wp P a w K' Qe := by
  unfold Does at h
  unfold Oper.wp
  generalize (execOp a.eval o).run P w = r at *
  cases r with
  | ok nx w' =>
    cases nx <;> simp only [] at h <;> simp only [Oper.upon]
    case value v => exact hk _ _ h
    case skip => exact hk _ _ h
    case enter f args => exact h.mono fun e w'' ⟨v, he, hv⟩ => by subst he; exact hk _ _ hv
  | halt x w' => simp only [] at h

theorem Does.mono {P : Program} {o : Oper} {a : Act} {w : World} {K K' : Value → World → Prop} (h : Does P o a w K) (hk : ∀ v w', K v w' → K' v w') : Does P o a w K' := by
  unfold Does at *
  generalize (execOp a.eval o).run P w = r at *
  cases r with
  | ok nx w' =>
    cases nx <;> simp only [] at h ⊢
    case value v => exact hk _ _ h
    case skip => exact hk _ _ h
    case enter f args => exact h.mono fun e w'' ⟨v, he, hv⟩ => ⟨v, he, hk _ _ hv⟩
  | halt x w' => simp only [] at h

/-- What an operation does. -/
def OpOK (P : Program) (op : Op) (st : St) (v : AV) (h' : Heap) (nx' : Nat) : Prop :=
  ∀ (c : Ctx) (n : Nat) (ρ : Rho) (S : Nat → Prop) (a : Act) (w : World), Rep c n st ρ S a w → ∀ o : Oper, o.op = op → Does P o a w fun u w' => ∃ ρ' S', Rep c n ⟨st.tm, h', nx'⟩ ρ' S' a w' ∧ VR S' w' ρ' v u ∧
    (∀ b r, ρ b = some r → ρ' b = some r) ∧ ∀ b, S b → S' b ∧ w'.heap[b]? = w.heap[b]?

theorem OpOK.of {P : Program} {op : Op} {st : St} {v : AV} {h' : Heap} {nx' : Nat}
    (h : ∀ (c : Ctx) (n : Nat) (ρ : Rho) (S : Nat → Prop) (a : Act) (w : World), Rep c n st ρ S a w → ∃ nxt u w' ρ' S', (∀ o : Oper, o.op = op → (execOp a.eval o).run P w = .ok nxt w') ∧
      (nxt = .value u ∨ nxt = .skip ∧ u = undef) ∧ Rep c n ⟨st.tm, h', nx'⟩ ρ' S' a w' ∧ VR S' w' ρ' v u ∧ (∀ b r, ρ b = some r → ρ' b = some r) ∧ ∀ b, S b → S' b ∧ w'.heap[b]? = w.heap[b]?) : OpOK P op st v h' nx' := by
  intro c n ρ S a w hr o ho
  obtain ⟨nxt, u, w', ρ', S', h1, h2, h3⟩ := h c n ρ S a w hr
  unfold Does
  rw [h1 o ho]
  rcases h2 with rfl | ⟨rfl, rfl⟩
  · exact ⟨ρ', S', h3⟩
  · exact ⟨ρ', S', h3⟩

/-- One that only makes a value. -/
def OpP (P : Program) (op : Op) (tm : List (Nat × AV)) (h : Heap) (v : AV) : Prop :=
  ∀ (c : Ctx) (n : Nat) (nx : Nat) (ρ : Rho) (S : Nat → Prop) (a : Act) (w : World), Rep c n ⟨tm, h, nx⟩ ρ S a w → ∃ u, (∀ o : Oper, o.op = op → (execOp a.eval o).run P w = .ok (.value u) w) ∧ VR S w ρ v u

theorem OpP.ok {op : Op} {tm : List (Nat × AV)} {h : Heap} {nx : Nat} {v : AV} (hp : OpP P op tm h v) : OpOK P op ⟨tm, h, nx⟩ v h nx := OpOK.of fun c n ρ S a w hr => by
  obtain ⟨u, h1, h2⟩ := hp c n nx ρ S a w hr
  exact ⟨_, u, w, ρ, S, h1, .inl rfl, hr, h2, fun _ _ h => h, fun _ h => ⟨h, rfl⟩⟩

def putA (d : Option Nat) (v : AV) (st : St) : St :=
  match d with
  | some d => { st with tm := (d, v) :: st.tm }
  | none => st

theorem Rep.putA {a : Act} {w : World} {ρ : Rho} {S : Nat → Prop} (h : Rep c n st ρ S a w) (d : Option Nat) (hd : ∀ k, d = some k → k < n) {v : AV} {u : Value} (hv : VR S w ρ v u) : Rep c n (putA d v st) ρ S (a.put d u) w := by
  cases d with
  | none => exact h
  | some k => exact h.put k (hd k rfl) v u hv

theorem al_run {ops : Array Oper} {o : Oper} {rest : List Oper} {v : AV} {h' : Heap} {nx' : Nat} {ρ : Rho} {S : Nat → Prop} {a : Act} {w : World} (hd : ∀ k, o.dst = some k → k < n) (hr : Rep c n st ρ S a w)
    (h : OpOK P o.op st v h' nx') (k : AL P c n ops Q rest (putA o.dst v ⟨st.tm, h', nx'⟩)) : o.wp P a w (wpList P ops (Lift c n Q) rest) (Lift c n Q) :=
  (h c n ρ S a w hr o rfl).wp fun v w' ⟨ρ', S', h3, h4, _⟩ => k ρ' S' _ w' (h3.putA o.dst hd h4)

theorem al_op {ops : Array Oper} {o : Oper} {rest : List Oper} {v : AV} {h' : Heap} {nx' : Nat} (hg : o.guard = none) (hd : ∀ k, o.dst = some k → k < n)
    (h : OpOK P o.op st v h' nx') (k : AL P c n ops Q rest (putA o.dst v ⟨st.tm, h', nx'⟩)) : AL P c n ops Q (o :: rest) st := fun ρ S a w hr => by
  unfold wpList
  rw [if_pos (by simp [Region.wanted, hg])]
  exact .inl (al_run hd hr h k)

/-- An operation under a guard: the operation that the guard looks at writes slot 'd'. -/
theorem yielded_of {ops : Array Oper} {ρ : Rho} {S : Nat → Prop} {a : Act} {w : World} (hr : Rep c n st ρ S a w) {j d : Nat} {b : Bool} (hj : (ops[j]?).bind (·.dst) = some d) (hd : d < n) (hb : tget st.tm d = .bool b) :
    yielded ops a.tmps j = some b := by
  have h1 := hr.tmps d
  rw [hb] at h1
  have h2 := h1.bool_inv
  have h3 : a.tmps[d]? = some (.bool b) := by
    rw [← h2, Array.getD_eq_getD_getElem?]
    have : d < a.tmps.size := by rw [hr.size]; exact hd
    simp [this]
  unfold yielded
  rw [hj]
  simp [h3]

/-- What a guard that looks at such a value says; none: nothing. -/
def gv : AV → Option (Option Bool)
  | .bool b => some (some b)
  | .tup _ => some none
  | _ => none

theorem yielded_gv {ops : Array Oper} {ρ : Rho} {S : Nat → Prop} {a : Act} {w : World} (hr : Rep c n st ρ S a w) {j d : Nat} {g : Option Bool} (hj : (ops[j]?).bind (·.dst) = some d) (hd : d < n) (hb : gv (tget st.tm d) = some g) :
    yielded ops a.tmps j = g := by
  generalize hx : tget st.tm d = x at hb
  cases x <;> simp only [gv, Option.some.injEq, reduceCtorEq] at hb
  case bool b => subst hb; exact yielded_of hr hj hd hx
  case tup xs =>
    subst hb
    have h1 := hr.tmps d
    rw [hx] at h1
    generalize hu : a.tmps.getD d undef = u at h1
    cases h1 with
    | tup vs q1 q2 =>
      have h3 : a.tmps[d]? = some (.tuple vs) := by
        rw [← hu, Array.getD_eq_getD_getElem?]
        have : d < a.tmps.size := by rw [hr.size]; exact hd
        simp [this]
      unfold yielded
      rw [hj]
      simp [h3]

theorem al_opg {ops : Array Oper} {o : Oper} {rest : List Oper} {v : AV} {h' : Heap} {nx' : Nat} {j d : Nat} {b : Bool} (hg : o.guard = some (j, b)) (hj : (ops[j]?).bind (·.dst) = some d) (hdn : d < n)
    (hb : tget st.tm d = .bool b) (hd : ∀ k, o.dst = some k → k < n)
    (h : OpOK P o.op st v h' nx') (k : AL P c n ops Q rest (putA o.dst v ⟨st.tm, h', nx'⟩)) : AL P c n ops Q (o :: rest) st := fun ρ S a w hr => by
  unfold wpList
  rw [if_pos (by simp [Region.wanted, hg, yielded_of hr hj hdn hb])]
  exact .inl (al_run hd hr h k)

theorem al_pass {ops : Array Oper} {o : Oper} {rest : List Oper} {j d : Nat} {b : Bool} {g : Option Bool} (hg : o.guard = some (j, b)) (hj : (ops[j]?).bind (·.dst) = some d) (hdn : d < n)
    (hb : gv (tget st.tm d) = some g) (hne : g ≠ some b) (hd : ∀ k, o.dst = some k → k < n) (k : AL P c n ops Q rest (putA o.dst (.tup []) st)) : AL P c n ops Q (o :: rest) st := fun ρ S a w hr => by
  unfold wpList
  rw [if_neg (by simp [Region.wanted, hg, yielded_gv hr hj hdn hb, hne])]
  exact k ρ S _ w (hr.putA o.dst hd (.tup #[] rfl (fun i x u hx _ => by simp at hx)))

end
end Go.Proofs.Ytloddmbbfkejcaa.Abs
