/-
  The walk's steps, one an operation, as a program prints them. They hold of any program.
-/
import Derived.Test.YtloddmbbfkejcaaAbsL
namespace Go.Proofs.Ytloddmbbfkejcaa.Abs

section
variable {P : Program} {c : Ctx} {n : Nat} {Q : Exit → St → Prop} {st : St}

theorem nm {next : St → Prop} (h : next st) : thenA next Q .normal st := h
theorem nmb {id : Nat} (h : Q .normal st) : inBlockA id Q .normal st := h
theorem xs {next : St → Prop} {id : Nat} (h : Q (.exit id) st) : thenA next Q (.exit id) st := h
theorem xb {id : Nat} (h : Q .normal st) : inBlockA id Q (.exit id) st := by show (if id = id then Q .normal st else Q (.exit id) st); rw [if_pos rfl]; exact h
theorem xbn {id id' : Nat} (hne : Nat.beq id' id = false) (h : Q (.exit id') st) : inBlockA id Q (.exit id') st := by
  show (if id' = id then Q .normal st else Q (.exit id') st)
  rw [if_neg (fun e => by subst e; rw [Nat.beq_refl] at hne; cases hne)]
  exact h
theorem rs {next : St → Prop} (h : Q .ret st) : thenA next Q .ret st := h
theorem rb {id : Nat} (h : Q .ret st) : inBlockA id Q .ret st := h

theorem blt_of {d n : Nat} (h : Nat.blt d n = true) : ∀ k, some d = some k → k < n := fun k e => by
  obtain rfl := Option.some.inj e
  exact Nat.le_of_ble_eq_true h

theorem st_o {tm : List (Nat × AV)} {hp : Heap} {nx : Nat} {ops : Array Oper} {d : Nat} {op : Op} {ty : TypeId} {pos : String} {after : Array Edge} {rst : List Oper} {v : AV} {h' : Heap} {nx' : Nat} (h : OpOK P op ⟨tm, hp, nx⟩ v h' nx') (hd : Nat.blt d n = true) (k : AL P c n ops Q rst ⟨(d, v) :: tm, h', nx'⟩) :
    AL P c n ops Q (⟨some d, op, ty, pos, after, none⟩ :: rst) ⟨tm, hp, nx⟩ := al_op rfl (blt_of hd) h k
theorem st_n {tm : List (Nat × AV)} {hp : Heap} {nx : Nat} {ops : Array Oper} {op : Op} {ty : TypeId} {pos : String} {after : Array Edge} {rst : List Oper} {v : AV} {h' : Heap} {nx' : Nat} (h : OpOK P op ⟨tm, hp, nx⟩ v h' nx') (k : AL P c n ops Q rst ⟨tm, h', nx'⟩) :
    AL P c n ops Q (⟨none, op, ty, pos, after, none⟩ :: rst) ⟨tm, hp, nx⟩ := al_op rfl (fun k e => by cases e) h k
theorem st_p {tm : List (Nat × AV)} {hp : Heap} {nx : Nat} {ops : Array Oper} {d : Nat} {op : Op} {ty : TypeId} {pos : String} {after : Array Edge} {rst : List Oper} {v : AV} (h : OpP P op tm hp v) (hd : Nat.blt d n = true) (k : AL P c n ops Q rst ⟨(d, v) :: tm, hp, nx⟩) :
    AL P c n ops Q (⟨some d, op, ty, pos, after, none⟩ :: rst) ⟨tm, hp, nx⟩ := al_op rfl (blt_of hd) h.ok k
theorem st_pg {tm : List (Nat × AV)} {hp : Heap} {nx : Nat} {ops : Array Oper} {d j d' : Nat} {b : Bool} {op : Op} {ty : TypeId} {pos : String} {after : Array Edge} {rst : List Oper} {v : AV} (hj : (ops[j]?).bind (·.dst) = some d') (hdn : Nat.blt d' n = true) (hb : tget tm d' = .bool b)
    (h : OpP P op tm hp v) (hd : Nat.blt d n = true) (k : AL P c n ops Q rst ⟨(d, v) :: tm, hp, nx⟩) : AL P c n ops Q (⟨some d, op, ty, pos, after, some (j, b)⟩ :: rst) ⟨tm, hp, nx⟩ := al_opg rfl hj (Nat.le_of_ble_eq_true hdn) hb (blt_of hd) h.ok k
theorem st_og {tm : List (Nat × AV)} {hp : Heap} {nx : Nat} {ops : Array Oper} {d j d' : Nat} {b : Bool} {op : Op} {ty : TypeId} {pos : String} {after : Array Edge} {rst : List Oper} {v : AV} {h' : Heap} {nx' : Nat} (hj : (ops[j]?).bind (·.dst) = some d') (hdn : Nat.blt d' n = true) (hb : tget tm d' = .bool b)
    (h : OpOK P op ⟨tm, hp, nx⟩ v h' nx') (hd : Nat.blt d n = true) (k : AL P c n ops Q rst ⟨(d, v) :: tm, h', nx'⟩) : AL P c n ops Q (⟨some d, op, ty, pos, after, some (j, b)⟩ :: rst) ⟨tm, hp, nx⟩ := al_opg rfl hj (Nat.le_of_ble_eq_true hdn) hb (blt_of hd) h k
/-- An operation that its guard shuts out. -/
theorem st_s {tm : List (Nat × AV)} {hp : Heap} {nx : Nat} {ops : Array Oper} {d j d' : Nat} {b : Bool} {g : Option Bool} {op : Op} {ty : TypeId} {pos : String} {after : Array Edge} {rst : List Oper} (hj : (ops[j]?).bind (·.dst) = some d') (hdn : Nat.blt d' n = true) (hb : gv (tget tm d') = some g) (hne : (g == some b) = false)
    (hd : Nat.blt d n = true) (k : AL P c n ops Q rst ⟨(d, .tup []) :: tm, hp, nx⟩) : AL P c n ops Q (⟨some d, op, ty, pos, after, some (j, b)⟩ :: rst) ⟨tm, hp, nx⟩ :=
  al_pass rfl hj (Nat.le_of_ble_eq_true hdn) hb (fun e => by rw [e] at hne; simp at hne) (blt_of hd) k

theorem ac_fn {f : FuncId} {fn : Func} {body : Code} {args : List AV} {h : Heap} {nx m : Nat} {al : Bool} {Q : AV → Heap → Nat → Prop} (hf : P.funcs[f]? = some fn) (hn : fn.ntmps = m) (hb : fn.body = some body) (hlen : Nat.ble args.length m = true) (hdom : h.all (fun p => p.1 < nx) = true)
    (hbody : ∀ w0 S0 r0, AW P ⟨w0, Own r0 h, S0, r0, nx⟩ m body (RetA P ⟨w0, Own r0 h, S0, r0, nx⟩ m fn al Q) ⟨argTm args, h, nx⟩) : AC P f args h nx al Q := by
  subst hn
  exact ac_body hf hb (Nat.le_of_ble_eq_true hlen) hdom hbody

/-- The end of a function. -/
theorem ret_a {fn : Func} {al : Bool} {Qr : AV → Heap → Nat → Prop} {r : AV} (st' : St) (hle : Le c n st st') (hres : ResOK P fn st' r) (hal : al = true ∨ (r.nosl = true ∧ st'.h.all (fun p => p.2.nosl) = true)) (hq : Qr r st'.h st'.nx) : RetA P c n fn al Qr .ret st := ⟨st', r, hle, hres, hal, hq⟩
/-- The end of a function, where nothing is to be forgotten. -/
theorem ret_v {fn : Func} {al : Bool} {Qr : AV → Heap → Nat → Prop} {r : AV} (hres : ResOK P fn st r) (hal : al = true ∨ (r.nosl = true ∧ st.h.all (fun p => p.2.nosl) = true)) (hq : Qr r st.h st.nx) : RetA P c n fn al Qr .ret st := ⟨st, r, Le.refl _ _ _, hres, hal, hq⟩
theorem ret_n {fn : Func} {al : Bool} {Qr : AV → Heap → Nat → Prop} {r : AV} (st' : St) (hle : Le c n st st') (hres : ResOK P fn st' r) (hal : al = true ∨ (r.nosl = true ∧ st'.h.all (fun p => p.2.nosl) = true)) (hq : Qr r st'.h st'.nx) : RetA P c n fn al Qr .normal st := ⟨st', r, hle, hres, hal, hq⟩

/-- What a state keeps of another one's slots, of its blocks. -/
def KeepT (tm : List (Nat × AV)) (τ : Nat → Nat) : List (Nat × AV) → Prop
  | [] => True
  | (i, v) :: t => tget tm i = v.ren τ ∧ KeepT tm τ t
def KeepH (h : Heap) (τ : Nat → Nat) : Heap → Prop
  | [] => True
  | (i, B) :: t => hget h (τ i) = some (B.ren τ) ∧ KeepH h τ t

theorem KeepT.get {tm : List (Nat × AV)} {τ : Nat → Nat} : ∀ {l : List (Nat × AV)}, KeepT tm τ l → ∀ i, tget l i = .top ∨ tget tm i = (tget l i).ren τ := by
  intro l
  induction l with
  | nil => intro _ i; exact .inl rfl
  | cons q t ih =>
    obtain ⟨j, v⟩ := q
    intro hk i
    by_cases e : j = i
    · subst e; simp only [tget, if_true]; exact .inr hk.1
    · simp only [tget, e, if_false]; exact ih hk.2 i
theorem KeepH.get {h : Heap} {τ : Nat → Nat} : ∀ {l : Heap}, KeepH h τ l → ∀ i B, hget l i = some B → hget h (τ i) = some (B.ren τ) := by
  intro l
  induction l with
  | nil => intro _ i B e; cases e
  | cons q t ih =>
    obtain ⟨j, X⟩ := q
    intro hk i B e
    by_cases e1 : j = i
    · subst e1; simp only [hget, if_true] at e; obtain rfl := Option.some.inj e; exact hk.1
    · simp only [hget, e1, if_false] at e; exact ih hk.2 i B e

def apart (l : List Nat) (τ : Nat → Nat) : Bool := l.all fun b => l.all fun b' => Nat.beq b b' || !(Nat.beq (τ b) (τ b'))

theorem le_to {st' : St} (l : List (Nat × Nat)) (h1 : l.all (fun p => Nat.blt p.1 st'.nx) = true) (h2 : l.all (fun p => Nat.ble c.nx0 p.1) = true) (h3 : Nat.ble c.nx0 st'.nx = true) (h4 : st'.h.all (fun p => Nat.blt p.1 st'.nx) = true)
    (hi : apart (st'.h.map (fun p => p.1)) (swp l st'.nx st.nx) = true) (ht : KeepT st.tm (swp l st'.nx st.nx) st'.tm) (hh : KeepH st.h (swp l st'.nx st.nx) st'.h) : Le c n st st' := by
  have e1 : ∀ a b : Nat, Nat.blt a b = decide (a < b) := fun a b => by
    by_cases hab : a < b
    · rw [decide_eq_true hab]; exact Nat.ble_eq_true_of_le hab
    · rw [decide_eq_false hab]; exact Bool.eq_false_iff.2 fun e => hab (Nat.le_of_ble_eq_true e)
  have e2 : ∀ a b : Nat, Nat.ble a b = decide (a ≤ b) := fun a b => by
    by_cases hab : a ≤ b
    · rw [decide_eq_true hab]; exact Nat.ble_eq_true_of_le hab
    · rw [decide_eq_false hab]; exact Bool.eq_false_iff.2 fun e => hab (Nat.le_of_ble_eq_true e)
  refine le_of l (by simpa only [e1] using h1) (by simpa only [e2] using h2) (Nat.le_of_ble_eq_true h3) (by simpa only [e1] using h4) (fun p _ => ht.get p.1) (fun p hp => ?_) ?_
  · have : ∀ (h : Heap) (i : Nat), (∃ q ∈ h, q.1 = i) → ∃ B, hget h i = some B := by
      intro h i
      induction h with
      | nil => rintro ⟨q, hq, _⟩; cases hq
      | cons q t ih =>
        rintro ⟨q', hq', e⟩
        obtain ⟨j, X⟩ := q
        by_cases e1 : j = i
        · exact ⟨X, by simp [hget, e1]⟩
        · rcases List.mem_cons.1 hq' with rfl | hm
          · exact absurd e e1
          · obtain ⟨B, hB⟩ := ih ⟨q', hm, e⟩
            exact ⟨B, by simp only [hget, e1, if_false]; exact hB⟩
    obtain ⟨B, hB⟩ := this st'.h p.1 ⟨p, hp, rfl⟩
    rw [hB, hh.get p.1 B hB]
    rfl
  · unfold apart at hi
    rw [List.all_eq_true] at hi ⊢
    intro b hb
    have := hi b hb
    rw [List.all_eq_true] at this ⊢
    intro b' hb'
    have := this b' hb'
    simp only [Bool.or_eq_true, Bool.not_eq_true', beq_iff_eq, bne_iff_ne] at this ⊢
    rcases this with h | h
    · exact .inl (Nat.eq_of_beq_eq_true h)
    · exact .inr (fun e => by rw [e, Nat.beq_refl] at h; cases h)

/-- A nil row as a row of one's own that has nothing in it so far. -/
theorem Rep.virt {tm : List (Nat × AV)} {h : Heap} {nx : Nat} {ρ : Rho} {S : Nat → Prop} {a : Act} {w : World} (hr : Rep c n ⟨tm, h, nx⟩ ρ S a w) (sz : Nat) : Rep c n ⟨tm, (nx, .cells sz []) :: h, nx + 1⟩ ρ S a w := by
  refine ⟨hr.size, hr.defers, hr.tmps, ⟨fun b X hk => ?_, fun b b' X X' q q' hk hk' hq hq' hne => ?_, hr.sim.lt⟩, ?_, fun b hk => hr.fresh b (by have : nx + 1 ≤ b := hk; show nx ≤ b; omega), Nat.le_succ_of_le hr.le, fun b X hk => ?_⟩
  · simp only [hget] at hk
    by_cases e : nx = b
    · subst e
      rw [if_pos rfl] at hk
      obtain rfl := Option.some.inj hk
      exact .inr ⟨hr.fresh nx (Nat.le_refl _), sz, rfl⟩
    · rw [if_neg e] at hk
      exact hr.sim.blk b X hk
  · simp only [hget] at hk hk'
    by_cases e : nx = b
    · subst e; rw [hr.fresh nx (Nat.le_refl _)] at hq; cases hq
    · by_cases e' : nx = b'
      · subst e'; rw [hr.fresh nx (Nat.le_refl _)] at hq'; cases hq'
      · rw [if_neg e] at hk
        rw [if_neg e'] at hk'
        exact hr.sim.inj b b' X X' q q' hk hk' hq hq' hne
  · refine ⟨hr.post.os, hr.post.tape, hr.post.output, hr.post.size, hr.post.keep, hr.post.sIn, hr.post.sNew, fun b X q hk hq => ?_, hr.post.ids⟩
    simp only [hget] at hk
    by_cases e : nx = b
    · subst e; rw [hr.fresh nx (Nat.le_refl _)] at hq; cases hq
    · rw [if_neg e] at hk; exact hr.post.own b X q hk hq
  · simp only [hget] at hk
    by_cases e : nx = b
    · show b < nx + 1; omega
    · rw [if_neg e] at hk
      exact Nat.lt_succ_of_lt (hr.dom b X hk)

theorem aw_virt {code : Code} {tm : List (Nat × AV)} {h : Heap} {nx : Nat} (i sz : Nat) (hi : tget tm i = .nils) (k : AW P c n code Q ⟨(i, .own nx 0 0) :: tm, (nx, .cells sz []) :: h, nx + 1⟩) : AW P c n code Q ⟨tm, h, nx⟩ := fun ρ S a w hr => by
  have hv := hr.virt sz
  refine k ρ S a w ⟨hv.size, hv.defers, fun j => ?_, hv.sim, hv.post, hv.fresh, hv.le, hv.dom⟩
  by_cases e : i = j
  · subst e
    simp only [tget, if_true]
    have := hr.tmps i
    rw [show tget (St.mk tm h nx).tm i = .nils from hi] at this
    generalize a.tmps.getD i undef = u at this
    cases this
    exact .own0
  · simp only [tget, e, if_false]; exact hr.tmps j

end

def hdelS : Heap → Nat → Option Heap
  | [], _ => some []
  | (i, x) :: t, j => match hdelS t j with
    | some r => if i = j then some r else some ((i, x) :: r)
    | none => none

theorem hdelS_spec : ∀ (h : Heap) (j : Nat) (h' : Heap), hdelS h j = some h' → hdel h j = h' := by
  intro h
  induction h with
  | nil => intro j h' e; exact Option.some.inj e
  | cons q t ih =>
    obtain ⟨i, x⟩ := q
    intro j h' e
    simp only [hdelS] at e
    cases hq : hdelS t j with
    | none => rw [hq] at e; cases e
    | some r =>
      rw [hq] at e
      by_cases hi : i = j
      · simp only [hi, if_true, Option.some.injEq] at e; simp [hdel, hi, ih j r hq, e]
      · simp only [hi, if_false, Option.some.injEq] at e; simp [hdel, hi, ih j r hq, e]

theorem SrcA.whole {h : Heap} {b len sz : Nat} {zs : List AV} (hb : hget h b = some (.cells sz zs)) (hl : len = zs.length) : SrcA h (.own b 0 len) sz zs := by
  have := SrcA.own (st := 0) (len := len) hb (by omega)
  rw [List.drop_zero, hl, List.take_length] at this
  rw [hl]
  exact this

/-- An append, by its parts. -/
theorem op_app {P : Program} {tm : List (Nat × AV)} {h h2 : Heap} {nx : Nat} {t tx e : TypeId} {dx : TypeDesc} {z : Value} {bytes : Nat} {x y : Operand} {b len sz : Nat} {xs ys zs : List AV} (ht : P.underlying t = some (.slice e)) (htx : P.underlying tx = some dx) (hdx : (∃ e', dx = .slice e') ∨ dx = .string)
    (hi : (P.info? e).map (fun i => (i.zero, i.size, i.bytes)) = some (some z, sz, bytes)) (hzs : z.cells.size = sz ∧ ∀ (i : Nat) (u : Value), z.cells[i]? = some u → u.oneCell' = true)
    (hx : oev tm x = .own b 0 len) (hb : hget h b = some (.cells sz xs)) (hd : hdelS h b = some h2) (hl : len = xs.length) (hy : SrcOK P tm h nx y sz ys) (hbd : (len + ys.length) * bytes ≤ 140737488355328 ∧ len + ys.length ≤ 9223372036854775807) (hz : xs ++ ys = zs) :
    OpOK P (.call { callee := .builtin .append, args := #[x, y], argTypes := #[t, tx] }) ⟨tm, h, nx⟩ (.own nx 0 zs.length) ((nx, .cells sz zs) :: h2) (nx + 1) := by
  have := app_gen (h2 := h2) ht htx hdx hi hzs.1 hzs.2 hx (.inr ⟨b, rfl, hb, Nat.le_of_eq hl, fun k X hk => by
    rw [← hdelS_spec _ _ _ hd, hget_del] at hk
    split at hk
    · cases hk
    · rename_i hne; exact ⟨fun e => hne e.symm, hk⟩⟩) hy hbd.1 hbd.2
  rw [hl, List.take_length, hz, ← List.length_append, hz] at this
  exact this
theorem op_appN {P : Program} {tm : List (Nat × AV)} {h : Heap} {nx : Nat} {t tx e : TypeId} {dx : TypeDesc} {z : Value} {bytes : Nat} {x y : Operand} {sz : Nat} {ys : List AV} (ht : P.underlying t = some (.slice e)) (htx : P.underlying tx = some dx) (hdx : (∃ e', dx = .slice e') ∨ dx = .string)
    (hi : (P.info? e).map (fun i => (i.zero, i.size, i.bytes)) = some (some z, sz, bytes)) (hzs : z.cells.size = sz ∧ ∀ (i : Nat) (u : Value), z.cells[i]? = some u → u.oneCell' = true)
    (hx : oev tm x = .nils) (hy : SrcOK P tm h nx y sz ys) (hbd : ys.length * bytes ≤ 140737488355328 ∧ ys.length ≤ 9223372036854775807) :
    OpOK P (.call { callee := .builtin .append, args := #[x, y], argTypes := #[t, tx] }) ⟨tm, h, nx⟩ (.own nx 0 ys.length) ((nx, .cells sz ys) :: h) (nx + 1) := by
  have := app_gen (len := 0) (xs := []) (h2 := h) ht htx hdx hi hzs.1 hzs.2 hx (.inl ⟨rfl, rfl, rfl, fun k X hk => hk⟩) hy (by rw [Nat.zero_add]; exact hbd.1) (by rw [Nat.zero_add]; exact hbd.2)
  rw [Nat.zero_add] at this
  exact this

section
variable {P : Program} {tm : List (Nat × AV)} {h : Heap}
theorem op_notT {t : TypeId} {x : Operand} (hx : oev tm x = .bool true) : OpP P (.unOp .not t x) tm h (.bool false) := op_not hx
theorem op_notF {t : TypeId} {x : Operand} (hx : oev tm x = .bool false) : OpP P (.unOp .not t x) tm h (.bool true) := op_not hx
theorem op_convS {s d : TypeId} {x : Operand} {l : List UInt8} (hs : P.underlying s = some .string) (hd : P.underlying d = some .string) (hx : oev tm x = sb l) : OpP P (.convert s d x) tm h (sb l) := fun c n nx ρ S a w hr =>
  ⟨.string ⟨l.toArray⟩, fun o ho => by unfold execOp; rw [ho]; simp [ev_str hr hx, convert, run_underlying hs, run_underlying hd], .str⟩

/-- Bytes, as a text. -/
theorem op_toStr {s d e : TypeId} {x : Operand} {v : AV} {l : List UInt8} (hs : P.underlying s = some (.slice e)) (he : P.underlying e = some (.int .u8)) (hd : P.underlying d = some .string) (hx : oev tm x = v) {ys : List AV} (hv : SrcA h v 1 ys) (hl : ys = bl l) : OpP P (.convert s d x) tm h (sb l) := fun c n nx ρ S a w hr => by
  obtain ⟨A, cp, news, h1, h2, h3, h4, h5, h6, h7⟩ := hv.read hr (ev_vr hr hx)
  have hll : ys.length = l.length := by rw [hl, List.length_map]
  refine ⟨.string ⟨l.toArray⟩, fun o ho => ?_, .str⟩
  unfold execOp; rw [ho]
  simp only [h1, Sem.run_bind]
  cases hys : ys with
  | nil =>
    have hl0 : l = [] := List.eq_nil_of_length_eq_zero (by rw [← hll, hys]; rfl)
    subst hl0
    cases A with
    | none => simp only [List.length_nil]; rw [run_convert_bytes_nil w s e hs he 0 cp d hd]; rfl
    | some ad =>
      have := run_convert_bytes_back (P := P) w s d e ad cp [] hs he hd (fun j hj => by simp at hj)
      simp only [List.length_nil] at this ⊢
      rw [this]
      rfl
  | cons z zs =>
    obtain ⟨blk, off, rfl, hc⟩ := h5 (by rw [hys]; simp)
    rw [← hys, hll]
    rw [run_convert_bytes_back (P := P) w s d e ⟨blk, off, none⟩ cp l hs he hd (fun j hj => by
      have hj2 : j < news.length := by rw [h3, Nat.mul_one]; omega
      have e1 : news[j]? = some news[j] := List.getElem?_eq_getElem hj2
      have e2 : (flat ys)[j]? = some (.int .u8 l[j].toNat) := by
        rw [hl, flat_bl, List.getElem?_map, List.getElem?_eq_getElem hj]; rfl
      have := (h7 j _ _ e2 e1).int_inv
      rw [Addr.add_lit, hc j _ e1, this])]
    rfl

theorem ren_bl (σ : Nat → Nat) (l : List UInt8) : (bl l).map (AV.ren σ) = bl l := by
  rw [List.map_map]; rfl
theorem bl_take (l : List UInt8) (k : Nat) : (bl l).take k = bl (l.take k) := by simp [bl, List.map_take]
theorem bl_drop (l : List UInt8) (k : Nat) : (bl l).drop k = bl (l.drop k) := by simp [bl, List.map_drop]
theorem bl_app (l l' : List UInt8) : bl l ++ bl l' = bl (l ++ l') := by simp [bl]
theorem bl_len (l : List UInt8) : (bl l).length = l.length := by simp [bl]

theorem st_call {c : Ctx} {n : Nat} {nx : Nat} {Qe : Exit → St → Prop} {ops : Array Oper} {d : Nat} {fo : Operand} {xs : Array Operand} {ts : Array TypeId} {ty : TypeId} {pos : String} {aft : Array Edge} {rst : List Oper} {f : FuncId} {fn : Func} {first caps args largs : List AV} {al : Bool} {Q : AV → Heap → Nat → Prop}
    (hac : AC P f largs [] 0 al Q) (hf : P.funcs[f]? = some fn) (hn : (fn.name == "runtime.NumGoroutine") = false ∧ fn.body.isNone = false)
    (hfo : oev tm fo = .fn (.func f) first caps) (hargs : first ++ (xs.toList.map (oev tm) ++ caps) = args) (hlend : Lends al h (swp [] 0 nx) [] args largs) (hd : Nat.blt d n = true)
    (hk : ∀ r h' nx', Q r h' nx' → ∀ r2 h2 n2, r.ren (swp [] 0 nx) = r2 → h ++ h'.map (fun p => (swp [] 0 nx p.1, p.2.ren (swp [] 0 nx))) = h2 → nx + nx' = n2 → AL P c n ops Qe rst ⟨(d, r2) :: tm, h2, n2⟩) :
    AL P c n ops Qe (⟨some d, .call { callee := .value fo, args := xs, argTypes := ts }, ty, pos, aft, none⟩ :: rst) ⟨tm, h, nx⟩ :=
  al_call f first caps [] 0 al [] [] args largs Q rfl (blt_of hd) rfl hfo hargs.symm (fun vs w => callFunc_enter hf hn.1 hn.2 vs w) rfl rfl (Nat.zero_le _) (fun p hp => by cases hp) rfl hlend hac (fun r h' nx' hq => hk r h' nx' hq _ _ _ rfl rfl rfl)
end

/-! ### What stands in a slot, written out -/

def tgetS : List (Nat × AV) → Nat → Option AV
  | [], _ => none
  | (i, v) :: t, j => if i = j then some v else tgetS t j

theorem tgetS_spec : ∀ (tm : List (Nat × AV)) (i : Nat) (v : AV), tgetS tm i = some v → tget tm i = v := by
  intro tm
  induction tm with
  | nil => intro i v h; cases h
  | cons q t ih =>
    obtain ⟨j, x⟩ := q
    intro i v h
    simp only [tgetS] at h
    by_cases e : j = i
    · rw [if_pos e] at h; simp [tget, e, Option.some.inj h]
    · rw [if_neg e] at h; simp [tget, e, ih i v h]

def constS : Value → Option AV
  | .bool b => some (.bool b)
  | .int k n => some (.int k n)
  | .string s => some (.str s)
  | .pointer none => some .nilp
  | .slice none 0 0 => some .nils
  | .map none => some .nilm
  | .nilFunc => some .nilf
  | .nilIface => some .nili
  | .agg cs => some (.agg (cs.toList.map ofConst1))
  | _ => none

theorem constS_spec (v : Value) (x : AV) (h : constS v = some x) : ofConst v = x := by
  unfold constS at h
  split at h <;> first | (obtain rfl := Option.some.inj h; rfl) | cases h

def oevS (tm : List (Nat × AV)) : Operand → Option AV
  | .tmp t => tgetS tm t
  | .const v => constS v
  | .global _ => none
  | .func f => some (.fn (.func f) [] [])

theorem oevS_spec {tm : List (Nat × AV)} {x : Operand} {v : AV} (h : oevS tm x = some v) : oev tm x = v := by
  cases x with
  | tmp t => exact tgetS_spec tm t v h
  | const c => exact constS_spec c v h
  | global g => cases h
  | func f => exact Option.some.inj h

def selS (tm : List (Nat × AV)) : List Nat → Option (List (Nat × AV))
  | [] => some []
  | k :: ks => match tgetS tm k, selS tm ks with
    | some v, some r => some ((k, v) :: r)
    | _, _ => none

def oevsS (tm : List (Nat × AV)) : List Operand → Option (List AV)
  | [] => some []
  | x :: t => match oevS tm x with
    | some v => match oevsS tm t with
      | some r => some (v :: r)
      | none => none
    | none => none

theorem oevsS_spec {tm : List (Nat × AV)} : ∀ (l : List Operand) (vs : List AV), oevsS tm l = some vs → l.map (oev tm) = vs := by
  intro l
  induction l with
  | nil => intro vs h; exact Option.some.inj h
  | cons x t ih =>
    intro vs h
    simp only [oevsS] at h
    cases h1 : oevS tm x with
    | none => rw [h1] at h; cases h
    | some v =>
      rw [h1] at h
      cases h2 : oevsS tm t with
      | none => rw [h2] at h; cases h
      | some r =>
        rw [h2] at h
        rw [List.map_cons, oevS_spec h1, ih r h2]
        exact Option.some.inj h

section
variable {P : Program} {tm : List (Nat × AV)} {h : Heap} {nx : Nat}
theorem mv {x : Operand} {v : AV} (hx : oevS tm x = some v) : OpP P (.move x) tm h v := op_move (oevS_spec hx)
theorem mva {x : Operand} {v : AV} (hx : oevS tm x = some v) : OpP P (.assign x) tm h v := op_assign (oevS_spec hx)
theorem pkT {q x y : Operand} {v : AV} (hq : oev tm q = .bool true) (hx : oevS tm x = some v) : OpP P (.pick q x y) tm h v := op_pickT hq (oevS_spec hx)
theorem pkF {q x y : Operand} {v : AV} (hq : oev tm q = .bool false) (hx : oevS tm y = some v) : OpP P (.pick q x y) tm h v := op_pickF hq (oevS_spec hx)
theorem bx {t : TypeId} {x : Operand} {v : AV} (hx : oevS tm x = some v) (hk : v.known = true) : OpOK P (.box t x) ⟨tm, h, nx⟩ (.ptr nx 0 0) ((nx, .cells v.cells.length [v]) :: h) (nx + 1) := op_box (oevS_spec hx) hk
theorem mkf {fn : Fn} {fs cs : Array Operand} {xs ys : List AV} (h1 : oevsS tm fs.toList = some xs) (h2 : oevsS tm cs.toList = some ys) : OpP P (.makeFunc fn fs cs) tm h (.fn fn xs ys) := op_makeFunc (oevsS_spec _ _ h1) (oevsS_spec _ _ h2)
theorem bsl {t e : TypeId} {len sz bytes : Nat} {parts : Array (Nat × Operand)} {z : Value} {vs : List AV} (hu : P.underlying t = some (.slice e)) (hi : (P.info? e).map (fun i => (i.zero, i.size, i.bytes)) = some (some z, sz, bytes)) (hzs : z.cells.size = sz ∧ ∀ (i : Nat) (u : Value), z.cells[i]? = some u → u.oneCell' = true)
    (hs : 0 < sz) (hl : parts.toList.map (·.1) = List.range len) (hv : oevsS tm (parts.toList.map (·.2)) = some vs) (hk : (vs.all fun v => v.known && Nat.beq v.cells.length sz) = true) (hsm : len * sz ≤ 16777216) :
    OpOK P (.buildSlice t len parts) ⟨tm, h, nx⟩ (.own nx 0 len) ((nx, .cells sz vs) :: h) (nx + 1) :=
  op_buildSlice hu hi hzs.1 hzs.2 hs hl (by rw [← oevsS_spec _ _ hv, List.map_map]; rfl) (fun v hv => by
    have := List.all_eq_true.1 hk v hv
    simp only [Bool.and_eq_true] at this
    exact ⟨this.1, Nat.eq_of_beq_eq_true this.2⟩) hsm
theorem stA {t : TypeId} {x y : Operand} {b i o m sz : Nat} {xs xs' cs : List AV} {e v : AV} {h' : Heap} (hz : (P.info? t).map (·.size) = some m) (hx : oev tm x = .ptr b i o) (hy : oevS tm y = some v) (hb : hget h b = some (.cells sz xs)) (he : xs[i]? = some e) (hel : e.cells.length = sz) (hk : v.known = true) (hm : v.cells.length = m)
    (hs : spl e.cells o v.cells = some cs) (hx' : setS xs i (.agg cs) = some xs') (hh : hsetS h b (.cells sz xs') = some h') : OpOK P (.store t x y) ⟨tm, h, nx⟩ .top h' nx := op_storeA hz hx (oevS_spec hy) hb he hel hk hm hs hx' hh
theorem stAs {t : TypeId} {x y : Operand} {b i o m sz : Nat} {xs cs : List AV} {e v : AV} {h' : Heap} (hz : (P.info? t).map (·.size) = some m) (hx : oev tm x = .ptr b i o) (hy : oevS tm y = some v) (hb : hget h b = some (.cells sz xs)) (he : xs[i]? = some e) (hel : e.cells.length = sz) (hk : v.known = true) (hm : v.cells.length = m)
    (hs : spl e.cells o v.cells = some cs) (hh : hsetS h b (.cells sz (xs.set i (.agg cs))) = some h') : OpOK P (.store t x y) ⟨tm, h, nx⟩ .top h' nx := op_storeAs hz hx (oevS_spec hy) hb he hel hk hm hs hh
theorem st1 {t : TypeId} {x y : Operand} {b i : Nat} {xs xs' : List AV} {e v : AV} {h' : Heap} (hz : (P.info? t).map (·.size) = some 1) (hx : oev tm x = .ptr b i 0) (hy : oevS tm y = some v) (hb : hget h b = some (.cells 1 xs)) (he : xs[i]? = some e) (hna : e.one = true) (hk : v.one = true)
    (hx' : setS xs i v = some xs') (hh : hsetS h b (.cells 1 xs') = some h') : OpOK P (.store t x y) ⟨tm, h, nx⟩ .top h' nx := op_store1 hz hx (oevS_spec hy) hb he hk hx' hh
theorem st1s {t : TypeId} {x y : Operand} {b i : Nat} {xs : List AV} {e v : AV} {h' : Heap} (hz : (P.info? t).map (·.size) = some 1) (hx : oev tm x = .ptr b i 0) (hy : oevS tm y = some v) (hb : hget h b = some (.cells 1 xs)) (he : xs[i]? = some e) (hna : e.one = true) (hk : v.one = true)
    (hh : hsetS h b (.cells 1 (xs.set i v)) = some h') : OpOK P (.store t x y) ⟨tm, h, nx⟩ .top h' nx := op_store1s hz hx (oevS_spec hy) hb he hk hh

theorem st_call0 {c : Ctx} {n : Nat} {Qe : Exit → St → Prop} {ops : Array Oper} {d : Nat} {xs : Array Operand} {ts : Array TypeId} {ty : TypeId} {pos : String} {aft : Array Edge} {rst : List Oper} {f : FuncId} {fn : Func} {args largs : List AV} {al : Bool} {Q : AV → Heap → Nat → Prop}
    (hac : AC P f largs [] 0 al Q) (hf : P.funcs[f]? = some fn) (hn : (fn.name == "runtime.NumGoroutine") = false ∧ fn.body.isNone = false)
    (hargs : oevsS tm xs.toList = some args) (hlend : Lends al h (swp [] 0 nx) [] args largs) (hd : Nat.blt d n = true)
    (hk : ∀ r h' nx', Q r h' nx' → ∀ r2 h2 n2, r.ren (swp [] 0 nx) = r2 → h ++ h'.map (fun p => (swp [] 0 nx p.1, p.2.ren (swp [] 0 nx))) = h2 → nx + nx' = n2 → AL P c n ops Qe rst ⟨(d, r2) :: tm, h2, n2⟩) :
    AL P c n ops Qe (⟨some d, .call { callee := .value (.func f), args := xs, argTypes := ts }, ty, pos, aft, none⟩ :: rst) ⟨tm, h, nx⟩ :=
  st_call (first := []) (caps := []) hac hf hn rfl (by rw [oevsS_spec _ _ hargs, List.append_nil, List.nil_append]) hlend hd hk
end

/-- The parts of a struct that is written out. -/
theorem pcons {P : Program} {tm : List (Nat × AV)} {fs : Array Field} {i : Nat} {x : Operand} {f : Field} {v : AV} {l : List (Nat × Operand)} {ps : List (Nat × AV)} (hf : fs[i]? = some f) (hx : oevS tm x = some v) (hz : (P.info? f.type).map (·.size) = some v.cells.length) (hk : v.known = true) (ht : Parts P tm fs l ps) : Parts P tm fs ((i, x) :: l) ((f.offset, v) :: ps) := .cons hf (oevS_spec hx) hz hk ht

end Go.Proofs.Ytloddmbbfkejcaa.Abs
