/-
  Operations that make a value and leave memory alone. They hold of any program.
-/
import Derived.Test.YtloddmbbfkejcaaAbsE
import Derived.WalkSpells
import Derived.IntWalk
import Derived.WalkLawsBesides
namespace Go.Proofs.Ytloddmbbfkejcaa.Abs

section
variable {P : Program} {tm : List (Nat × AV)} {h : Heap}

theorem ev_int {c : Ctx} {n nx : Nat} {ρ : Rho} {S : Nat → Prop} {a : Act} {w : World} (hr : Rep c n ⟨tm, h, nx⟩ ρ S a w) {x : Operand} {k : IntKind} {m : Int} (hx : oev tm x = .int k m) : a.eval x = .int k m := by
  have := hr.oev x; rw [hx] at this; exact this.int_inv
theorem ev_bool {c : Ctx} {n nx : Nat} {ρ : Rho} {S : Nat → Prop} {a : Act} {w : World} (hr : Rep c n ⟨tm, h, nx⟩ ρ S a w) {x : Operand} {b : Bool} (hx : oev tm x = .bool b) : a.eval x = .bool b := by
  have := hr.oev x; rw [hx] at this; exact this.bool_inv
theorem ev_str {c : Ctx} {n nx : Nat} {ρ : Rho} {S : Nat → Prop} {a : Act} {w : World} (hr : Rep c n ⟨tm, h, nx⟩ ρ S a w) {x : Operand} {s : ByteArray} (hx : oev tm x = .str s) : a.eval x = .string s := by
  have := hr.oev x; rw [hx] at this; exact this.str_inv
theorem ev_vr {c : Ctx} {n nx : Nat} {ρ : Rho} {S : Nat → Prop} {a : Act} {w : World} (hr : Rep c n ⟨tm, h, nx⟩ ρ S a w) {x : Operand} {v : AV} (hx : oev tm x = v) : VR S w ρ v (a.eval x) := by
  have := hr.oev x; rw [hx] at this; exact this

theorem op_move {x : Operand} {v : AV} (hx : oev tm x = v) : OpP P (.move x) tm h v := fun c n nx ρ S a w hr =>
  ⟨a.eval x, fun o ho => by unfold execOp; rw [ho]; rfl, ev_vr hr hx⟩
theorem op_assign {x : Operand} {v : AV} (hx : oev tm x = v) : OpP P (.assign x) tm h v := fun c n nx ρ S a w hr =>
  ⟨a.eval x, fun o ho => by unfold execOp; rw [ho]; rfl, ev_vr hr hx⟩
theorem op_pickT {q x y : Operand} {v : AV} (hq : oev tm q = .bool true) (hx : oev tm x = v) : OpP P (.pick q x y) tm h v := fun c n nx ρ S a w hr =>
  ⟨a.eval x, fun o ho => by unfold execOp; rw [ho]; simp [ev_bool hr hq, asBool], ev_vr hr hx⟩
theorem op_pickF {q x y : Operand} {v : AV} (hq : oev tm q = .bool false) (hx : oev tm y = v) : OpP P (.pick q x y) tm h v := fun c n nx ρ S a w hr =>
  ⟨a.eval y, fun o ho => by unfold execOp; rw [ho]; simp [ev_bool hr hq, asBool], ev_vr hr hx⟩

/-- Two numbers. -/
theorem op_bin {op : BinOp} {t t' : TypeId} {x y : Operand} {k k' : IntKind} {m m' : Int} {v : AV} {u : Value} (hx : oev tm x = .int k m) (hy : oev tm y = .int k' m')
    (hrun : ∀ w, (binOp op t (.int k m) (.int k' m')).run P w = .ok u w) (hv : ∀ S w ρ, VR S w ρ v u) : OpP P (.binOp op t x y t') tm h v := fun c n nx ρ S a w hr =>
  ⟨u, fun o ho => by unfold execOp; rw [ho]; simp [ev_int hr hx, ev_int hr hy, eqGuard_at_int, hrun], hv S w ρ⟩

section
variable {t t' : TypeId} {x y : Operand} {k : IntKind} {m m' : Int}
theorem op_add (hx : oev tm x = .int k m) (hy : oev tm y = .int k m') : OpP P (.binOp .add t x y t') tm h (.int k (k.wrap (m + m'))) :=
  op_bin hx hy (fun w => by rw [binOp_add]; rfl) (fun _ _ _ => .int)
theorem op_sub (hx : oev tm x = .int k m) (hy : oev tm y = .int k m') : OpP P (.binOp .sub t x y t') tm h (.int k (k.wrap (m - m'))) :=
  op_bin hx hy (fun w => by rw [binOp_sub]; rfl) (fun _ _ _ => .int)
theorem op_mul (hx : oev tm x = .int k m) (hy : oev tm y = .int k m') : OpP P (.binOp .mul t x y t') tm h (.int k (k.wrap (m * m'))) :=
  op_bin hx hy (fun w => by rw [binOp_mul]; rfl) (fun _ _ _ => .int)
theorem wrap_i64 {z : Int} (h1 : -9223372036854775808 ≤ z) (h2 : z ≤ 9223372036854775807) : IntKind.i64.wrap z = z := IntWalk.i64_in z (by omega)
theorem op_addi (hx : oev tm x = .int .i64 m) (hy : oev tm y = .int .i64 m') (h1 : -9223372036854775808 ≤ m + m' ∧ m + m' ≤ 9223372036854775807) : OpP P (.binOp .add t x y t') tm h (.int .i64 (m + m')) :=
  op_bin hx hy (fun w => by rw [binOp_add]; simp [Op.intArith, wrap_i64 h1.1 h1.2]) (fun _ _ _ => .int)
theorem op_subi (hx : oev tm x = .int .i64 m) (hy : oev tm y = .int .i64 m') (h1 : -9223372036854775808 ≤ m - m' ∧ m - m' ≤ 9223372036854775807) : OpP P (.binOp .sub t x y t') tm h (.int .i64 (m - m')) :=
  op_bin hx hy (fun w => by rw [binOp_sub]; simp [Op.intArith, wrap_i64 h1.1 h1.2]) (fun _ _ _ => .int)
theorem op_muli (hx : oev tm x = .int .i64 m) (hy : oev tm y = .int .i64 m') (h1 : -9223372036854775808 ≤ m * m' ∧ m * m' ≤ 9223372036854775807) : OpP P (.binOp .mul t x y t') tm h (.int .i64 (m * m')) :=
  op_bin hx hy (fun w => by rw [binOp_mul]; simp [Op.intArith, wrap_i64 h1.1 h1.2]) (fun _ _ _ => .int)
theorem op_quo (hx : oev tm x = .int k m) (hy : oev tm y = .int k m') (h0 : m' ≠ 0) : OpP P (.binOp .quo t x y t') tm h (.int k (k.wrap (m.tdiv m'))) :=
  op_bin hx hy (fun w => by rw [binOp_quo]; simp [Op.intDiv, h0]) (fun _ _ _ => .int)
theorem op_rem (hx : oev tm x = .int k m) (hy : oev tm y = .int k m') (h0 : m' ≠ 0) : OpP P (.binOp .rem t x y t') tm h (.int k (m.tmod m')) :=
  op_bin hx hy (fun w => by rw [binOp_rem]; simp [Op.intDiv, h0]) (fun _ _ _ => .int)
theorem op_quoi (hx : oev tm x = .int .i64 m) (hy : oev tm y = .int .i64 m') (h0 : 0 ≤ m ∧ m ≤ 9223372036854775807) (h1 : 0 < m') : OpP P (.binOp .quo t x y t') tm h (.int .i64 (m / m')) := by
  have e : m.tdiv m' = m / m' := Int.tdiv_eq_ediv_of_nonneg h0.1
  have b : 0 ≤ m / m' := Int.ediv_nonneg h0.1 (by omega)
  have b' : m / m' ≤ m := Int.ediv_le_self _ h0.1
  exact op_bin hx hy (fun w => by rw [binOp_quo]; simp [Op.intDiv, show m' ≠ 0 by omega, e, wrap_i64 (show -9223372036854775808 ≤ m / m' by omega) (show m / m' ≤ 9223372036854775807 by omega)]) (fun _ _ _ => .int)
theorem op_remi (hx : oev tm x = .int k m) (hy : oev tm y = .int k m') (h0 : 0 ≤ m) (h1 : 0 < m') : OpP P (.binOp .rem t x y t') tm h (.int k (m % m')) := by
  have e : m.tmod m' = m % m' := Int.tmod_eq_emod_of_nonneg h0
  exact op_bin hx hy (fun w => by rw [binOp_rem]; simp [Op.intDiv, show m' ≠ 0 by omega, e]) (fun _ _ _ => .int)
theorem op_band (hx : oev tm x = .int k m) (hy : oev tm y = .int k m') : OpP P (.binOp .and t x y t') tm h (.int k (bits .and k m m')) :=
  op_bin hx hy (fun w => by rw [binOp_and]; rfl) (fun _ _ _ => .int)
theorem op_bor (hx : oev tm x = .int k m) (hy : oev tm y = .int k m') : OpP P (.binOp .or t x y t') tm h (.int k (bits .or k m m')) :=
  op_bin hx hy (fun w => by rw [binOp_or]; rfl) (fun _ _ _ => .int)
theorem op_bxor (hx : oev tm x = .int k m) (hy : oev tm y = .int k m') : OpP P (.binOp .xor t x y t') tm h (.int k (bits .xor k m m')) :=
  op_bin hx hy (fun w => by rw [binOp_xor]; rfl) (fun _ _ _ => .int)
theorem op_shr {k' : IntKind} (hx : oev tm x = .int k m) (hy : oev tm y = .int k' m') (h0 : 0 ≤ m' ∧ m' ≤ k.bits) : OpP P (.binOp .shr t x y t') tm h (.int k (m / 2 ^ m'.toNat)) :=
  op_bin hx hy (fun w => by rw [binOp_shr, shift_shr k k' m m' h0.1 h0.2]; rfl) (fun _ _ _ => .int)
theorem op_shl {k' : IntKind} (hx : oev tm x = .int k m) (hy : oev tm y = .int k' m') (h0 : 0 ≤ m' ∧ m' ≤ k.bits) : OpP P (.binOp .shl t x y t') tm h (.int k (k.wrap (m * 2 ^ m'.toNat))) :=
  op_bin hx hy (fun w => by rw [binOp_shl, shift_shl k k' m m' h0.1 h0.2]; rfl) (fun _ _ _ => .int)
theorem op_eq (hx : oev tm x = .int k m) (hy : oev tm y = .int k m') : OpP P (.binOp .eql t x y t') tm h (.bool (decide (m = m'))) :=
  op_bin hx hy (fun w => by rw [binOp_eql]; rfl) (fun _ _ _ => by rw [show decide (m = m') = (m == m') from rfl]; exact .bool)
theorem op_ne (hx : oev tm x = .int k m) (hy : oev tm y = .int k m') : OpP P (.binOp .neq t x y t') tm h (.bool (decide (m ≠ m'))) :=
  op_bin hx hy (fun w => by rw [binOp_neq]; rfl) (fun _ _ _ => by rw [show decide (m ≠ m') = (m != m') from by by_cases e : m = m' <;> simp [e]]; exact .bool)
theorem op_lt (hx : oev tm x = .int k m) (hy : oev tm y = .int k m') : OpP P (.binOp .lss t x y t') tm h (.bool (decide (m < m'))) :=
  op_bin hx hy (fun w => by rw [binOp_lss]; rfl) (fun _ _ _ => .bool)
theorem op_le (hx : oev tm x = .int k m) (hy : oev tm y = .int k m') : OpP P (.binOp .leq t x y t') tm h (.bool (decide (m ≤ m'))) :=
  op_bin hx hy (fun w => by rw [binOp_leq]; rfl) (fun _ _ _ => .bool)
theorem op_gt (hx : oev tm x = .int k m) (hy : oev tm y = .int k m') : OpP P (.binOp .gtr t x y t') tm h (.bool (decide (m > m'))) :=
  op_bin hx hy (fun w => by rw [binOp_gtr]; rfl) (fun _ _ _ => .bool)
theorem op_ge (hx : oev tm x = .int k m) (hy : oev tm y = .int k m') : OpP P (.binOp .geq t x y t') tm h (.bool (decide (m ≥ m'))) :=
  op_bin hx hy (fun w => by rw [binOp_geq]; rfl) (fun _ _ _ => .bool)
end

theorem OpP.conv {op : Op} {v v' : AV} (h1 : OpP P op tm h v) (e : v = v') : OpP P op tm h v' := e ▸ h1
theorem yes {p : Prop} [Decidable p] (hp : p) : AV.bool (decide p) = .bool true := by rw [decide_eq_true hp]
theorem no {p : Prop} [Decidable p] (hp : ¬ p) : AV.bool (decide p) = .bool false := by rw [decide_eq_false hp]

theorem op_not {t : TypeId} {x : Operand} {b : Bool} (hx : oev tm x = .bool b) : OpP P (.unOp .not t x) tm h (.bool (!b)) := fun c n nx ρ S a w hr =>
  ⟨.bool (!b), fun o ho => by unfold execOp; rw [ho]; simp [ev_bool hr hx, Op.unary], .bool⟩

/-- Two bools. -/
theorem op_eqb {t t' : TypeId} {x y : Operand} {b b' : Bool} (hu : P.underlying t = some .bool) (hx : oev tm x = .bool b) (hy : oev tm y = .bool b') : OpP P (.binOp .eql t x y t') tm h (.bool (b == b')) := fun c n nx ρ S a w hr =>
  ⟨.bool (b == b'), fun o ho => by unfold execOp; rw [ho]; simp [ev_bool hr hx, ev_bool hr hy, eqGuard_at_bool, run_eql_bool w t b b' hu], .bool⟩
theorem op_neb {t t' : TypeId} {x y : Operand} {b b' : Bool} (hu : P.underlying t = some .bool) (hx : oev tm x = .bool b) (hy : oev tm y = .bool b') : OpP P (.binOp .neq t x y t') tm h (.bool (b != b')) := fun c n nx ρ S a w hr =>
  ⟨.bool (b != b'), fun o ho => by unfold execOp; rw [ho]; simp [ev_bool hr hx, ev_bool hr hy, eqGuard_at_bool, run_neq_bool w t b b' hu, bne], .bool⟩

/-- A text, as its bytes. -/
abbrev sb (l : List UInt8) : AV := .str ⟨l.toArray⟩

theorem toList_go (l : List UInt8) : ∀ (k : Nat) (i : Nat) (r : List UInt8), l.length - i = k → i ≤ l.length → ByteArray.toList.loop ⟨l.toArray⟩ i r = r.reverse ++ l.drop i := by
  intro k
  induction k with
  | zero =>
    intro i r hk hi
    have : i = l.length := by omega
    subst this
    rw [ByteArray.toList.loop, if_neg (by simp [ByteArray.size])]
    simp
  | succ k ih =>
    intro i r hk hi
    have hlt : i < l.length := by omega
    rw [ByteArray.toList.loop, if_pos (by simpa [ByteArray.size] using hlt), ih (i + 1) _ (by omega) (by omega)]
    have hg : (ByteArray.mk l.toArray).get! i = l[i] := by
      show l.toArray[i]! = l[i]
      simp [hlt]
    rw [hg, List.reverse_cons, List.append_assoc, List.singleton_append, List.getElem_cons_drop]

theorem toList_mk (l : List UInt8) : (ByteArray.mk l.toArray).toList = l := by
  unfold ByteArray.toList
  rw [toList_go l _ 0 [] rfl (Nat.zero_le _)]
  rfl

/-- The order of texts. -/
def bless : List UInt8 → List UInt8 → Bool := Op.bytesLess

section
variable {t t' : TypeId} {x y : Operand} {l l' : List UInt8}
theorem op_str {op : BinOp} {v : AV} {u : Value} (hx : oev tm x = sb l) (hy : oev tm y = sb l') (hrun : ∀ w, (Op.stringOp op ⟨l.toArray⟩ ⟨l'.toArray⟩).run P w = .ok u w) (hb : ∀ z z' : ByteArray, binOp op t (.string z) (.string z') = Op.stringOp op z z')
    (hv : ∀ S w ρ, VR S w ρ v u) : OpP P (.binOp op t x y t') tm h v := fun c n nx ρ S a w hr =>
  ⟨u, fun o ho => by unfold execOp; rw [ho]; simp [ev_str hr hx, ev_str hr hy, eqGuard_at_string, hb, hrun], hv S w ρ⟩
theorem op_eqs (hx : oev tm x = sb l) (hy : oev tm y = sb l') : OpP P (.binOp .eql t x y t') tm h (.bool (decide (l = l'))) :=
  op_str hx hy (fun w => by simp only [Op.stringOp, toList_mk]; rfl) (fun _ _ => rfl) (fun _ _ _ => by rw [show decide (l = l') = (l == l') from by by_cases e : l = l' <;> simp [e]]; exact .bool)
theorem op_nes (hx : oev tm x = sb l) (hy : oev tm y = sb l') : OpP P (.binOp .neq t x y t') tm h (.bool (decide (l ≠ l'))) :=
  op_str hx hy (fun w => by simp only [Op.stringOp, toList_mk]; rfl) (fun _ _ => rfl) (fun _ _ _ => by rw [show decide (l ≠ l') = !(l == l') from by by_cases e : l = l' <;> simp [e]]; exact .bool)
theorem op_lts (hx : oev tm x = sb l) (hy : oev tm y = sb l') : OpP P (.binOp .lss t x y t') tm h (.bool (bless l l')) :=
  op_str hx hy (fun w => by simp only [Op.stringOp, toList_mk]; rfl) (fun _ _ => rfl) (fun _ _ _ => .bool)
theorem op_les (hx : oev tm x = sb l) (hy : oev tm y = sb l') : OpP P (.binOp .leq t x y t') tm h (.bool (bless l l' || l == l')) :=
  op_str hx hy (fun w => by simp only [Op.stringOp, toList_mk]; rfl) (fun _ _ => rfl) (fun _ _ _ => .bool)
theorem op_gts (hx : oev tm x = sb l) (hy : oev tm y = sb l') : OpP P (.binOp .gtr t x y t') tm h (.bool (!(bless l l' || l == l'))) :=
  op_str hx hy (fun w => by simp only [Op.stringOp, toList_mk]; rfl) (fun _ _ => rfl) (fun _ _ _ => .bool)
theorem op_ges (hx : oev tm x = sb l) (hy : oev tm y = sb l') : OpP P (.binOp .geq t x y t') tm h (.bool (!bless l l')) :=
  op_str hx hy (fun w => by simp only [Op.stringOp, toList_mk]; rfl) (fun _ _ => rfl) (fun _ _ _ => .bool)
theorem op_cats (hx : oev tm x = sb l) (hy : oev tm y = sb l') (hl : l.length + l'.length ≤ 9223372036854775807) : OpP P (.binOp .add t x y t') tm h (sb (l ++ l')) :=
  op_str (u := .string (⟨l.toArray⟩ ++ ⟨l'.toArray⟩)) hx hy (fun w => by
    simp only [Op.stringOp]
    rw [if_neg (by simp [ByteArray.size]; omega)]
    rfl) (fun _ _ => rfl) (fun _ _ _ => by
      have e : (ByteArray.mk l.toArray ++ ByteArray.mk l'.toArray) = ⟨(l ++ l').toArray⟩ := by
        apply ByteArray.ext
        simp [ByteArray.data_append]
      rw [e]
      exact .str)
end

/-- A number turned into another kind. -/
theorem op_conv {s d : TypeId} {x : Operand} {k k' : IntKind} {m : Int} (hs : (P.underlying s).isSome = true) (hd : P.underlying d = some (.int k')) (hx : oev tm x = .int k m) : OpP P (.convert s d x) tm h (.int k' (k'.wrap m)) := fun c n nx ρ S a w hr =>
  ⟨.int k' (k'.wrap m), fun o ho => by
    obtain ⟨q, hq⟩ := Option.isSome_iff_exists.1 hs
    unfold execOp; rw [ho]; simp [ev_int hr hx, convert, run_underlying hq, run_underlying hd, Conv.intToInt], .int⟩
theorem op_convi {s d : TypeId} {x : Operand} {k : IntKind} {m : Int} (hs : (P.underlying s).isSome = true) (hd : P.underlying d = some (.int .i64)) (hx : oev tm x = .int k m) (hm : -9223372036854775808 ≤ m ∧ m ≤ 9223372036854775807) : OpP P (.convert s d x) tm h (.int .i64 m) := by
  have := op_conv (tm := tm) (h := h) hs hd hx
  rw [wrap_i64 hm.1 hm.2] at this
  exact this

/-- Rows' lengths. -/
theorem elem_of {t e : TypeId} (hu : P.underlying t = some (.slice e)) : P.underlying t = some (.slice (P.elem t)) := by
  have : P.elem t = e := by simp [Program.elem, hu]
  rw [this]; exact hu
theorem op_len {x : Operand} {t : TypeId} {sz : Nat} {xs : List AV} {el : TypeId} (hu : P.underlying t = some (.slice el)) (hx : oev tm x = .sl sz xs) : OpP P (.call { callee := .builtin .len, args := #[x], argTypes := #[t] }) tm h (.int .i64 xs.length) := fun c n nx ρ S a w hr =>
  ⟨.int .i64 xs.length, fun o ho => by
    have hv := ev_vr hr hx
    generalize he : a.eval x = v at hv
    cases hv with
    | sl0 => unfold execOp; rw [ho]; simp [resolve, invoke, builtin, he, run_len_slice _ _ _ _ _ _ (elem_of hu), goInt]
    | sl vs h1 h2 h3 h4 h5 h6 => unfold execOp; rw [ho]; simp [resolve, invoke, builtin, he, run_len_slice _ _ _ _ _ _ (elem_of hu), goInt], .int⟩
theorem op_leno {x : Operand} {t : TypeId} {b st len : Nat} {el : TypeId} (hu : P.underlying t = some (.slice el)) (hx : oev tm x = .own b st len) : OpP P (.call { callee := .builtin .len, args := #[x], argTypes := #[t] }) tm h (.int .i64 len) := fun c n nx ρ S a w hr =>
  ⟨.int .i64 len, fun o ho => by
    have hv := ev_vr hr hx
    generalize he : a.eval x = v at hv
    cases hv with
    | own h1 h2 h3 => unfold execOp; rw [ho]; simp [resolve, invoke, builtin, he, run_len_slice _ _ _ _ _ _ (elem_of hu), goInt]
    | own0 => unfold execOp; rw [ho]; simp [resolve, invoke, builtin, he, run_len_slice _ _ _ _ _ _ (elem_of hu), goInt], .int⟩
theorem op_lenn {x : Operand} {t : TypeId} {el : TypeId} (hu : P.underlying t = some (.slice el)) (hx : oev tm x = .nils) : OpP P (.call { callee := .builtin .len, args := #[x], argTypes := #[t] }) tm h (.int .i64 0) := fun c n nx ρ S a w hr =>
  ⟨.int .i64 0, fun o ho => by
    have hv := ev_vr hr hx
    generalize he : a.eval x = v at hv
    cases hv with
    | nils => unfold execOp; rw [ho]; simp [resolve, invoke, builtin, he, run_len_slice _ _ _ _ _ _ (elem_of hu), goInt], .int⟩
theorem op_lens {x : Operand} {t : TypeId} {l : List UInt8} (hu : P.underlying t = some .string) (hx : oev tm x = sb l) : OpP P (.call { callee := .builtin .len, args := #[x], argTypes := #[t] }) tm h (.int .i64 l.length) := fun c n nx ρ S a w hr =>
  ⟨.int .i64 l.length, fun o ho => by
    have e : ((ByteArray.mk l.toArray).size : Int) = l.length := by show ((l.toArray.size : Nat) : Int) = _; rw [List.size_toArray]
    unfold execOp; rw [ho]; simp only [resolve, invoke, builtin, Sem.run_bind, Sem.run_pure, Result.andThen_ok, List.map_toArray, List.map_cons, List.map_nil, ev_str hr hx]
    simp only [Builtin.len_, Sem.run_bind, List.getElem?_toArray, List.getElem?_cons_zero, run_underlying hu, Result.andThen_ok, Sem.run_pure, goInt, e], .int⟩
theorem op_min {x y : Operand} {ts : Array TypeId} {k : IntKind} {m m' : Int} (hx : oev tm x = .int k m) (hy : oev tm y = .int k m') : OpP P (.call { callee := .builtin .min, args := #[x, y], argTypes := ts }) tm h (.int k (min m m')) := fun c n nx ρ S a w hr =>
  ⟨.int k (min m m'), fun o ho => by
    have e : (if m' < m then m' else m) = min m m' := by simp only [Int.min_def]; split <;> (try split) <;> omega
    unfold execOp; rw [ho]; simp only [resolve, invoke, builtin, Sem.run_bind, Sem.run_pure, Result.andThen_ok, List.map_toArray, List.map_cons, List.map_nil, ev_int hr hx, ev_int hr hy, run_min_int2, e], .int⟩
theorem op_max {x y : Operand} {ts : Array TypeId} {k : IntKind} {m m' : Int} (hx : oev tm x = .int k m) (hy : oev tm y = .int k m') : OpP P (.call { callee := .builtin .max, args := #[x, y], argTypes := ts }) tm h (.int k (max m m')) := fun c n nx ρ S a w hr =>
  ⟨.int k (max m m'), fun o ho => by
    have e : (if m' > m then m' else m) = max m m' := by simp only [Int.max_def]; split <;> (try split) <;> omega
    unfold execOp; rw [ho]; simp only [resolve, invoke, builtin, Sem.run_bind, Sem.run_pure, Result.andThen_ok, List.map_toArray, List.map_cons, List.map_nil, ev_int hr hx, ev_int hr hy, run_max_int2, e], .int⟩

theorem op_extract {x : Operand} {i : Nat} {vs : List AV} {v : AV} (hx : oev tm x = .tup vs) (hv : vs[i]? = some v) : OpP P (.extract x i) tm h v := fun c n nx ρ S a w hr => by
  have hh := ev_vr hr hx
  generalize he : a.eval x = u at hh
  cases hh with
  | tup us h1 h2 =>
  have hi : i < us.size := by rw [← h1]; exact (List.getElem?_eq_some_iff.1 hv).1
  exact ⟨us[i], fun o ho => by unfold execOp; rw [ho]; simp [Instr.extract, he, hi], h2 i v _ hv (by simp [hi])⟩

theorem op_makeFunc {fn : Fn} {fs cs : Array Operand} {xs ys : List AV} (h1 : fs.toList.map (oev tm) = xs) (h2 : cs.toList.map (oev tm) = ys) : OpP P (.makeFunc fn fs cs) tm h (.fn fn xs ys) := fun c n nx ρ S a w hr =>
  ⟨.func fn (fs.map a.eval) (cs.map a.eval), fun o ho => by unfold execOp; rw [ho]; simp [Instr.makeFunc], .fn _ _ (by rw [← h1]; simp) (by rw [← h2]; simp) (fun i x u hx hu => by
    rw [← h1, List.getElem?_map, Array.getElem?_toList] at hx
    rw [Array.getElem?_map] at hu
    obtain ⟨y, hy, rfl⟩ := Option.map_eq_some_iff.1 hx
    rw [hy] at hu
    obtain rfl := Option.some.inj hu
    exact hr.oev y) (fun i x u hx hu => by
    rw [← h2, List.getElem?_map, Array.getElem?_toList] at hx
    rw [Array.getElem?_map] at hu
    obtain ⟨y, hy, rfl⟩ := Option.map_eq_some_iff.1 hx
    rw [hy] at hu
    obtain rfl := Option.some.inj hu
    exact hr.oev y)⟩

/-- A byte of a text. -/
theorem op_index {x y : Operand} {t : TypeId} {l : List UInt8} {k : IntKind} {m : Int} {b : UInt8} (hu : P.underlying t = some .string) (hx : oev tm x = sb l) (hy : oev tm y = .int k m) (h0 : 0 ≤ m) (hb : l[m.toNat]? = some b) : OpP P (.index t x y) tm h (.int .u8 b.toNat) := fun c n nx ρ S a w hr =>
  ⟨.int .u8 b.toNat, fun o ho => by
    have hi : m.toNat < l.length := (List.getElem?_eq_some_iff.1 hb).1
    have hg : (ByteArray.mk l.toArray)[m.toNat]? = some b := by
      have : m.toNat < (ByteArray.mk l.toArray).size := by simpa [ByteArray.size] using hi
      rw [getElem?_pos (ByteArray.mk l.toArray) m.toNat this]
      rw [List.getElem?_eq_getElem hi] at hb
      rw [← hb]
      rfl
    unfold execOp; rw [ho]; simp [ev_str hr hx, ev_int hr hy, Instr.index, asIntOf, run_underlying hu, h0, hg], .int⟩

end
end Go.Proofs.Ytloddmbbfkejcaa.Abs
