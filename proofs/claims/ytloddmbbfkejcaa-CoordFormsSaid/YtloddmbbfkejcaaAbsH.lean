/-
  Operations that make memory or write to it. They hold of any program.
-/
import Derived.Test.YtloddmbbfkejcaaAbsG
namespace Go.Proofs.Ytloddmbbfkejcaa.Abs

/-- One cell. -/
def AV.one : AV → Bool
  | .top => false
  | .agg _ => false
  | .tup _ => false
  | _ => true

theorem VR.one {S : Nat → Prop} {w : World} {ρ : Rho} {x : AV} {v : Value} (h : VR S w ρ x v) (h1 : x.one = true) : v.oneCell' = true := by
  cases h <;> first | rfl | cases h1

/-- What has known cells. -/
def AV.known : AV → Bool
  | .top => false
  | .tup _ => false
  | .agg xs => xs.all AV.one
  | _ => true

theorem VR.cells {S : Nat → Prop} {w : World} {ρ : Rho} {x : AV} {v : Value} (h : VR S w ρ x v) (hk : x.known = true) :
    v.cells.size = x.cells.length ∧ (∀ (i : Nat) (u : Value), v.cells[i]? = some u → u.oneCell' = true) ∧ ∀ (i : Nat) (y : AV) (u : Value), x.cells[i]? = some y → v.cells[i]? = some u → VR S w ρ y u := by
  have one : ∀ {x : AV} {v : Value}, VR S w ρ x v → x.one = true → x.cells = [x] → v.cells = #[v] →
      v.cells.size = x.cells.length ∧ (∀ (i : Nat) (u : Value), v.cells[i]? = some u → u.oneCell' = true) ∧ ∀ (i : Nat) (y : AV) (u : Value), x.cells[i]? = some y → v.cells[i]? = some u → VR S w ρ y u := by
    intro x v h h1 e1 e2
    rw [e1, e2]
    refine ⟨rfl, fun i u hu => ?_, fun i y u hy hu => ?_⟩
    · cases i with
      | zero => simp at hu; subst hu; exact h.one h1
      | succ i => simp at hu
    · cases i with
      | zero => simp at hy hu; subst hy; subst hu; exact h
      | succ i => simp at hu
  cases h with
  | top => cases hk
  | tup => cases hk
  | @agg _ xs vs h1 h2 =>
    refine ⟨h1.symm, fun i u hu => ?_, fun i y u hy hu => h2 i y u hy hu⟩
    have hi : i < vs.size := (Array.getElem?_eq_some_iff.1 hu).1
    obtain ⟨y, hy⟩ : ∃ y, xs[i]? = some y := ⟨_, List.getElem?_eq_getElem (by rw [h1]; exact hi)⟩
    exact (h2 i _ u hy hu).one (all_get (by simpa [AV.known] using hk) hy)
  | bool => exact one .bool rfl rfl rfl
  | int => exact one .int rfl rfl rfl
  | str => exact one .str rfl rfl rfl
  | nilp => exact one .nilp rfl rfl rfl
  | ptr h => exact one (.ptr h) rfl rfl rfl
  | lp vs h hl hc hv => exact one (.lp vs h hl hc hv) rfl rfl rfl
  | nils => exact one .nils rfl rfl rfl
  | sl0 => exact one .sl0 rfl rfl rfl
  | sl vs a b c d e f => exact one (.sl vs a b c d e f) rfl rfl rfl
  | own a b c => exact one (.own a b c) rfl rfl rfl
  | own0 => exact one .own0 rfl rfl rfl
  | nilm => exact one .nilm rfl rfl rfl
  | omap h => exact one (.omap h) rfl rfl rfl
  | fn us vs a b c d => exact one (.fn us vs a b c d) rfl rfl rfl
  | nilf => exact one .nilf rfl rfl rfl
  | ifc h => exact one (.ifc h) rfl rfl rfl
  | nili => exact one .nili rfl rfl rfl

def upd (ρ : Rho) (b : Nat) (r : R) : Rho := fun k => if k = b then some r else ρ k

/-- A new block. -/
theorem Rep.newBlk {c : Ctx} {n : Nat} {tm : List (Nat × AV)} {h h2 : Heap} {nx : Nat} {ρ : Rho} {S : Nat → Prop} {a : Act} {w w1 : World} (hr : Rep c n ⟨tm, h, nx⟩ ρ S a w) (hw : Same w w1) (cs : Array Value) (e : TypeId) (cap sz : Nat) (xs : List AV)
    (hsz : ∀ x ∈ xs, x.cells.length = sz) (hlen : xs.length ≤ cap) (hcap : cap ≤ maxLen) (hcs : cs.size = cap * sz) (h1 : ∀ (i : Nat) (u : Value), cs[i]? = some u → u.oneCell' = true)
    (hv : ∀ (i : Nat) (x : AV) (u : Value), (flat xs)[i]? = some x → cs[i]? = some u → VR S w ρ x u) (hh2 : ∀ k X, hget h2 k = some X → hget h k = some X) :
    Rep c n ⟨tm, (nx, .cells sz xs) :: h2, nx + 1⟩ (upd ρ nx ⟨w1.heap.size, cap, sz⟩) S a (w1.alloc (.cells cs e)) := by
  have hr1 := hr.same hw
  have hS : ∀ k, S k → S k ∧ (w1.alloc (.cells cs e)).heap[k]? = w.heap[k]? := fun k hk =>
    ⟨hk, (heap_alloc_old w1 (.cells cs e) (hr1.sim.lt k hk)).trans (hw.block k (hr.sim.lt k hk))⟩
  have hsame := Same.alloc w1 (.cells cs e)
  have hup : ∀ k q, ρ k = some q → upd ρ nx ⟨w1.heap.size, cap, sz⟩ k = some q := fun k q hk => by
    unfold upd
    rw [if_neg (by have := hr.known hk; exact Nat.ne_of_lt this)]
    exact hk
  refine hr1.turn nx ⟨w1.heap.size, cap, sz⟩ (.cells sz xs) _ _ _ hsame.os hsame.tape hsame.output hsame.size (fun k hk _ => hsame.block k hk) (fun k hk => by unfold upd; rw [if_neg (Nat.ne_of_lt hk)]) (Nat.le_succ _) (by unfold upd; rw [if_pos rfl]) ?_ (by simp) (fun hs => Nat.lt_irrefl _ (hr1.sim.lt _ hs)) (.inr hr1.post.size) ?_ ?_ ?_ (Nat.lt_succ_self _)
  · exact ⟨rfl, hsz, hlen, hcap, cs, e, heap_alloc_new w1 _, hcs, h1, fun i x u hx hu => (hv i x u hx hu).mono hS hup⟩
  · intro k X hk
    by_cases e : nx = k
    · subst e; simp only [hget, if_true] at hk; exact .inl ⟨rfl, (Option.some.inj hk).symm⟩
    · simp only [hget, e, if_false] at hk; exact .inr ⟨fun e' => e e'.symm, hh2 k X hk⟩
  · intro k X q hk hX hq
    have hX' : hget h k = some X := by
      simp only [hget] at hX
      rw [if_neg (fun e => hk e.symm)] at hX
      exact hh2 k X hX
    have := (blk_of hr1 (b := k) hX' hq).2.1
    exact Nat.ne_of_lt this
  · intro k hk
    unfold upd
    rw [if_neg (by omega)]
    exact hr.fresh k (by show nx ≤ k; omega)

theorem upd_ext {c : Ctx} {n : Nat} {tm : List (Nat × AV)} {h : Heap} {nx : Nat} {ρ : Rho} {S : Nat → Prop} {a : Act} {w : World} (hr : Rep c n ⟨tm, h, nx⟩ ρ S a w) (r : R) : ∀ b q, ρ b = some q → upd ρ nx r b = some q := fun k q hk => by
  unfold upd
  rw [if_neg (by have := hr.known hk; exact Nat.ne_of_lt this)]
  exact hk
theorem alloc_ext {c : Ctx} {n : Nat} {st : St} {ρ : Rho} {S : Nat → Prop} {a : Act} {w w1 : World} (hr : Rep c n st ρ S a w) (hw : Same w w1) (o : Obj) : ∀ b, S b → S b ∧ (w1.alloc o).heap[b]? = w.heap[b]? := fun b hb =>
  ⟨hb, (heap_alloc_old w1 o (Nat.lt_of_lt_of_le (hr.sim.lt b hb) hw.size)).trans (hw.block b (hr.sim.lt b hb))⟩
theorem upd_self (ρ : Rho) (b : Nat) (r : R) : upd ρ b r b = some r := by unfold upd; rw [if_pos rfl]

theorem VR.ptr0 {S : Nat → Prop} {w : World} {ρ : Rho} {b : Nat} {r : R} (h : ρ b = some r) : VR S w ρ (.ptr b 0 0) (.pointer (some ⟨r.blk, 0, none⟩)) := by
  have := VR.ptr (S := S) (w := w) (i := 0) (o := 0) h
  rwa [Nat.zero_mul] at this

theorem VR.own_at0 {S : Nat → Prop} {w : World} {ρ : Rho} {b len c : Nat} {r : R} (h : ρ b = some r) (h1 : len ≤ c) (h2 : c ≤ r.cap) : VR S w ρ (.own b 0 len) (.slice (some ⟨r.blk, 0, none⟩) len c) := by
  have := VR.own (S := S) (w := w) (st := 0) h h1 (by rw [Nat.zero_add]; exact h2)
  rwa [Nat.zero_mul] at this

section
variable {P : Program} {tm : List (Nat × AV)} {h : Heap} {nx : Nat}

/-- A variable with a value. -/
theorem op_box {t : TypeId} {x : Operand} {v : AV} (hx : oev tm x = v) (hk : v.known = true) : OpOK P (.box t x) ⟨tm, h, nx⟩ (.ptr nx 0 0) ((nx, .cells v.cells.length [v]) :: h) (nx + 1) := OpOK.of fun c n ρ S a w hr => by
  have hv := ev_vr hr hx
  obtain ⟨h1, h2, h3⟩ := hv.cells hk
  refine ⟨_, .pointer (some ⟨w.heap.size, 0, none⟩), w.alloc (.cells (a.eval x).cells t), _, S, fun o ho => ?_, .inl rfl, hr.newBlk (Same.refl w) (a.eval x).cells t 1 v.cells.length [v] (by simp) (by simp) (by unfold maxLen; omega) (by rw [h1, Nat.one_mul]) h2 (fun i y u hy hu => h3 i y u (by simpa [flat] using hy) hu) (fun _ _ h => h), .ptr0 (upd_self _ _ _), upd_ext hr _, alloc_ext hr (Same.refl w) _⟩
  unfold execOp; rw [ho]
  simp [Instr.box, newVar, newRow]

/-- A zero, as a value without addresses. -/
theorem op_alloc {t : TypeId} {z : Value} {v : AV} (hz : (P.info? t).map (·.zero) = some (some z)) (hv : ofConst z = v) (hk : v.known = true) : OpOK P (.alloc t) ⟨tm, h, nx⟩ (.ptr nx 0 0) ((nx, .cells v.cells.length [v]) :: h) (nx + 1) := OpOK.of fun c n ρ S a w hr => by
  have hvr : VR S w ρ v z := hv ▸ ofConst_VR S w ρ z
  obtain ⟨h1, h2, h3⟩ := hvr.cells hk
  obtain ⟨i, e1, e2⟩ := Option.map_eq_some_iff.1 hz
  refine ⟨_, .pointer (some ⟨w.heap.size, 0, none⟩), w.alloc (.cells z.cells t), _, S, fun o ho => ?_, .inl rfl, hr.newBlk (Same.refl w) z.cells t 1 v.cells.length [v] (by simp) (by simp) (by unfold maxLen; omega) (by rw [h1, Nat.one_mul]) h2 (fun i y u hy hu => h3 i y u (by simpa [flat] using hy) hu) (fun _ _ h => h), .ptr0 (upd_self _ _ _), upd_ext hr _, alloc_ext hr (Same.refl w) _⟩
  unfold execOp; rw [ho]
  simp [Instr.alloc, zeroValue, typeInfo, e1, e2, newVar, newRow]

/-- Cells of a made row. -/
theorem madeCells_get {z : Array Value} {n sz : Nat} (hz : z.size = sz) (hs : 0 < sz) {i : Nat} (hi : i < n * sz) : (madeCells z (n * sz))[i]? = z[i % sz]? := by
  have hm : i % sz < z.size := by rw [hz]; exact Nat.mod_lt _ hs
  simp only [madeCells, Array.getElem?_map, Array.getElem?_range, hi, if_true, Option.map_some]
  rw [hz, getElem!_pos z (i % sz) hm]
  simp [hm]

theorem flat_replicate {v : AV} {sz n i : Nat} (hv : v.cells.length = sz) (hs : 0 < sz) (hi : i < n * sz) : (flat (List.replicate n v))[i]? = v.cells[i % sz]? := by
  have hq : i / sz < n := by rw [Nat.div_lt_iff_lt_mul hs]; exact hi
  have hm := Nat.mod_lt i hs
  have := flat_get (sz := sz) (xs := List.replicate n v) (fun x hx => by rw [(List.mem_replicate.1 hx).2]; exact hv) (i / sz) 1 (i % sz) (by simp; omega) (by omega)
  have e : i / sz * sz + i % sz = i := by rw [Nat.mul_comm]; exact Nat.div_add_mod i sz
  rw [e] at this
  rw [← this]
  have : ((List.replicate n v).drop (i / sz)).take 1 = [v] := by
    rw [List.drop_replicate, List.take_replicate, Nat.min_eq_left (by omega)]
    rfl
  rw [this]
  simp [flat]

/-- make([]T, n). -/
theorem op_make {t e : TypeId} {x y : Operand} {z : Value} {v : AV} {sz bytes : Nat} {k k' : IntKind} {m : Int} (hu : P.underlying t = some (.slice e)) (hi : (P.info? e).map (fun i => (i.zero, i.size, i.bytes)) = some (some z, sz, bytes)) (hv : ofConst z = v) (hk : v.known = true) (hvs : v.cells.length = sz) (hs : 0 < sz)
    (hx : oev tm x = .int k m) (hy : oev tm y = .int k' m) (h0 : 0 ≤ m) (hb : (bytes : Int) * m ≤ 281474976710656) (hm : m ≤ 9223372036854775807) : OpOK P (.makeSlice t x y) ⟨tm, h, nx⟩ (.own nx 0 m.toNat) ((nx, .cells sz (List.replicate m.toNat v)) :: h) (nx + 1) := OpOK.of fun c n ρ S a w hr => by
  obtain ⟨i, e1, e2⟩ := Option.map_eq_some_iff.1 hi
  obtain ⟨e3, e4, e5⟩ : i.zero = some z ∧ i.size = sz ∧ i.bytes = bytes := by
    have := e2; simp only [Prod.mk.injEq] at this; exact this
  have hvr : VR S w ρ v z := hv ▸ ofConst_VR S w ρ z
  obtain ⟨h1, h2, h3⟩ := hvr.cells hk
  have hzs : z.cells.size = sz := h1.trans hvs
  have hrun := run_make (P := P) w t e i z hu e1 e3 k k' m m h0 (Int.le_refl _) (by rw [e5]; exact hb) hm
  rw [e4] at hrun
  refine ⟨_, .slice (some ⟨w.heap.size, 0, none⟩) m.toNat m.toNat, _, _, S, fun o ho => ?_, .inl rfl, hr.newBlk (Same.refl w) (madeCells z.cells (m.toNat * sz)) e m.toNat sz (List.replicate m.toNat v) (fun x hx => by rw [(List.mem_replicate.1 hx).2]; exact hvs) (by simp) (by unfold maxLen; omega) (size_madeCells _ _) (fun j u hu => ?_) (fun j y u hy hu => ?_) (fun _ _ h => h), .own_at0 (upd_self _ _ _) (Nat.le_refl _) (Nat.le_refl _), upd_ext hr _, alloc_ext hr (Same.refl w) _⟩
  · unfold execOp; rw [ho]; simp only [ev_int hr hx, ev_int hr hy, Sem.run_bind, hrun, Result.andThen_ok, Sem.run_pure]
  · have hj : j < m.toNat * sz := by
      have := (Array.getElem?_eq_some_iff.1 hu).1
      rwa [size_madeCells] at this
    rw [madeCells_get hzs hs hj] at hu
    exact h2 _ u hu
  · have hj : j < m.toNat * sz := by
      have := (Array.getElem?_eq_some_iff.1 hu).1
      rwa [size_madeCells] at this
    rw [madeCells_get hzs hs hj] at hu
    rw [flat_replicate hvs hs hj] at hy
    exact h3 _ y u hy hu

end
end Go.Proofs.Ytloddmbbfkejcaa.Abs
