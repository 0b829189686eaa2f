/-
  More operations: capacities of nil, parts of nil; blocks of which less is known. It holds of any program.
-/
import Derived.Test.YtloddmbbfkejcaaAbsR
namespace Go.Proofs.Ytloddmbbfkejcaa.Abs

/-- Of a block less is known: its first elements. -/
theorem Rep.trim {c : Ctx} {n : Nat} {tm : List (Nat × AV)} {h : Heap} {nx : Nat} {ρ : Rho} {S : Nat → Prop} {a : Act} {w : World} (hr : Rep c n ⟨tm, h, nx⟩ ρ S a w) {b sz : Nat} {xs : List AV} (k : Nat) (hb : hget h b = some (.cells sz xs)) :
    Rep c n ⟨tm, hset h b (.cells sz (xs.take k)), nx⟩ ρ S a w := by
  have hh : ∀ j B, hget (hset h b (.cells sz (xs.take k))) j = some B → ∃ X, hget h j = some X ∧ (B = X ∨ (j = b ∧ X = .cells sz xs ∧ B = .cells sz (xs.take k))) := fun j B hj => by
    rw [hget_set] at hj
    split at hj
    · rename_i e; subst e; exact ⟨_, hb, .inr ⟨rfl, rfl, (Option.some.inj hj).symm⟩⟩
    · exact ⟨B, hj, .inl rfl⟩
  refine ⟨hr.size, hr.defers, hr.tmps, ⟨fun j B hj => ?_, fun j j' B B' r r' hj hj' => ?_, hr.sim.lt⟩, ⟨hr.post.os, hr.post.tape, hr.post.output, hr.post.size, hr.post.keep, hr.post.sIn, hr.post.sNew, fun j B r hj hq => ?_, hr.post.ids⟩, hr.fresh, hr.le, fun j B hj => ?_⟩
  · obtain ⟨X, h1, h2⟩ := hh j B hj
    rcases h2 with rfl | ⟨rfl, rfl, rfl⟩
    · exact hr.sim.blk j B h1
    · rcases hr.sim.blk j _ h1 with ⟨r, e1, e2, e3, e4⟩ | ⟨e1, sz', e2⟩
      · refine .inl ⟨r, e1, ?_, e3, e4⟩
        obtain ⟨k1, k2, k3, k4, cur, e, k5, k6, k7, k8⟩ := e2
        refine ⟨k1, fun x hx => k2 x (List.mem_of_mem_take hx), Nat.le_trans (by rw [List.length_take]; exact Nat.min_le_right _ _) k3, k4, cur, e, k5, k6, k7, fun i x u hx hu => k8 i x u ?_ hu⟩
        have e9 : flat xs = flat (xs.take k) ++ flat (xs.drop k) := by rw [← flat_append, List.take_append_drop]
        rw [e9, List.getElem?_append_left (List.getElem?_eq_some_iff.1 hx).1]
        exact hx
      · simp only [Blk.cells.injEq] at e2
        obtain ⟨_, rfl⟩ := e2
        exact .inr ⟨e1, sz, by simp⟩
  · obtain ⟨X, h1, _⟩ := hh j B hj
    obtain ⟨X', h1', _⟩ := hh j' B' hj'
    exact hr.sim.inj j j' X X' r r' h1 h1'
  · obtain ⟨X, h1, _⟩ := hh j B hj
    exact hr.post.own j X r h1 hq
  · obtain ⟨X, h1, _⟩ := hh j B hj
    exact hr.dom j X h1

theorem aw_trim {P : Program} {c : Ctx} {n : Nat} {Q : Exit → St → Prop} {code : Code} {tm : List (Nat × AV)} {h : Heap} {nx : Nat} (b k : Nat) {sz : Nat} {xs : List AV} (hb : hget h b = some (.cells sz xs)) (hk : AW P c n code Q ⟨tm, hset h b (.cells sz (xs.take k)), nx⟩) : AW P c n code Q ⟨tm, h, nx⟩ :=
  fun ρ S a w hr => hk ρ S a w (hr.trim k hb)

section
variable {P : Program} {tm : List (Nat × AV)} {h : Heap}

theorem op_capN {x : Operand} {t el : TypeId} (hu : P.underlying t = some (.slice el)) (hx : oev tm x = .nils) : OpP P (.call { callee := .builtin .cap, args := #[x], argTypes := #[t] }) tm h (.int .i64 0) := fun c n nx ρ S a w hr =>
  ⟨.int .i64 0, fun o ho => by
    have hv := ev_vr hr hx
    generalize he : a.eval x = v at hv
    cases hv with
    | nils => unfold execOp; rw [ho]; simp [resolve, invoke, builtin, he, Builtin.cap_, run_underlying hu, goInt], .int⟩

/-- Nothing of nil is nil. -/
theorem op_sliceN {t e : TypeId} {x hi : Operand} {sz : Nat} {k : IntKind} (hu : P.underlying t = some (.slice e)) (hz : (P.info? e).map (·.size) = some sz) (hx : oev tm x = .nils) (h1 : oev tm hi = .int k 0) : OpP P (.slice t x none (some hi) none) tm h .nils := fun c n nx ρ S a w hr =>
  ⟨.slice none 0 0, fun o ho => by
    have hv := ev_vr hr hx
    have hi' := ev_int hr h1
    generalize he : a.eval x = v at hv
    cases hv with
    | nils => unfold execOp; rw [ho]; simp [Instr.sliceAt, Instr.slice, run_underlying hu, Instr.sliceBounds, Instr.sliceBound, asIntOf, run_sizeOf hz, he, hi'], .nils⟩

theorem run_app_zeros {t ti ty e : TypeId} {k kx : IntKind} {i : TypeInfo} {z : Value} (ht : P.underlying t = some (.slice e)) (hti : P.underlying ti = some (.int k)) (hi : P.info? e = some i) (hz : i.zero = some z) {w : World} {m : Nat} (hm : 0 < m) (hs : 0 < i.size)
    (hb : m * i.bytes ≤ 140737488355328) (h63 : m ≤ 140737488355328) :
    (Builtin.append_ #[t, ti] ty #[.slice none 0 0, .int kx (m : Int)]).run P w =
      .ok (.slice (some ⟨w.heap.size, 0, none⟩) m (grownCap w m 0 e)) (w.drew.alloc (.cells (Builtin.zeroCells z.cells m ++ Builtin.zeroCells z.cells (grownCap w m 0 e - m)) e)) := by
  have hw : IntKind.i64.wrap (m : Int) = m := Abs.wrap_i64 (by omega) (by omega)
  have h1 : ¬ (m = 0) := by omega
  have h2 : ¬ ((m : Int) < 0) := by omega
  have h3 : ¬ (281474976710656 < (m : Int) * (i.bytes : Int)) := by
    have : ((m * i.bytes : Nat) : Int) ≤ 140737488355328 := by omega
    rw [Int.natCast_mul] at this
    omega
  have h4 : ¬ (m * i.size = 0) := by
    have := Nat.mul_pos hm hs
    omega
  have h5 : ¬ (9223372036854775807 < (m : Int)) := by omega
  have h6 : Builtin.nextslicecap m 0 = m := by unfold Builtin.nextslicecap; rw [if_pos (by omega)]
  have h7 : ¬ (281474976710656 < m * i.bytes) := by omega
  simp [Builtin.append_, run_underlying ht, run_underlying hti, sizeOf, typeInfo, zeroValue, hi, hz, hw, h1, h2, h3, h4, h5, h6, h7, Question.forced, newRow, grownCap, Builtin.firstCells, asInt, asIntOf]

/-- 'append(nil, make([]T, m)...)': a row of one's own, of whose elements nothing is told. -/
theorem op_appZ {tm : List (Nat × AV)} {h : Heap} {nx : Nat} {t ti e : TypeId} {k kx : IntKind} {z : Value} {sz bytes : Nat} {x y : Operand} {m : Nat} (ht : P.underlying t = some (.slice e)) (hti : P.underlying ti = some (.int k))
    (hi : (P.info? e).map (fun i => (i.zero, i.size, i.bytes)) = some (some z, sz, bytes)) (hzs : z.cells.size = sz ∧ ∀ (i : Nat) (u : Value), z.cells[i]? = some u → u.oneCell' = true) (hs : 0 < sz) (hx : oev tm x = .nils) (hy : oev tm y = .int kx (m : Int)) (hm : 0 < m)
    (hb : m * bytes ≤ 140737488355328) (h63 : m ≤ 140737488355328) : OpOK P (.call { callee := .builtin .append, args := #[x, y], argTypes := #[t, ti] }) ⟨tm, h, nx⟩ (.own nx 0 m) ((nx, .cells sz []) :: h) (nx + 1) := OpOK.of fun c n ρ S a w hr => by
  obtain ⟨i, e1, e2⟩ := Option.map_eq_some_iff.1 hi
  obtain ⟨e3, e4, e5⟩ : i.zero = some z ∧ i.size = sz ∧ i.bytes = bytes := by
    have := e2; simp only [Prod.mk.injEq] at this; exact this
  have hxv : a.eval x = .slice none 0 0 := by
    have hv := ev_vr hr hx
    generalize a.eval x = v at hv
    cases hv; rfl
  have hyv := ev_int hr hy
  have hrun := run_app_zeros (P := P) (ty := 0) (kx := kx) (m := m) (w := w) ht hti e1 e3 hm (by rw [e4]; exact hs) (by rw [e5]; exact hb) h63
  have hge : m ≤ grownCap w m 0 e := grownCap_ge _ _ _ _
  refine ⟨_, .slice (some ⟨w.heap.size, 0, none⟩) m (grownCap w m 0 e), _, _, S, fun o ho => ?_, .inl rfl,
    hr.newBlk (Same.drew w) (Builtin.zeroCells z.cells m ++ Builtin.zeroCells z.cells (grownCap w m 0 e - m)) e (grownCap w m 0 e) sz [] (fun x hx => by cases hx) (Nat.zero_le _) (grownCap_le_maxLen _ _ _ _ (by unfold maxLen; omega)) (by
      rw [Array.size_append, size_zeroCells, size_zeroCells, hzs.1, ← Nat.add_mul]; congr 1; omega) (fun j u hu => ?_) (fun j x u hx => by simp [flat] at hx) (fun _ _ h => h), .own_at0 (upd_self _ _ _) hge (Nat.le_refl _), upd_ext hr _, alloc_ext hr (Same.drew w) _⟩
  · unfold execOp; rw [ho]
    simp only [resolve, invoke, builtin, Sem.run_bind, Sem.run_pure, Result.andThen_ok, List.map_toArray, List.map_cons, List.map_nil, hxv, hyv]
    have : Builtin.append_ #[t, ti] o.type #[Value.slice none 0 0, Value.int kx (m : Int)] = Builtin.append_ #[t, ti] 0 #[Value.slice none 0 0, Value.int kx (m : Int)] := rfl
    rw [this, hrun]
    rfl
  · rw [Array.getElem?_append] at hu
    split at hu
    · exact zeroCells_one hzs.2 hu
    · exact zeroCells_one hzs.2 hu

theorem op_appZi {tm : List (Nat × AV)} {h : Heap} {nx : Nat} {t ti e : TypeId} {k kx : IntKind} {z : Value} {sz bytes : Nat} {x y : Operand} {q : Int} (ht : P.underlying t = some (.slice e)) (hti : P.underlying ti = some (.int k))
    (hi : (P.info? e).map (fun i => (i.zero, i.size, i.bytes)) = some (some z, sz, bytes)) (hzs : z.cells.size = sz ∧ ∀ (i : Nat) (u : Value), z.cells[i]? = some u → u.oneCell' = true) (hs : 0 < sz) (hx : oev tm x = .nils) (hy : oev tm y = .int kx q) (hm : 0 < q)
    (hb : q * bytes ≤ 140737488355328) (h63 : q ≤ 140737488355328) : OpOK P (.call { callee := .builtin .append, args := #[x, y], argTypes := #[t, ti] }) ⟨tm, h, nx⟩ (.own nx 0 q.toNat) ((nx, .cells sz []) :: h) (nx + 1) := by
  obtain ⟨m, rfl⟩ : ∃ m : Nat, q = m := ⟨q.toNat, by omega⟩
  rw [Int.toNat_natCast]
  exact op_appZ ht hti hi hzs hs hx hy (by omega) (by
    have : ((m * bytes : Nat) : Int) ≤ 140737488355328 := by rw [Int.natCast_mul]; exact hb
    omega) (by omega)

end

end Go.Proofs.Ytloddmbbfkejcaa.Abs
