/-
  Appends over abstract states. They hold of any program.
-/
import Derived.Test.YtloddmbbfkejcaaAbsJ
namespace Go.Proofs.Ytloddmbbfkejcaa.Abs

section
variable {P : Program} {tm : List (Nat × AV)} {h : Heap} {nx : Nat}

/-- What is appended. -/
def SrcOK (P : Program) (tm : List (Nat × AV)) (h : Heap) (nx : Nat) (y : Operand) (sz : Nat) (ys : List AV) : Prop :=
  (∀ z ∈ ys, z.cells.length = sz) ∧ ∀ (c : Ctx) (n : Nat) (ρ : Rho) (S : Nat → Prop) (a : Act) (w : World), Rep c n ⟨tm, h, nx⟩ ρ S a w → ∃ news : List Value, (Builtin.lenOf (a.eval y)).run P w = .ok ys.length w ∧
    (Builtin.firstCells sz ys.length (a.eval y)).run P w = .ok news.toArray w ∧ (Builtin.firstCells sz ys.length (a.eval y)).run P w.drew = .ok news.toArray w.drew ∧
    news.length = ys.length * sz ∧ (∀ u ∈ news, u.oneCell' = true) ∧ ∀ (j : Nat) (x : AV) (u : Value), (flat ys)[j]? = some x → news[j]? = some u → VR S w ρ x u

theorem SrcA.ok {y : Operand} {x : AV} {sz : Nat} {ys : List AV} (hs : SrcA h x sz ys) (hy : oev tm y = x) (hz : ∀ z ∈ ys, z.cells.length = sz) : SrcOK P tm h nx y sz ys := ⟨hz, fun c n ρ S a w hr => by
  obtain ⟨A, cp, news, h1, h2, h3, h4, h5, h6, h7⟩ := hs.read hr (ev_vr hr hy)
  refine ⟨news, by rw [h1]; rfl, ?_, ?_, h3, h6, h7⟩
  · rw [h1]
    cases ys with
    | nil =>
      have : news = [] := List.eq_nil_of_length_eq_zero (by simpa using h3)
      subst this
      cases A <;> simp [Builtin.firstCells, loadCells, loadCellsFrom]
    | cons z zs =>
      obtain ⟨blk, off, rfl, hc⟩ := h5 (by simp)
      exact run_firstCells_some w sz _ _ _ _ news h3 (fun j v hj => by rw [Addr.add_lit]; exact hc j v hj)
  · rw [h1]
    cases ys with
    | nil =>
      have : news = [] := List.eq_nil_of_length_eq_zero (by simpa using h3)
      subst this
      cases A <;> simp [Builtin.firstCells, loadCells, loadCellsFrom]
    | cons z zs =>
      obtain ⟨blk, off, rfl, hc⟩ := h5 (by simp)
      exact run_firstCells_some w.drew sz _ _ _ _ news h3 (fun j v hj => by rw [Addr.add_lit]; exact hc j v hj)⟩

/-- Bytes, as a row. -/
abbrev bl (l : List UInt8) : List AV := l.map fun b => .int .u8 b.toNat

theorem flat_bl (l : List UInt8) : flat (bl l) = bl l := by
  unfold flat bl
  induction l with
  | nil => rfl
  | cons b l ih => rw [List.map_cons, List.flatMap_cons, ih]; rfl

theorem SrcStr.ok {y : Operand} {l : List UInt8} (hy : oev tm y = sb l) : SrcOK P tm h nx y 1 (bl l) := ⟨fun z hz => by
    obtain ⟨b, _, rfl⟩ := List.mem_map.1 hz
    rfl, fun c n ρ S a w hr => by
  have e := ev_str hr hy
  have hext : (ByteArray.mk l.toArray).extract 0 l.length = ⟨l.toArray⟩ := by
    apply ByteArray.ext
    rw [ByteArray.data_extract]
    simp
  refine ⟨l.map (fun b => Value.int .u8 b.toNat), ?_, ?_, ?_, by simp, fun u hu => ?_, fun j x u hx hu => ?_⟩
  · rw [e, List.length_map]; show Result.ok l.toArray.size w = _; rw [List.size_toArray]
  · rw [e]; simp only [Builtin.firstCells, List.length_map, hext]; simp
  · rw [e]; simp only [Builtin.firstCells, List.length_map, hext]; simp
  · obtain ⟨b, _, rfl⟩ := List.mem_map.1 hu; rfl
  · rw [flat_bl, List.getElem?_map] at hx
    rw [List.getElem?_map] at hu
    obtain ⟨b, hb, rfl⟩ := Option.map_eq_some_iff.1 hx
    rw [hb] at hu
    obtain rfl := Option.some.inj hu
    exact .int⟩

theorem size_zeroCells' (z : Array Value) (n : Nat) : (Builtin.zeroCells z n).size = n * z.size := size_zeroCells z n

theorem zeroCells_one {z : Array Value} {n : Nat} (hz : ∀ (i : Nat) (u : Value), z[i]? = some u → u.oneCell' = true) {j : Nat} {u : Value} (hu : (Builtin.zeroCells z n)[j]? = some u) : u.oneCell' = true := by
  have hj : j < n * z.size := by
    have := (Array.getElem?_eq_some_iff.1 hu).1
    rwa [size_zeroCells] at this
  have hs : 0 < z.size := by
    rcases Nat.eq_zero_or_pos z.size with h | h
    · rw [h] at hj; omega
    · exact h
  have hm : j % z.size < z.size := Nat.mod_lt _ hs
  simp only [Builtin.zeroCells, Array.getElem?_map, Array.getElem?_range, hj, if_true, Option.map_some, Option.some.injEq] at hu
  rw [getElem!_pos z (j % z.size) hm] at hu
  exact hz (j % z.size) u (by rw [← hu]; simp [hm])

/-- A row of one's own that is appended to (b: its block; none: there is none so far). -/
theorem app_gen {t tx e : TypeId} {dx : TypeDesc} {z : Value} {bytes : Nat} {x y : Operand} {T : AV} {len sz : Nat} {xs ys : List AV} {h2 : Heap} (ht : P.underlying t = some (.slice e)) (htx : P.underlying tx = some dx) (hdx : (∃ e', dx = .slice e') ∨ dx = .string)
    (hi : (P.info? e).map (fun i => (i.zero, i.size, i.bytes)) = some (some z, sz, bytes)) (hzs : z.cells.size = sz) (hz1 : ∀ (i : Nat) (u : Value), z.cells[i]? = some u → u.oneCell' = true)
    (hx : oev tm x = T) (hT : (T = .nils ∧ xs = [] ∧ len = 0 ∧ ∀ k X, hget h2 k = some X → hget h k = some X) ∨ ∃ b, T = .own b 0 len ∧ hget h b = some (.cells sz xs) ∧ len ≤ xs.length ∧ ∀ k X, hget h2 k = some X → k ≠ b ∧ hget h k = some X)
    (hy : SrcOK P tm h nx y sz ys) (hb1 : (len + ys.length) * bytes ≤ 140737488355328) (hb2 : len + ys.length ≤ 9223372036854775807) :
    OpOK P (.call { callee := .builtin .append, args := #[x, y], argTypes := #[t, tx] }) ⟨tm, h, nx⟩ (.own nx 0 (len + ys.length)) ((nx, .cells sz (xs.take len ++ ys)) :: h2) (nx + 1) := OpOK.of fun c n ρ S a w hr => by
  obtain ⟨i, e1, e2⟩ := Option.map_eq_some_iff.1 hi
  obtain ⟨e3, e4, e5⟩ : i.zero = some z ∧ i.size = sz ∧ i.bytes = bytes := by
    have := e2; simp only [Prod.mk.injEq] at this; exact this
  obtain ⟨hsz, hyy⟩ := hy
  obtain ⟨news, n1, n2, n3, n4, n5, n6⟩ := hyy c n ρ S a w hr
  have hv := ev_vr hr hx
  have hh2 : ∀ k X, hget h2 k = some X → hget h k = some X := by
    rcases hT with ⟨_, _, _, h⟩ | ⟨b, _, _, _, h⟩
    · exact h
    · exact fun k X hk => (h k X hk).2
  -- the target in the world
  obtain ⟨A, cp, olds, t1, t2, t3, t4, t5, t6, t7, t8⟩ : ∃ (A : Option Addr) (cp : Nat) (olds : List Value), a.eval x = .slice A len cp ∧ len ≤ cp ∧ olds.length = len * sz ∧ (∀ u ∈ olds, u.oneCell' = true) ∧
      (Builtin.firstCells sz len (.slice A len cp)).run P w.drew = .ok olds.toArray w.drew ∧ (∀ (j : Nat) (y : AV) (u : Value), (flat (xs.take len))[j]? = some y → olds[j]? = some u → VR S w ρ y u) ∧ (∀ q ∈ xs.take len, q.cells.length = sz) ∧
      ((len = 0 ∧ cp = 0) ∨ ∃ b r cur el, hget h b = some (.cells sz xs) ∧ (∀ k X, hget h2 k = some X → k ≠ b ∧ hget h k = some X) ∧ ρ b = some r ∧ A = some ⟨r.blk, 0, none⟩ ∧ w.heap[r.blk]? = some (.cells cur el (0, 0)) ∧ cur.size = r.cap * sz ∧ cp ≤ r.cap ∧ r.cap ≤ maxLen ∧ r.sz = sz ∧ olds = cur.toList.take (len * sz) ∧ (∀ (i : Nat) (u : Value), cur[i]? = some u → u.oneCell' = true)) := by
    rcases hT with ⟨rfl, rfl, rfl, _⟩ | ⟨b, rfl, hb, hl, hd⟩
    · generalize a.eval x = v at hv
      cases hv with
      | nils => exact ⟨_, _, [], rfl, Nat.le_refl _, by simp, fun u hu => by simp at hu, by simp [Builtin.firstCells], fun j y u hy hu => by simp at hu, fun q hq => by simp at hq, .inl ⟨rfl, rfl⟩⟩
    · generalize a.eval x = v at hv
      cases hv with
      | @own0 _ _ _ A =>
        exact ⟨A, 0, [], rfl, Nat.le_refl _, by simp, fun u hu => by simp at hu, by cases A <;> simp [Builtin.firstCells, loadCells, loadCellsFrom], fun j y u hy hu => by simp at hu, fun q hq => by simp at hq, .inl ⟨rfl, rfl⟩⟩
      | @own _ _ _ _ r cp q1 q2 q3 =>
        rw [Nat.zero_add] at q3
        obtain ⟨g1, g2, k1, k2, k3, k4, cur, el, k5, k6, k7, k8⟩ := blk_of hr hb q1
        have hm : len * sz ≤ cur.size := by rw [k6]; exact Nat.mul_le_mul_right _ (by omega)
        have hol : (cur.toList.take (len * sz)).length = len * sz := by rw [List.length_take, Array.length_toList]; omega
        refine ⟨some ⟨r.blk, 0, none⟩, cp, cur.toList.take (len * sz), by rw [Nat.zero_mul], q2, hol, fun u hu => ?_, ?_, fun j y u hy hu => ?_, fun q hq => k2 q (List.mem_of_mem_take hq), .inr ⟨b, r, cur, el, hb, hd, q1, rfl, k5, k6, q3, k4, k1, rfl, k7⟩⟩
        · obtain ⟨j, hj⟩ := List.getElem?_of_mem (List.mem_of_mem_take hu)
          rw [Array.getElem?_toList] at hj
          exact k7 j u hj
        · refine run_firstCells_some w.drew sz len ⟨r.blk, 0, none⟩ len cp _ hol (fun j v hj => ?_)
          have hjl : j < len * sz := by
            rcases Nat.lt_or_ge j (len * sz) with hh | hh
            · exact hh
            · rw [List.getElem?_take, if_neg (by omega)] at hj; cases hj
          rw [List.getElem?_take_of_lt hjl, Array.getElem?_toList] at hj
          rw [Addr.add_lit, Nat.zero_add]
          show w.cell? ⟨r.blk, j, none⟩ = some v
          rw [cell_of k5]
          exact hj
        · have hjl : j < len * sz := by
            rcases Nat.lt_or_ge j (len * sz) with hh | hh
            · exact hh
            · rw [List.getElem?_take, if_neg (by omega)] at hu; cases hu
          rw [List.getElem?_take_of_lt hjl, Array.getElem?_toList] at hu
          have := flat_get k2 0 len j (by omega) hjl
          rw [List.drop_zero, Nat.zero_mul, Nat.zero_add] at this
          rw [this] at hy
          exact k8 j y u hy hu
  have hxl : (xs.take len).length = len := by
    rcases hT with ⟨_, rfl, rfl, _⟩ | ⟨b, _, _, hl, _⟩
    · rfl
    · rw [List.length_take]; omega
  have hall : ∀ q ∈ xs.take len ++ ys, q.cells.length = sz := fun q hq => (List.mem_append.1 hq).elim (t7 q) (hsz q)
  have hlen : (xs.take len ++ ys).length = len + ys.length := by rw [List.length_append, hxl]
  have hfl : (flat (xs.take len)).length = len * sz := by rw [flat_len t7, hxl]
  -- what lies in the new row
  have hcells : ∀ (cs : Array Value), (∀ j, j < (len + ys.length) * sz → cs[j]? = (olds ++ news)[j]?) → ∀ (j : Nat) (q : AV) (u : Value), (flat (xs.take len ++ ys))[j]? = some q → cs[j]? = some u → VR S w ρ q u := by
    intro cs hcs j q u hq hu
    have hj : j < (len + ys.length) * sz := by
      have := (List.getElem?_eq_some_iff.1 hq).1
      rwa [flat_len hall, hlen] at this
    rw [hcs j hj] at hu
    rw [flat_append] at hq
    rcases Nat.lt_or_ge j (len * sz) with h1 | h1
    · rw [List.getElem?_append_left (by omega)] at hq hu
      exact t6 j q u hq hu
    · rw [List.getElem?_append_right (by omega)] at hq hu
      rw [hfl] at hq
      rw [t3] at hu
      exact n6 _ q u hq hu
  have hexec : ∀ (v : Value) (w' : World), (Builtin.append_ #[t, tx] 0 #[.slice A len cp, a.eval y]).run P w = .ok v w' → ∀ o : Oper, o.op = .call { callee := .builtin .append, args := #[x, y], argTypes := #[t, tx] } → (execOp a.eval o).run P w = .ok (.value v) w' := by
    intro v w' hrun o ho
    unfold execOp; rw [ho]
    simp only [resolve, invoke, builtin, Sem.run_bind, Sem.run_pure, Result.andThen_ok, List.map_toArray, List.map_cons, List.map_nil, t1]
    have : Builtin.append_ #[t, tx] o.type #[.slice A len cp, a.eval y] = Builtin.append_ #[t, tx] 0 #[.slice A len cp, a.eval y] := rfl
    rw [this, hrun]
    rfl
  rw [← e4] at n2 n3 t5
  -- a new block is made
  have grow : cp < len + ys.length → ∃ nxt u w' ρ' S', (∀ o : Oper, o.op = .call { callee := .builtin .append, args := #[x, y], argTypes := #[t, tx] } → (execOp a.eval o).run P w = .ok nxt w') ∧ (nxt = .value u ∨ nxt = .skip ∧ u = undef) ∧
      Rep c n ⟨tm, (nx, .cells sz (xs.take len ++ ys)) :: h2, nx + 1⟩ ρ' S' a w' ∧ VR S' w' ρ' (.own nx 0 (len + ys.length)) u ∧ (∀ b r, ρ b = some r → ρ' b = some r) ∧ ∀ b, S b → S' b ∧ w'.heap[b]? = w.heap[b]? := by
    intro hg
    have hge := grownCap_ge w (len + ys.length) cp e
    have hcm := grownCap_le_maxLen w (len + ys.length) cp e (by unfold maxLen; omega)
    have hrun := run_app_grow (ty := 0) ht htx hdx e1 e3 n1 t5 n3 hg (by omega) (growslice_fits hg (by rw [e5]; exact hb1))
    have hcs : (olds.toArray ++ news.toArray ++ Builtin.zeroCells z.cells (grownCap w (len + ys.length) cp e - (len + ys.length))).size = grownCap w (len + ys.length) cp e * sz := by
      simp only [Array.size_append, List.size_toArray, size_zeroCells, hzs, t3, n4, ← Nat.add_mul]
      congr 1
      omega
    have hgt : ∀ j, j < (len + ys.length) * sz → (olds.toArray ++ news.toArray ++ Builtin.zeroCells z.cells (grownCap w (len + ys.length) cp e - (len + ys.length)))[j]? = (olds ++ news)[j]? := by
      intro j hj
      rw [Array.getElem?_append_left (by simp only [Array.size_append, List.size_toArray, t3, n4, ← Nat.add_mul]; exact hj)]
      simp
    refine ⟨_, _, _, _, S, hexec _ _ hrun, .inl rfl, hr.newBlk (Same.drew w) _ e (grownCap w (len + ys.length) cp e) sz (xs.take len ++ ys) hall (by rw [hlen]; exact hge) hcm hcs (fun j u hu => ?_) (hcells _ hgt) hh2, .own_at0 (upd_self _ _ _) hge (Nat.le_refl _), upd_ext hr _, alloc_ext hr (Same.drew w) _⟩
    rcases Nat.lt_or_ge j ((len + ys.length) * sz) with h1 | h1
    · rw [hgt j h1] at hu
      exact (List.mem_append.1 (List.mem_of_getElem? hu)).elim (t4 u) (n5 u)
    · rw [Array.getElem?_append_right (by simp only [Array.size_append, List.size_toArray, t3, n4, ← Nat.add_mul]; exact h1)] at hu
      exact zeroCells_one hz1 hu
  by_cases hm : cp < len + ys.length
  · exact grow hm
  have hroom : len + ys.length ≤ cp := by omega
  rcases t8 with ⟨rfl, rfl⟩ | ⟨b, r, cur, el, hb, hd, hq, rfl, k5, k6, k3, k4, k1, holds, k7⟩
  · -- nothing was there and nothing comes
    have hye : ys.length = 0 := by omega
    have hys : ys = [] := List.eq_nil_of_length_eq_zero hye
    subst hys
    have hnn : news = [] := List.eq_nil_of_length_eq_zero (by simpa using n4)
    subst hnn
    have hrun := run_app_none (ty := 0) ht htx hdx e1 (A := A) (sLen := 0) (sCap := 0) n1 n2 (Nat.le_refl _)
    refine ⟨_, _, w, ρ, S, hexec _ _ hrun, .inl rfl, ?_, .own0, fun _ _ h => h, fun _ h => ⟨h, rfl⟩⟩
    simp only [List.take_zero, List.append_nil]
    refine ⟨hr.size, hr.defers, hr.tmps, ⟨fun k X hk => ?_, fun k k' X X' q q' hk hk' hq hq' hne => ?_, hr.sim.lt⟩, ?_, fun k hk => hr.fresh k (by have : nx + 1 ≤ k := hk; show nx ≤ k; omega), Nat.le_succ_of_le hr.le, fun k X hk => ?_⟩
    · simp only [hget] at hk
      by_cases e : nx = k
      · subst e
        rw [if_pos rfl] at hk
        obtain rfl := Option.some.inj hk
        exact .inr ⟨hr.fresh nx (Nat.le_refl _), sz, rfl⟩
      · rw [if_neg e] at hk
        exact hr.sim.blk k X (hh2 k X hk)
    · simp only [hget] at hk hk'
      by_cases e : nx = k
      · subst e; rw [hr.fresh nx (Nat.le_refl _)] at hq; cases hq
      · by_cases e' : nx = k'
        · subst e'; rw [hr.fresh nx (Nat.le_refl _)] at hq'; cases hq'
        · rw [if_neg e] at hk
          rw [if_neg e'] at hk'
          exact hr.sim.inj k k' X X' q q' (hh2 k X hk) (hh2 k' X' hk') hq hq' hne
    · refine ⟨hr.post.os, hr.post.tape, hr.post.output, hr.post.size, hr.post.keep, hr.post.sIn, hr.post.sNew, fun k X q hk hq => ?_, hr.post.ids⟩
      simp only [hget] at hk
      by_cases e : nx = k
      · subst e; rw [hr.fresh nx (Nat.le_refl _)] at hq; cases hq
      · rw [if_neg e] at hk; exact hr.post.own k X q (hh2 k X hk) hq
    · simp only [hget] at hk
      by_cases e : nx = k
      · show k < nx + 1; omega
      · rw [if_neg e] at hk
        exact Nat.lt_succ_of_lt (hr.dom k X (hh2 k X hk))
  · -- it fits where it is
    obtain ⟨g1, g2, _⟩ := blk_of hr hb hq
    have hcap : (len + ys.length) * sz ≤ cur.size := by rw [k6]; exact Nat.mul_le_mul_right _ (by omega)
    have hsum : (len + ys.length) * sz = len * sz + ys.length * sz := Nat.add_mul _ _ _
    have hrun := run_app_room (ty := 0) ht htx hdx e1 k5 n1 n2 n5 hroom (by rw [e4, n4]; omega)
    rw [e4] at hrun
    generalize hcs : (cur.toList.take (len * sz) ++ news ++ cur.toList.drop (len * sz + news.length)).toArray = cs at hrun
    have hcsz : cs.size = r.cap * sz := by
      rw [← hcs, List.size_toArray, List.length_append, List.length_append, List.length_take, List.length_drop, Array.length_toList, n4]; omega
    have hgt : ∀ j, j < (len + ys.length) * sz → cs[j]? = (olds ++ news)[j]? := by
      intro j hj
      rw [← hcs, List.getElem?_toArray, List.getElem?_append_left (by rw [List.length_append, List.length_take, Array.length_toList, n4]; omega), ← holds]
    have hgone : ∀ (j : Nat) (u : Value), cs[j]? = some u → u.oneCell' = true := by
      intro j u hu
      rw [← hcs, List.getElem?_toArray] at hu
      rcases List.mem_append.1 (List.mem_of_getElem? hu) with h1 | h1
      · rcases List.mem_append.1 h1 with h2 | h2
        · exact t4 u (holds ▸ h2)
        · exact n5 u h2
      · obtain ⟨i, hi⟩ := List.getElem?_of_mem (List.mem_of_mem_drop h1)
        rw [Array.getElem?_toList] at hi
        exact k7 i u hi
    have hS : ∀ k, S k → S k ∧ (w.setRow r.blk cs).heap[k]? = w.heap[k]? := fun k hk => ⟨hk, setRow_other w r.blk k cs (fun e => g1 (e ▸ hk))⟩
    have hwsz : (w.setRow r.blk cs).heap.size = w.heap.size := by simp [World.setRow]
    have hup : ∀ k q, ρ k = some q → upd ρ nx r k = some q := fun k q hk => by
      unfold upd
      rw [if_neg (by have := hr.known hk; exact Nat.ne_of_lt this)]
      exact hk
    refine ⟨_, .slice (some ⟨r.blk, 0, none⟩) (len + ys.length) cp, w.setRow r.blk cs, upd ρ nx r, S, hexec _ _ hrun, .inl rfl, ?_, .own_at0 (upd_self _ _ _) hroom k3, hup, hS⟩
    refine hr.turn nx r (.cells sz (xs.take len ++ ys)) (upd ρ nx r) ((nx, .cells sz (xs.take len ++ ys)) :: h2) (nx + 1) rfl rfl rfl (Nat.le_of_eq hwsz.symm) (fun k _ hk => setRow_other w r.blk k cs hk) (fun k hk => by unfold upd; rw [if_neg (Nat.ne_of_lt hk)]) (Nat.le_succ _) (upd_self _ _ _)
      ⟨k1, hall, by rw [hlen]; omega, k4, cs, el, setRow_heap w r.blk cur cs el _ k5, hcsz, hgone, fun j q u hq hu => (hcells cs hgt j q u hq hu).mono hS hup⟩ (by rw [hwsz]; exact g2) g1 (hr.post.own b _ r hb hq) ?_ ?_ ?_ (Nat.lt_succ_self _)
    · intro k X hk
      simp only [hget] at hk
      by_cases e : nx = k
      · subst e; rw [if_pos rfl] at hk; exact .inl ⟨rfl, (Option.some.inj hk).symm⟩
      · rw [if_neg e] at hk; exact .inr ⟨fun e' => e e'.symm, hh2 k X hk⟩
    · intro k X q hk hX hq'
      simp only [hget] at hX
      rw [if_neg (fun e => hk e.symm)] at hX
      exact hr.sim.inj k b X _ q r (hd k X hX).2 hb hq' hq (hd k X hX).1
    · intro k hk
      unfold upd
      rw [if_neg (by omega)]
      exact hr.fresh k (by show nx ≤ k; omega)

end
end Go.Proofs.Ytloddmbbfkejcaa.Abs
