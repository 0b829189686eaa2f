/- Texts of this session, merged: AbsFG, AIns, AInsnote, ABitsA, AbsFI, ABitsB, ABitsC, ABitsD, ABitsE, AbsFJ, ABitsF, ABitsG. -/
import Derived.Test.YtpggknkhldecaaaBBitsAll3
import Derived.Laws.Append
import Derived.Test.YtpggknkhldecaaaBBitsAll1
import Derived.Test.YtpggknkhldecaaaBBitsAll0
import Derived.Test.YtpggknkhldecaaaBBitsAll2
import Derived.OpenShut
set_option linter.unusedVariables false
set_option linter.unusedSimpArgs false
section
/-
  Cuts beyond a row's length, copy, slices.overlaps. It holds of any program.
-/
namespace Go.Proofs.Ytpggknkhldecaaa.Abs

section
variable {P : Program} {tm : List (Nat × AV)} {h : Heap} {nx : Nat}

/-- A part of a row of one's own, up to what it has room for. -/
theorem op_sliceC {t e : TypeId} {x : Operand} {lo hi : Option Operand} {sz b st len : Nat} {xs : List AV} {l m : Int} (hu : P.underlying t = some (.slice e)) (hz : (P.info? e).map (·.size) = some sz) (hx : oev tm x = .own b st len) (hb : hget h b = some (.cells sz xs)) (hl : Bd tm lo 0 l) (hm : Bd tm hi len m) (h0 : 0 ≤ l) (h1 : l ≤ m)
    (hpos : 0 < len) (h2 : (st : Int) + m ≤ xs.length) : OpP P (.slice t x lo hi none) tm h (.own b (st + l.toNat) (m.toNat - l.toNat)) := fun c n nx ρ S a w hr => by
  have hv := ev_vr hr hx
  generalize he : a.eval x = v at hv
  have key : ∀ (A : Option Addr) (cp : Nat), a.eval x = .slice A len cp → m ≤ cp → ∀ o : Oper, o.op = .slice t x lo hi none → (execOp a.eval o).run P w = .ok (.value (.slice (if cp = l.toNat then A else A.map (·.add (l.toNat * sz))) (m.toNat - l.toNat) (cp - l.toNat))) w := by
    intro A cp hA hcp o ho
    have hb := run_bounds (P := P) (isSlice := true) (len := len) (cap := cp) (bd_eval hr hl) (bd_eval hr hm) h0 h1 hcp w
    unfold execOp; rw [ho]
    simp only [Instr.sliceAt, Sem.run_bind, run_underlying hu, Result.andThen_ok, Instr.slice, hA, hb, run_sizeOf hz, Sem.run_pure, Option.map_none]
  cases hv with
  | own0 => omega
  | @own _ _ _ _ r cp q1 q2 q3 =>
    obtain ⟨_, _, k1, k2, k3, _⟩ := blk_of hr hb q1
    refine ⟨_, key _ _ he (by omega), ?_⟩
    by_cases h3 : cp = l.toNat
    · have e0 : m.toNat - l.toNat = 0 := by omega
      rw [if_pos h3, e0, h3, Nat.sub_self]
      exact .own0
    · rw [if_neg h3, Option.map_some, Addr.add_lit]
      have := VR.own (S := S) (w := w) (ρ := ρ) (b := b) (st := st + l.toNat) (len := m.toNat - l.toNat) (c := cp - l.toNat) q1 (by omega) (by omega)
      rw [Nat.add_mul, k1] at this
      rw [k1]
      exact this

/-- copy into a row of one's own. -/
theorem op_copy {t t' e : TypeId} {x y : Operand} {sz b st len : Nat} {xs ys : List AV} {T : AV} (hu : P.underlying t = some (.slice e)) (hz : (P.info? e).map (·.size) = some sz) (hx : oev tm x = .own b st len) (hpos : 0 < len) (hb : hget h b = some (.cells sz xs)) (hlen : st + len ≤ xs.length)
    (hy : oev tm y = T) (hsrc : SrcA h T sz ys) : OpOK P (.call { callee := .builtin .copy, args := #[x, y], argTypes := #[t, t'] }) ⟨tm, h, nx⟩ (.int .i64 ((min ys.length len : Nat) : Int)) (hset h b (.cells sz (xs.take st ++ ys.take (min ys.length len) ++ xs.drop (st + min ys.length len)))) nx := OpOK.of fun c n ρ S a w hr => by
  have hv := ev_vr hr hx
  obtain ⟨A, cp', news, s1, s2, s3, s4, s5, s6, s7⟩ := hsrc.read hr (ev_vr hr hy)
  generalize hev : a.eval x = u at hv
  cases hv with
  | own0 => omega
  | @own _ _ _ _ r cp q1 q2 q3 =>
  obtain ⟨g1, g2, k1, k2, k3, k4, cur, el, k5, k6, k7, k8⟩ := blk_of hr hb q1
  generalize hm : min ys.length len = m
  have hm1 : m ≤ ys.length := by omega
  have hm2 : m ≤ len := by omega
  have hmin : Nat.min ys.length len = m := hm
  have hnl : (news.take (m * sz)).length = m * sz := by
    have := Nat.mul_le_mul_right sz hm1
    rw [List.length_take, s3]; omega
  have hf : (Builtin.firstCells sz m (a.eval y)).run P w = .ok (news.take (m * sz)).toArray w := by
    rw [s1]
    by_cases he : ys = []
    · subst he
      have h0 : m = 0 := by simp at hm1; omega
      subst h0
      have hn0 : news = [] := List.eq_nil_of_length_eq_zero (by rw [s3]; simp)
      subst hn0
      cases A <;> simp [Builtin.firstCells, loadCells, loadCellsFrom]
    · obtain ⟨blk, off, rfl, hc⟩ := s5 he
      refine run_firstCells_some (w := w) sz m ⟨blk, off, none⟩ ys.length cp' _ hnl fun j v hj => ?_
      rw [Addr.add_lit]
      have hj2 : j < m * sz := by
        have := (List.getElem?_eq_some_iff.1 hj).1
        omega
      rw [List.getElem?_take_of_lt hj2] at hj
      exact hc j v hj
  have hfit : (st + m) * sz ≤ cur.size := by rw [k6]; exact Nat.mul_le_mul_right _ (by omega)
  rw [Nat.add_mul] at hfit
  have hst := run_storeCells_at P r.blk (st * sz) el (news.take (m * sz)) 0 cur w k5 (by rw [hnl]; omega) (fun u hu => s6 u (List.mem_of_mem_take hu))
  rw [Nat.add_zero, hnl] at hst
  generalize hcs : (cur.toList.take (st * sz) ++ news.take (m * sz) ++ cur.toList.drop (st * sz + m * sz)).toArray = cs at hst
  have hget : ∀ j, cs[j]? = if st * sz ≤ j ∧ j < st * sz + m * sz then news[j - st * sz]? else cur[j]? := by
    intro j
    rw [← hcs, List.getElem?_toArray, List.append_assoc]
    rcases Nat.lt_or_ge j (st * sz) with h1 | h1
    · rw [List.getElem?_append_left (by rw [List.length_take, Array.length_toList]; omega), List.getElem?_take_of_lt h1, Array.getElem?_toList, if_neg (by omega)]
    · rw [List.getElem?_append_right (by rw [List.length_take, Array.length_toList]; omega), List.length_take, Array.length_toList, Nat.min_eq_left (by omega)]
      rcases Nat.lt_or_ge j (st * sz + m * sz) with h2 | h2
      · rw [List.getElem?_append_left (by rw [hnl]; omega), List.getElem?_take_of_lt (by omega), if_pos ⟨h1, h2⟩]
      · rw [List.getElem?_append_right (by rw [hnl]; omega), hnl, List.getElem?_drop, Array.getElem?_toList, if_neg (by omega), show st * sz + m * sz + (j - st * sz - m * sz) = j from by omega]
  have hsz' : ∀ z ∈ xs.take st ++ ys.take m ++ xs.drop (st + m), z.cells.length = sz := fun z hz => by
    rcases List.mem_append.1 hz with h | h
    · rcases List.mem_append.1 h with h | h
      · exact k2 z (List.mem_of_mem_take h)
      · exact s4 z (List.mem_of_mem_take h)
    · exact k2 z (List.mem_of_mem_drop h)
  have hl1 : (xs.take st).length = st := by rw [List.length_take]; omega
  have hl2 : (ys.take m).length = m := by rw [List.length_take]; omega
  have hll : (xs.take st ++ ys.take m ++ xs.drop (st + m)).length = xs.length := by
    rw [List.length_append, List.length_append, hl1, hl2, List.length_drop]; omega
  have hrep := hr.write hb q1 (cs := cs) k5 sz (xs.take st ++ ys.take m ++ xs.drop (st + m)) k1 hsz' (by rw [hll]; exact k3) k4 (by
      rw [← hcs, List.size_toArray, List.length_append, List.length_append, List.length_take, List.length_drop, Array.length_toList, hnl, ← k6]; omega) (fun j u hu => by
      rw [hget j] at hu
      split at hu
      · exact s6 u (List.mem_of_getElem? hu)
      · exact k7 j u hu) (fun j z u hz hu => by
      obtain ⟨hs, y', p1, p2, p3⟩ := flat_split hsz' hz
      have hmod := Nat.mod_lt j hs
      have hdm : ∀ a, j / sz < a → j < a * sz := fun a ha => (Nat.div_lt_iff_lt_mul hs).1 ha
      have hdm2 : ∀ a, a ≤ j / sz → a * sz ≤ j := fun a ha => (Nat.le_div_iff_mul_le hs).1 ha
      rw [hget j] at hu
      rcases Nat.lt_or_ge (j / sz) st with h1 | h1
      · have := hdm st h1
        rw [if_neg (by omega)] at hu
        rw [List.append_assoc, List.getElem?_append_left (by omega), List.getElem?_take_of_lt h1] at p1
        refine k8 j z u ?_ hu
        rw [p3, flat_at k2 p1 hmod]
        exact p2
      · have ha := hdm2 st h1
        rcases Nat.lt_or_ge (j / sz) (st + m) with h2 | h2
        · have hb' := hdm (st + m) h2
          rw [Nat.add_mul] at hb'
          rw [if_pos (by omega)] at hu
          rw [List.append_assoc, List.getElem?_append_right (by omega), hl1, List.getElem?_append_left (by omega), List.getElem?_take_of_lt (by omega)] at p1
          refine s7 (j - st * sz) z u ?_ hu
          rw [show j - st * sz = (j / sz - st) * sz + j % sz from by have := Nat.mul_le_mul_right sz h1; rw [Nat.sub_mul]; omega, flat_at s4 p1 hmod]
          exact p2
        · have hb' := hdm2 (st + m) h2
          rw [Nat.add_mul] at hb'
          rw [if_neg (by omega)] at hu
          rw [List.getElem?_append_right (by rw [List.length_append, hl1, hl2]; omega), List.length_append, hl1, hl2, List.getElem?_drop, show st + m + (j / sz - (st + m)) = j / sz from by omega] at p1
          refine k8 j z u ?_ hu
          rw [p3, flat_at k2 p1 hmod]
          exact p2)
  refine ⟨_, .int .i64 (m : Int), w.setRow r.blk cs, ρ, S, fun oo hoo => ?_, .inl rfl, hrep, .int, fun _ _ h => h, fun k hk => ⟨hk, setRow_other w r.blk k cs (fun e => g1 (e ▸ hk))⟩⟩
  have hlo : (Builtin.lenOf (a.eval y)).run P w = .ok ys.length w := by rw [s1]; rfl
  unfold execOp; rw [hoo]
  rw [k1] at hev
  simp only [resolve, invoke, builtin, Sem.run_bind, Sem.run_pure, Result.andThen_ok, List.map_toArray, List.map_cons, List.map_nil, hev, Builtin.copy_, run_underlying hu, hlo, hmin, run_sizeOf hz, hf]
  simp [run_underlying hu, hlo, hmin, run_sizeOf hz, hf, hst, goInt]


/-- Two rows of one's own do not overlap. -/
theorem op_overlaps {f : FuncId} {fn : Func} {ts : Array TypeId} {tS tR e : TypeId} {x y : Operand} {sz b st len b' st' len' : Nat} {xs ys : List AV} (hf : P.funcs[f]? = some fn) (hname : (fn.name == "runtime.NumGoroutine") = false) (hbody : fn.body.isNone = true) (hn : Extern.findNext fn = none)
    (hext : Extern.find fn = some (Extern.SlicesOverlaps.overlaps #[tS, tS] #[tR])) (hu : P.underlying tS = some (.slice e)) (hz : (P.info? e).map (·.size) = some sz) (hs : 0 < sz) (hx : oev tm x = .own b st len) (hl : 0 < len) (hb : hget h b = some (.cells sz xs)) (hxl : 0 < xs.length)
    (hy : oev tm y = .own b' st' len') (hl' : 0 < len') (hb' : hget h b' = some (.cells sz ys)) (hyl : 0 < ys.length) (hne : b ≠ b') : OpP P (.call { callee := .value (.func f), args := #[x, y], argTypes := ts }) tm h (.bool false) := fun c n nx ρ S a w hr => by
  have hv := ev_vr hr hx
  have hv' := ev_vr hr hy
  generalize he : a.eval x = u at hv
  generalize he' : a.eval y = u' at hv'
  cases hv with
  | own0 => omega
  | @own _ _ _ _ r cp q1 q2 q3 =>
  cases hv' with
  | own0 => omega
  | @own _ _ _ _ r' cp' q1' q2' q3' =>
  obtain ⟨g1, g2, k1, k2, k3, k4, cur, el, k5, k6, k7, k8⟩ := blk_of hr hb q1
  obtain ⟨g1', g2', k1', k2', k3', k4', cur', el', k5', k6', k7', k8'⟩ := blk_of hr hb' q1'
  have hnb : r.blk ≠ r'.blk := hr.sim.inj b b' _ _ r r' hb hb' q1 q1' hne
  have hsz : 0 < cur'.size := by rw [k6']; exact Nat.mul_pos (by omega) hs
  have hrun : (callFunc f #[.slice (some ⟨r.blk, st * r.sz, none⟩) len cp, .slice (some ⟨r'.blk, st' * r'.sz, none⟩) len' cp']).run P w = .ok (.value (.bool false)) w := by
    rw [run_callFunc_extern hf hname hbody hn hext,
      Lib.run_overlaps_apart w tS tR e hu sz (fun w => run_sizeOf hz w) ⟨r.blk, st * r.sz, none⟩ ⟨r'.blk, st' * r'.sz, none⟩ len cp len' cp' hnb el el' cur.size cur'.size (by simp [World.shape?, k5]) (by simp [World.shape?, k5']) (by omega) (by simp [World.frozen?, k5]) (by simp [World.frozen?, k5])]
    rfl
  refine ⟨_, fun o ho => ?_, .bool⟩
  unfold execOp; rw [ho]
  have hfv : a.eval (.func f) = .func (.func f) #[] #[] := rfl
  simp [resolve, Deferred.ofValue, invoke, hfv, he, he', hrun]

end
end Go.Proofs.Ytpggknkhldecaaa.Abs
end
section
/-
  slices.Insert of one element: what stands in rows of any elements. It holds of any program.
-/
namespace Go.Proofs.Ytpggknkhldecaaa.Abs

/-- A state, said otherwise. -/
theorem aw_re {P : Program} {c : Ctx} {n : Nat} {Q : Exit → St → Prop} {code : Code} {tm tm' : List (Nat × AV)} {h h' : Heap} {nx : Nat} (e1 : tm = tm') (e2 : h = h') (k : AW P c n code Q ⟨tm', h', nx⟩) : AW P c n code Q ⟨tm, h, nx⟩ := by subst e1; subst e2; exact k

theorem ra_re {P : Program} {c : Ctx} {n : Nat} {fn : Func} {al : Bool} {Q : AV → Heap → Nat → Prop} {tm tm' : List (Nat × AV)} {h h' : Heap} {nx : Nat} (e1 : tm = tm') (e2 : h = h') (k : RetA P c n fn al Q .ret ⟨tm', h', nx⟩) : RetA P c n fn al Q .ret ⟨tm, h, nx⟩ := by subst e1; subst e2; exact k
theorem aw_top {P : Program} {c : Ctx} {n : Nat} {Q : Exit → St → Prop} {code : Code} {d : Nat} {v v' : AV} {tm : List (Nat × AV)} {h h' : Heap} {nx : Nat} (e1 : v = v') (e2 : h = h') (k : AW P c n code Q ⟨(d, v') :: tm, h', nx⟩) : AW P c n code Q ⟨(d, v) :: tm, h, nx⟩ := by subst e1; subst e2; exact k
theorem own_len {b st st' k k' : Nat} (e0 : st = st') (e : k = k') : AV.own b st k = .own b st' k' := by rw [e0, e]

/-- A row with one more in it. -/
def insA (l : List AV) (i : Nat) (x : AV) : List AV := l.take i ++ x :: l.drop i

theorem ins_room (l : List AV) (x : AV) (i : Nat) (hi : i < l.length) (J R : List AV) (hJ : J = l ++ R) :
    ((J.take (i + 1) ++ l.drop i ++ J.drop (l.length + 1)).take i ++ [x] ++ (J.take (i + 1) ++ l.drop i ++ J.drop (l.length + 1)).drop (i + 1)).take (l.length + 1) = insA l i x := by
  have hk : (J.take (i + 1)).length = i + 1 := by rw [hJ, List.length_take, List.length_append]; omega
  have e1 : (J.take (i + 1) ++ l.drop i ++ J.drop (l.length + 1)).take i = l.take i := by
    rw [List.append_assoc, List.take_append_of_le_length (by omega), List.take_take, Nat.min_eq_left (by omega), hJ, List.take_append_of_le_length (by omega)]
  have e2 : (J.take (i + 1) ++ l.drop i ++ J.drop (l.length + 1)).drop (i + 1) = l.drop i ++ J.drop (l.length + 1) := by
    rw [List.append_assoc, List.drop_left' hk]
  rw [e1, e2, ← List.append_assoc, insA, show x :: l.drop i = [x] ++ l.drop i from rfl, ← List.append_assoc]
  refine List.take_left' ?_
  rw [List.length_append, List.length_append, List.length_take, List.length_drop]
  show min i l.length + 1 + (l.length - i) = _
  omega

theorem ins_grow (l : List AV) (x z : AV) (i : Nat) (hi : i < l.length) :
    (((l.take i ++ List.replicate (l.length + 1 - i) z)).take i ++ [x] ++ ((l.take i ++ List.replicate (l.length + 1 - i) z)).drop (i + 1)).take (i + 1) ++ l.drop i
      ++ (((l.take i ++ List.replicate (l.length + 1 - i) z)).take i ++ [x] ++ ((l.take i ++ List.replicate (l.length + 1 - i) z)).drop (i + 1)).drop (l.length + 1) = insA l i x := by
  have h1 : (l.take i).length = i := by rw [List.length_take]; omega
  have h2 : ((l.take i ++ List.replicate (l.length + 1 - i) z)).take i = l.take i := List.take_left' h1
  have h3 : (l.take i ++ [x]).length = i + 1 := by rw [List.length_append, h1]; rfl
  rw [h2, List.take_left' h3, List.drop_of_length_le (i := l.length + 1), List.append_nil, insA, show x :: l.drop i = [x] ++ l.drop i from rfl, List.append_assoc]
  rw [List.length_append, h3, List.length_drop, List.length_append, h1, List.length_replicate]; omega

theorem cp_eq {xs ys ys' : List AV} {a a' k k' : Nat} (ha : a = a') (hy : ys.take k = ys') (hk : a + k = k') : xs.take a ++ ys.take k ++ xs.drop (a + k) = xs.take a' ++ ys' ++ xs.drop k' := by rw [ha, hy, ← hk, ha]
theorem hget_top {k : Nat} {B : Blk} {h : Heap} : hget ((k, B) :: h) k = some B := by simp [hget]
theorem hset3 {k s : Nat} {a b c : Blk} {X Y : List AV} (e : X = Y) : hset [(k, a), (0, b), (1, c)] k (.cells s X) = [(k, .cells s Y), (0, b), (1, c)] := by rw [e]; simp [hset]
theorem hset2 {s : Nat} {a c : Blk} {X Y : List AV} (e : X = Y) : hset [(0, a), (1, c)] 0 (.cells s X) = [(0, .cells s Y), (1, c)] := by rw [e]; rfl

end Go.Proofs.Ytpggknkhldecaaa.Abs
end
section
/-
  slices.Insert of one element into a row of one's own: by capacity it is put into the room behind, or a new row is made.
-/
-- hget_top: new rows have names that are not told
namespace Go.Proofs.Ytpggknkhldecaaa.Abs

theorem ov_next_note : Extern.findNext Try.f99 = none := by decide
set_option maxRecDepth 100000 in
theorem ov_find_note : Extern.find Try.f99 = some (Extern.SlicesOverlaps.overlaps #[44, 44] #[4]) := by rfl
theorem ov_name_note : (Try.f99.name == "runtime.NumGoroutine") = false := by decide

set_option maxHeartbeats 4000000 in
theorem insert_note (l : List AV) (x : AV) (i K : Nat) (al : Bool) (hi : i ≤ l.length) (hl : l.length ≤ 100000) (hzl : ∀ z ∈ l, z.cells.length = 3) (hzx : ∀ z ∈ [x], z.cells.length = 3)
    (hren : ∀ σ : Nat → Nat, (∀ b, b < K + 2 → σ b = b) → (insA l i x).map (AV.ren σ) = insA l i x) (hal : al = true ∨ (Blk.cells 3 (insA l i x)).nosl = true) :
    AC Try.prog 77 [.own 0 0 l.length, .int .i64 i, .own 1 0 1] [(0, .cells 3 l), (1, .cells 3 [x])] (K + 2) al
      (fun v h nx => v = .own (K + 2) 0 (l.length + 1) ∧ h = [(K + 2, .cells 3 (insA l i x))] ∧ nx = K + 3) := by
  have hn1 : ([x] : List AV).length = 1 := rfl
  have hal' : al = true ∨ ((AV.own (K + 2) 0 (l.length + 1)).nosl = true ∧ ([(K + 2, Blk.cells 3 (insA l i x))] : Heap).all (fun p => p.2.nosl) = true) := hal.imp id fun h => ⟨rfl, by rw [List.all_cons, h]; rfl⟩
  have hsw : ∀ (j : Nat), (Blk.cells 3 (insA l i x)).ren (swp [] (K + 3) j) = .cells 3 (insA l i x) := fun j => by
    rw [Blk.ren, hren _ (fun b hb => by simp only [swp]; rw [if_pos (by omega)])]
  have hsw2 : ∀ (j : Nat), (Blk.cells 3 (insA l i x)).ren (swp [(K + 2, 0)] (K + 3) j) = .cells 3 (insA l i x) := fun j => by
    rw [Blk.ren, hren _ (fun b hb => by simp only [swp]; rw [if_neg (by omega), if_pos (by omega)])]
  by_cases h1 : i = l.length
  · skip
    refine ac_fn Try.func77 rfl rfl rfl rfl (fun w0 S0 r0 => ?_)
    refine aw_seq ?_
    refine aw_region ?_
    refine st_p (mva rfl) rfl ?_
    refine al_nil ?_
    refine nm ?_
    refine aw_seq ?_
    refine aw_region ?_
    refine st_p (mv rfl) rfl ?_
    refine st_p (mv rfl) rfl ?_
    first | refine st_p (op_sliceL Try.underlying44 z49 rfl (by exact ⟨_, rfl⟩) (by exact rfl) (by first | omega | (simp only [bl_len, List.length_map, List.length_append, List.length_take, List.length_drop]; omega)) (by first | omega | (simp only [bl_len, List.length_map, List.length_append, List.length_take, List.length_drop]; omega)) (by first | omega | (simp only [bl_len, List.length_map, List.length_append, List.length_take, List.length_drop]; omega))) rfl ?_ | refine st_p (op_slice Try.underlying44 z49 rfl rfl (by exact ⟨_, rfl⟩) (by exact rfl) (by first | omega | (simp only [bl_len, List.length_map, List.length_append, List.length_take, List.length_drop]; omega)) (by first | omega | (simp only [bl_len, List.length_map, List.length_append, List.length_take, List.length_drop]; omega)) (by first | omega | (simp only [bl_len, List.length_map, List.length_append, List.length_take, List.length_drop]; omega))) rfl ?_ | refine st_p (op_slice Try.underlying44 z49 rfl hget_top (by exact ⟨_, rfl⟩) (by exact rfl) (by first | omega | (simp only [bl_len, List.length_map, List.length_append, List.length_take, List.length_drop]; omega)) (by first | omega | (simp only [bl_len, List.length_map, List.length_append, List.length_take, List.length_drop]; omega)) (by first | omega | (simp only [bl_len, List.length_map, List.length_append, List.length_take, List.length_drop]; omega))) rfl ?_ | refine st_p (op_sliceC Try.underlying44 z49 rfl rfl (by exact ⟨_, rfl⟩) (by exact rfl) (by first | omega | (simp only [bl_len, List.length_map, List.length_append, List.length_take, List.length_drop]; omega)) (by first | omega | (simp only [bl_len, List.length_map, List.length_append, List.length_take, List.length_drop]; omega)) (by omega) (by first | omega | (simp only [bl_len, List.length_map, List.length_append, List.length_take, List.length_drop]; omega))) rfl ?_
    refine al_nil ?_
    refine nm ?_
    refine aw_seq ?_
    refine aw_region ?_
    refine st_p (mv rfl) rfl ?_
    first | refine st_p (op_len Try.underlying44 rfl) rfl ?_ | refine st_p (op_leno Try.underlying44 rfl) rfl ?_ | refine st_p (op_lenn Try.underlying44 rfl) rfl ?_
    refine st_p (mva rfl) rfl ?_
    refine al_nil ?_
    refine nm ?_
    refine aw_seq ?_
    refine aw_seq ?_
    refine aw_region ?_
    refine st_p (mv rfl) rfl ?_
    first | refine st_p (OpP.conv (op_eq rfl rfl) (yes (by first | assumption | omega))) rfl ?_ | refine st_p (OpP.conv (op_eq rfl rfl) (no (by first | assumption | omega))) rfl ?_ | refine st_p (op_eq rfl rfl) rfl ?_
    refine al_nil ?_
    refine nm ?_
    -- IF t16
    refine aw_no (rfl) ?_
    refine aw_skip ?_
    refine nm ?_
    refine aw_seq ?_
    refine aw_region ?_
    refine st_p (mv rfl) rfl ?_
    first | refine st_p (op_len Try.underlying44 rfl) rfl ?_ | refine st_p (op_leno Try.underlying44 rfl) rfl ?_ | refine st_p (op_lenn Try.underlying44 rfl) rfl ?_
    refine st_p (mva rfl) rfl ?_
    refine al_nil ?_
    refine nm ?_
    refine aw_seq ?_
    refine aw_seq ?_
    refine aw_region ?_
    refine st_p (mv rfl) rfl ?_
    refine st_p (mv rfl) rfl ?_
    first | refine st_p (OpP.conv (op_eq rfl rfl) (yes (by first | assumption | omega))) rfl ?_ | refine st_p (OpP.conv (op_eq rfl rfl) (no (by first | assumption | omega))) rfl ?_ | refine st_p (op_eq rfl rfl) rfl ?_
    refine al_nil ?_
    refine nm ?_
    -- IF t22
    refine aw_yes (rfl) ?_
    refine aw_seq ?_
    refine aw_region ?_
    refine st_p (mv rfl) rfl ?_
    refine st_p (mv rfl) rfl ?_
    first | refine st_o (op_app Try.underlying44 Try.underlying44 (.inl ⟨_, rfl⟩) i49 o49 rfl rfl rfl (by first | rfl | omega | (simp; done) | (simp; omega)) ((SrcA.whole rfl (by first | rfl | simp)).ok rfl (by first | assumption | intro z hz; simp only [List.mem_singleton, List.drop_zero, List.take_succ_cons, List.take_zero, List.mem_cons, List.not_mem_nil, or_false, List.mem_map] at hz; first | (subst hz; rfl) | (obtain ⟨_, _, rfl⟩ := hz; rfl) | (rcases hz with rfl | rfl <;> rfl))) (by first | omega | (simp; try omega)) rfl) rfl ?_ | refine st_o (op_appN Try.underlying44 Try.underlying44 (.inl ⟨_, rfl⟩) i49 o49 rfl ((SrcA.whole rfl (by first | rfl | simp)).ok rfl (by first | assumption | intro z hz; simp only [List.mem_singleton, List.drop_zero, List.take_succ_cons, List.take_zero, List.mem_cons, List.not_mem_nil, or_false, List.mem_map] at hz; first | (subst hz; rfl) | (obtain ⟨_, _, rfl⟩ := hz; rfl) | (rcases hz with rfl | rfl <;> rfl))) (by first | omega | (simp; try omega))) rfl ?_ | refine st_o (op_app Try.underlying44 Try.underlying44 (.inl ⟨_, rfl⟩) i49 o49 rfl rfl rfl (by first | rfl | omega | (simp; done) | (simp; omega)) ((SrcA.own rfl (by first | omega | (simp; try omega))).ok rfl (by first | assumption | intro z hz; simp only [List.mem_singleton, List.drop_zero, List.take_succ_cons, List.take_zero, List.mem_cons, List.not_mem_nil, or_false, List.mem_map] at hz; first | (subst hz; rfl) | (obtain ⟨_, _, rfl⟩ := hz; rfl) | (rcases hz with rfl | rfl <;> rfl))) (by first | omega | (simp; try omega)) rfl) rfl ?_ | refine st_o (op_appN Try.underlying44 Try.underlying44 (.inl ⟨_, rfl⟩) i49 o49 rfl ((SrcA.own rfl (by first | omega | (simp; try omega))).ok rfl (by first | assumption | intro z hz; simp only [List.mem_singleton, List.drop_zero, List.take_succ_cons, List.take_zero, List.mem_cons, List.not_mem_nil, or_false, List.mem_map] at hz; first | (subst hz; rfl) | (obtain ⟨_, _, rfl⟩ := hz; rfl) | (rcases hz with rfl | rfl <;> rfl))) (by first | omega | (simp; try omega))) rfl ?_ | refine st_o (op_app Try.underlying44 Try.underlying44 (.inl ⟨_, rfl⟩) i49 o49 rfl rfl rfl (by first | rfl | omega | (simp; done) | (simp; omega)) ((SrcA.sl (.inr trivial)).ok rfl (by first | assumption | intro z hz; simp only [List.mem_singleton, List.drop_zero, List.take_succ_cons, List.take_zero, List.mem_cons, List.not_mem_nil, or_false, List.mem_map] at hz; first | (subst hz; rfl) | (obtain ⟨_, _, rfl⟩ := hz; rfl) | (rcases hz with rfl | rfl <;> rfl))) (by first | omega | (simp; try omega)) rfl) rfl ?_ | refine st_o (op_appN Try.underlying44 Try.underlying44 (.inl ⟨_, rfl⟩) i49 o49 rfl ((SrcA.sl (.inr trivial)).ok rfl (by first | assumption | intro z hz; simp only [List.mem_singleton, List.drop_zero, List.take_succ_cons, List.take_zero, List.mem_cons, List.not_mem_nil, or_false, List.mem_map] at hz; first | (subst hz; rfl) | (obtain ⟨_, _, rfl⟩ := hz; rfl) | (rcases hz with rfl | rfl <;> rfl))) (by first | omega | (simp; try omega))) rfl ?_ | refine st_o (op_app Try.underlying44 Try.underlying44 (.inl ⟨_, rfl⟩) i49 o49 rfl rfl rfl (by first | rfl | omega | (simp; done) | (simp; omega)) (SrcA.nils.ok rfl (by intro z hz; cases hz)) (by first | omega | (simp; try omega)) rfl) rfl ?_ | refine st_o (op_appN Try.underlying44 Try.underlying44 (.inl ⟨_, rfl⟩) i49 o49 rfl (SrcA.nils.ok rfl (by intro z hz; cases hz)) (by first | omega | (simp; try omega))) rfl ?_
    refine st_p (mva rfl) rfl ?_
    refine al_nil ?_
    refine nm ?_
    refine aw_ret ?_
    refine rs ?_
    have e : (l ++ [x]).length = l.length + 1 := by rw [List.length_append, hn1]
    have e' : insA l i x = l ++ [x] := by rw [insA, h1, List.take_length, List.drop_length]
    exact ret_a ⟨[(6, .own (K + 2) 0 (l.length + 1))], [(K + 2, .cells 3 (insA l i x))], K + 3⟩ (le_to [] (by first | rfl | simp) (by first | rfl | simp) (by first | rfl | simp) (by first | rfl | simp) (by first | rfl | simp [apart]) ⟨by rw [e]; simp [tget, AV.ren, swp], trivial⟩ ⟨by rw [hsw, e']; simp [hget, swp], trivial⟩) (res1 Try.results77) hal' ⟨rfl, rfl, rfl⟩
  · have hlt : i < l.length := by omega
    refine ac_fn Try.func77 rfl rfl rfl rfl (fun w0 S0 r0 => ?_)
    refine aw_seq ?_
    refine aw_region ?_
    refine st_p (mva rfl) rfl ?_
    refine al_nil ?_
    refine nm ?_
    refine aw_seq ?_
    refine aw_region ?_
    refine st_p (mv rfl) rfl ?_
    refine st_p (mv rfl) rfl ?_
    first | refine st_p (op_sliceL Try.underlying44 z49 rfl (by exact ⟨_, rfl⟩) (by exact rfl) (by first | omega | (simp only [bl_len, List.length_map, List.length_append, List.length_take, List.length_drop]; omega)) (by first | omega | (simp only [bl_len, List.length_map, List.length_append, List.length_take, List.length_drop]; omega)) (by first | omega | (simp only [bl_len, List.length_map, List.length_append, List.length_take, List.length_drop]; omega))) rfl ?_ | refine st_p (op_slice Try.underlying44 z49 rfl rfl (by exact ⟨_, rfl⟩) (by exact rfl) (by first | omega | (simp only [bl_len, List.length_map, List.length_append, List.length_take, List.length_drop]; omega)) (by first | omega | (simp only [bl_len, List.length_map, List.length_append, List.length_take, List.length_drop]; omega)) (by first | omega | (simp only [bl_len, List.length_map, List.length_append, List.length_take, List.length_drop]; omega))) rfl ?_ | refine st_p (op_slice Try.underlying44 z49 rfl hget_top (by exact ⟨_, rfl⟩) (by exact rfl) (by first | omega | (simp only [bl_len, List.length_map, List.length_append, List.length_take, List.length_drop]; omega)) (by first | omega | (simp only [bl_len, List.length_map, List.length_append, List.length_take, List.length_drop]; omega)) (by first | omega | (simp only [bl_len, List.length_map, List.length_append, List.length_take, List.length_drop]; omega))) rfl ?_ | refine st_p (op_sliceC Try.underlying44 z49 rfl rfl (by exact ⟨_, rfl⟩) (by exact rfl) (by first | omega | (simp only [bl_len, List.length_map, List.length_append, List.length_take, List.length_drop]; omega)) (by first | omega | (simp only [bl_len, List.length_map, List.length_append, List.length_take, List.length_drop]; omega)) (by omega) (by first | omega | (simp only [bl_len, List.length_map, List.length_append, List.length_take, List.length_drop]; omega))) rfl ?_
    refine al_nil ?_
    refine nm ?_
    refine aw_seq ?_
    refine aw_region ?_
    refine st_p (mv rfl) rfl ?_
    first | refine st_p (op_len Try.underlying44 rfl) rfl ?_ | refine st_p (op_leno Try.underlying44 rfl) rfl ?_ | refine st_p (op_lenn Try.underlying44 rfl) rfl ?_
    refine st_p (mva rfl) rfl ?_
    refine al_nil ?_
    refine nm ?_
    refine aw_seq ?_
    refine aw_seq ?_
    refine aw_region ?_
    refine st_p (mv rfl) rfl ?_
    first | refine st_p (OpP.conv (op_eq rfl rfl) (yes (by first | assumption | omega))) rfl ?_ | refine st_p (OpP.conv (op_eq rfl rfl) (no (by first | assumption | omega))) rfl ?_ | refine st_p (op_eq rfl rfl) rfl ?_
    refine al_nil ?_
    refine nm ?_
    -- IF t16
    refine aw_no (rfl) ?_
    refine aw_skip ?_
    refine nm ?_
    refine aw_seq ?_
    refine aw_region ?_
    refine st_p (mv rfl) rfl ?_
    first | refine st_p (op_len Try.underlying44 rfl) rfl ?_ | refine st_p (op_leno Try.underlying44 rfl) rfl ?_ | refine st_p (op_lenn Try.underlying44 rfl) rfl ?_
    refine st_p (mva rfl) rfl ?_
    refine al_nil ?_
    refine nm ?_
    refine aw_seq ?_
    refine aw_seq ?_
    refine aw_region ?_
    refine st_p (mv rfl) rfl ?_
    refine st_p (mv rfl) rfl ?_
    first | refine st_p (OpP.conv (op_eq rfl rfl) (yes (by first | assumption | omega))) rfl ?_ | refine st_p (OpP.conv (op_eq rfl rfl) (no (by first | assumption | omega))) rfl ?_ | refine st_p (op_eq rfl rfl) rfl ?_
    refine al_nil ?_
    refine nm ?_
    -- IF t22
    by_cases hc : (l.length : Int) + ((1 : Nat) : Int) > ((capR r0 0 - 0 : Nat) : Int)
    · skip
      refine aw_no (rfl) ?_
      refine aw_skip ?_
      refine nm ?_
      refine aw_seq ?_
      refine aw_seq ?_
      refine aw_region ?_
      refine st_p (mv rfl) rfl ?_
      refine st_p (mv rfl) rfl ?_
      first | refine st_p (op_addi rfl rfl (by omega)) rfl ?_ | refine st_p (op_add rfl rfl) rfl ?_
      refine st_p (mv rfl) rfl ?_
      first | refine st_p (op_capN Try.underlying44 rfl) rfl ?_ | refine st_c (opc_cap Try.underlying44 rfl (by omega) (by first | decide | omega)) rfl ?_
      first | refine st_p (OpP.conv (op_gt rfl rfl) (yes (by first | assumption | omega))) rfl ?_ | refine st_p (OpP.conv (op_gt rfl rfl) (no (by first | assumption | omega))) rfl ?_ | refine st_p (op_gt rfl rfl) rfl ?_
      refine al_nil ?_
      refine nm ?_
      -- IF t31
      obtain ⟨B0, hB0⟩ : ∃ B0, B0 = l.take i ++ List.replicate (l.length + 1 - i) (ofConst (.agg #[.int .i64 0, .int .i64 0, .int .i64 0])) := ⟨_, rfl⟩
      have hl0 : B0.length = l.length + 1 := by rw [hB0, List.length_append, List.length_take, List.length_replicate]; omega
      refine aw_yes (rfl) ?_
      refine aw_seq ?_
      refine aw_region ?_
      refine st_p (mv rfl) rfl ?_
      refine st_p (mv rfl) rfl ?_
      first | refine st_p (op_sliceN Try.underlying44 z49 rfl rfl) rfl ?_ | refine st_p (op_sliceL Try.underlying44 z49 rfl (by exact rfl) (by exact ⟨_, rfl⟩) (by first | omega | (simp only [bl_len, List.length_map, List.length_append, List.length_take, List.length_drop]; omega)) (by first | omega | (simp only [bl_len, List.length_map, List.length_append, List.length_take, List.length_drop]; omega)) (by first | omega | (simp only [bl_len, List.length_map, List.length_append, List.length_take, List.length_drop]; omega))) rfl ?_ | refine st_p (op_slice Try.underlying44 z49 rfl rfl (by exact rfl) (by exact ⟨_, rfl⟩) (by first | omega | (simp only [bl_len, List.length_map, List.length_append, List.length_take, List.length_drop]; omega)) (by first | omega | (simp only [bl_len, List.length_map, List.length_append, List.length_take, List.length_drop]; omega)) (by first | omega | (simp only [bl_len, List.length_map, List.length_append, List.length_take, List.length_drop]; omega))) rfl ?_ | refine st_p (op_slice Try.underlying44 z49 rfl hget_top (by exact rfl) (by exact ⟨_, rfl⟩) (by first | omega | (simp only [bl_len, List.length_map, List.length_append, List.length_take, List.length_drop]; omega)) (by first | omega | (simp only [bl_len, List.length_map, List.length_append, List.length_take, List.length_drop]; omega)) (by first | omega | (simp only [bl_len, List.length_map, List.length_append, List.length_take, List.length_drop]; omega))) rfl ?_ | refine st_p (op_sliceC Try.underlying44 z49 rfl rfl (by exact rfl) (by exact ⟨_, rfl⟩) (by first | omega | (simp only [bl_len, List.length_map, List.length_append, List.length_take, List.length_drop]; omega)) (by first | omega | (simp only [bl_len, List.length_map, List.length_append, List.length_take, List.length_drop]; omega)) (by omega) (by first | omega | (simp only [bl_len, List.length_map, List.length_append, List.length_take, List.length_drop]; omega))) rfl ?_
      refine st_p (mv rfl) rfl ?_
      refine st_p (mv rfl) rfl ?_
      first | refine st_p (op_addi rfl rfl (by omega)) rfl ?_ | refine st_p (op_add rfl rfl) rfl ?_
      refine st_p (mv rfl) rfl ?_
      first | refine st_p (op_subi rfl rfl (by omega)) rfl ?_ | refine st_p (op_sub rfl rfl) rfl ?_
      first | refine st_o (op_appZi Try.underlying44 Try.underlying3 i49 o49 (by decide) rfl rfl (by omega) (by omega) (by omega)) rfl ?_ | refine st_c (opc_appZg Try.underlying44 Try.underlying3 i49 o49 (by decide) rfl rfl rfl rfl (by omega) rfl (by first | decide | omega) (by omega) (by omega) (by omega) (by omega)) rfl ?_
      refine st_p (mva rfl) rfl ?_
      refine al_nil ?_
      refine nm ?_
      refine aw_seq ?_
      refine aw_top (h' := [(K + 2, .cells 3 B0), (0, .cells 3 l), (1, .cells 3 [x])]) (own_len (st' := 0) (k' := l.length + 1) rfl (by omega)) ?_ ?_
      · rw [hB0, show (i : Int).toNat - Int.toNat 0 = i from by omega, show (((l.length : Nat) : Int) + ((1 : Nat) : Int) - (i : Int)).toNat = l.length + 1 - i from by omega]
      refine aw_region ?_
      refine st_p (mv rfl) rfl ?_
      refine st_p (mv rfl) rfl ?_
      first | refine st_p (op_sliceL Try.underlying44 z49 rfl (by exact ⟨_, rfl⟩) (by exact rfl) (by first | omega | (simp only [bl_len, List.length_map, List.length_append, List.length_take, List.length_drop]; omega)) (by first | omega | (simp only [bl_len, List.length_map, List.length_append, List.length_take, List.length_drop]; omega)) (by first | omega | (simp only [bl_len, List.length_map, List.length_append, List.length_take, List.length_drop]; omega))) rfl ?_ | refine st_p (op_slice Try.underlying44 z49 rfl rfl (by exact ⟨_, rfl⟩) (by exact rfl) (by first | omega | (simp only [bl_len, List.length_map, List.length_append, List.length_take, List.length_drop]; omega)) (by first | omega | (simp only [bl_len, List.length_map, List.length_append, List.length_take, List.length_drop]; omega)) (by first | omega | (simp only [bl_len, List.length_map, List.length_append, List.length_take, List.length_drop]; omega))) rfl ?_ | refine st_p (op_slice Try.underlying44 z49 rfl hget_top (by exact ⟨_, rfl⟩) (by exact rfl) (by first | omega | (simp only [bl_len, List.length_map, List.length_append, List.length_take, List.length_drop]; omega)) (by first | omega | (simp only [bl_len, List.length_map, List.length_append, List.length_take, List.length_drop]; omega)) (by first | omega | (simp only [bl_len, List.length_map, List.length_append, List.length_take, List.length_drop]; omega))) rfl ?_ | refine st_p (op_sliceC Try.underlying44 z49 rfl rfl (by exact ⟨_, rfl⟩) (by exact rfl) (by first | omega | (simp only [bl_len, List.length_map, List.length_append, List.length_take, List.length_drop]; omega)) (by first | omega | (simp only [bl_len, List.length_map, List.length_append, List.length_take, List.length_drop]; omega)) (by omega) (by first | omega | (simp only [bl_len, List.length_map, List.length_append, List.length_take, List.length_drop]; omega))) rfl ?_
      refine st_p (mv rfl) rfl ?_
      first | refine st_o (op_copy Try.underlying44 z49 rfl (by omega) rfl (by omega) rfl (.own rfl (by omega))) rfl ?_ | refine st_o (op_copy Try.underlying44 z49 rfl (by omega) rfl (by omega) rfl (.sl (.inr trivial))) rfl ?_ | refine st_o (op_copy Try.underlying44 z49 rfl (by omega) rfl (by omega) rfl .nils) rfl ?_ | refine st_o (op_copy Try.underlying44 z49 rfl (by omega) hget_top (by omega) rfl (.own rfl (by omega))) rfl ?_ | refine st_o (op_copy Try.underlying44 z49 rfl (by omega) hget_top (by omega) rfl (.sl (.inr trivial))) rfl ?_ | refine st_o (op_copy Try.underlying44 z49 rfl (by omega) hget_top (by omega) rfl .nils) rfl ?_
      refine al_nil ?_
      refine nm ?_
      refine aw_seq ?_
      obtain ⟨B1, hB1⟩ : ∃ B1, B1 = B0.take i ++ [x] ++ B0.drop (i + 1) := ⟨_, rfl⟩
      have hl1 : B1.length = l.length + 1 := by rw [hB1, List.length_append, List.length_append, List.length_take, List.length_drop, hn1]; omega
      refine aw_re rfl (h' := [(K + 2, .cells 3 B1), (0, .cells 3 l), (1, .cells 3 [x])]) ?_ ?_
      · refine hset3 ?_
        rw [hB1]
        have e1 : (([x].drop 0).take 1) = [x] := rfl
        have e2 : min (([x].drop 0).take 1).length ((((l.length + 1 : Nat) : Int)).toNat - (i : Int).toNat) = 1 := by rw [e1, hn1]; omega
        refine cp_eq (by omega) ?_ ?_
        · rw [e2]; rfl
        · rw [e2]; omega
      refine dr_go ?_
      refine dr_f 0 0 [9] rfl (fun H => mv rfl) ?_
      refine dr_f 0 0 [1] rfl (fun H => mv rfl) ?_
      refine dr_f 0 0 [7] rfl (fun H => mv rfl) ?_
      first | refine dr_f 0 0 [47, 48] rfl (fun H => op_addi rfl rfl (by omega)) ?_ | refine dr_f 0 0 [47, 48] rfl (fun H => op_add rfl rfl) ?_
      first | refine dr_q 0 0 [46, 49] rfl (op_sliceL Try.underlying44 z49 rfl (by exact ⟨_, rfl⟩) (by exact rfl) (by first | omega | (simp only [bl_len, List.length_map, List.length_append, List.length_take, List.length_drop]; omega)) (by first | omega | (simp only [bl_len, List.length_map, List.length_append, List.length_take, List.length_drop]; omega)) (by first | omega | (simp only [bl_len, List.length_map, List.length_append, List.length_take, List.length_drop]; omega))) ?_ | refine dr_q 0 0 [46, 49] rfl (op_slice Try.underlying44 z49 rfl rfl (by exact ⟨_, rfl⟩) (by exact rfl) (by first | omega | (simp only [bl_len, List.length_map, List.length_append, List.length_take, List.length_drop]; omega)) (by first | omega | (simp only [bl_len, List.length_map, List.length_append, List.length_take, List.length_drop]; omega)) (by first | omega | (simp only [bl_len, List.length_map, List.length_append, List.length_take, List.length_drop]; omega))) ?_ | refine dr_q 0 0 [46, 49] rfl (op_slice Try.underlying44 z49 rfl hget_top (by exact ⟨_, rfl⟩) (by exact rfl) (by first | omega | (simp only [bl_len, List.length_map, List.length_append, List.length_take, List.length_drop]; omega)) (by first | omega | (simp only [bl_len, List.length_map, List.length_append, List.length_take, List.length_drop]; omega)) (by first | omega | (simp only [bl_len, List.length_map, List.length_append, List.length_take, List.length_drop]; omega))) ?_ | refine dr_q 0 0 [46, 49] rfl (op_sliceC Try.underlying44 z49 rfl rfl (by exact ⟨_, rfl⟩) (by exact rfl) (by first | omega | (simp only [bl_len, List.length_map, List.length_append, List.length_take, List.length_drop]; omega)) (by first | omega | (simp only [bl_len, List.length_map, List.length_append, List.length_take, List.length_drop]; omega)) (by omega) (by first | omega | (simp only [bl_len, List.length_map, List.length_append, List.length_take, List.length_drop]; omega))) ?_
      refine dr_f 0 0 [0] rfl (fun H => mv rfl) ?_
      refine dr_f 0 0 [1] rfl (fun H => mv rfl) ?_
      first | refine dr_q 0 0 [51, 52] rfl (op_sliceL Try.underlying44 z49 rfl (by exact ⟨_, rfl⟩) (by exact rfl) (by first | omega | (simp only [bl_len, List.length_map, List.length_append, List.length_take, List.length_drop]; omega)) (by first | omega | (simp only [bl_len, List.length_map, List.length_append, List.length_take, List.length_drop]; omega)) (by first | omega | (simp only [bl_len, List.length_map, List.length_append, List.length_take, List.length_drop]; omega))) ?_ | refine dr_q 0 0 [51, 52] rfl (op_slice Try.underlying44 z49 rfl rfl (by exact ⟨_, rfl⟩) (by exact rfl) (by first | omega | (simp only [bl_len, List.length_map, List.length_append, List.length_take, List.length_drop]; omega)) (by first | omega | (simp only [bl_len, List.length_map, List.length_append, List.length_take, List.length_drop]; omega)) (by first | omega | (simp only [bl_len, List.length_map, List.length_append, List.length_take, List.length_drop]; omega))) ?_ | refine dr_q 0 0 [51, 52] rfl (op_slice Try.underlying44 z49 rfl hget_top (by exact ⟨_, rfl⟩) (by exact rfl) (by first | omega | (simp only [bl_len, List.length_map, List.length_append, List.length_take, List.length_drop]; omega)) (by first | omega | (simp only [bl_len, List.length_map, List.length_append, List.length_take, List.length_drop]; omega)) (by first | omega | (simp only [bl_len, List.length_map, List.length_append, List.length_take, List.length_drop]; omega))) ?_ | refine dr_q 0 0 [51, 52] rfl (op_sliceC Try.underlying44 z49 rfl rfl (by exact ⟨_, rfl⟩) (by exact rfl) (by first | omega | (simp only [bl_len, List.length_map, List.length_append, List.length_take, List.length_drop]; omega)) (by first | omega | (simp only [bl_len, List.length_map, List.length_append, List.length_take, List.length_drop]; omega)) (by omega) (by first | omega | (simp only [bl_len, List.length_map, List.length_append, List.length_take, List.length_drop]; omega))) ?_
      first | refine dr_e 0 [50, 53] rfl (op_copy Try.underlying44 z49 rfl (by omega) rfl (by omega) rfl (.own rfl (by omega))) ?_ | refine dr_e 0 [50, 53] rfl (op_copy Try.underlying44 z49 rfl (by omega) rfl (by omega) rfl (.sl (.inr trivial))) ?_ | refine dr_e 0 [50, 53] rfl (op_copy Try.underlying44 z49 rfl (by omega) rfl (by omega) rfl .nils) ?_ | refine dr_e 0 [50, 53] rfl (op_copy Try.underlying44 z49 rfl (by omega) hget_top (by omega) rfl (.own rfl (by omega))) ?_ | refine dr_e 0 [50, 53] rfl (op_copy Try.underlying44 z49 rfl (by omega) hget_top (by omega) rfl (.sl (.inr trivial))) ?_ | refine dr_e 0 [50, 53] rfl (op_copy Try.underlying44 z49 rfl (by omega) hget_top (by omega) rfl .nils) ?_
      refine dr_end [] (by kernel_rfl) (by kernel_rfl) (by kernel_rfl) (by kernel_rfl) trivial ?_
      refine nm ?_
      refine aw_seq ?_
      refine aw_region ?_
      refine st_p (mv rfl) rfl ?_
      refine st_p (mva rfl) rfl ?_
      refine al_nil ?_
      refine nm ?_
      refine aw_ret ?_
      refine rs ?_
      have e3 : (l.drop (0 + (i : Int).toNat)).take ((l.length : Int).toNat - (i : Int).toNat) = l.drop i := by
        rw [show 0 + (i : Int).toNat = i from by omega, show (l.length : Int).toNat - (i : Int).toNat = l.length - i from by omega]
        exact List.take_of_length_le (by rw [List.length_drop]; omega)
      have e4 : min ((l.drop (0 + (i : Int).toNat)).take ((l.length : Int).toNat - (i : Int).toNat)).length ((((l.length + 1 : Nat) : Int)).toNat - ((i : Int) + ((1 : Nat) : Int)).toNat) = l.length - i := by rw [e3, List.length_drop]; omega
      refine ra_re rfl (h' := [(K + 2, .cells 3 (insA l i x)), (0, .cells 3 l), (1, .cells 3 [x])]) ?_ ?_
      · refine hset3 ?_
        rw [← ins_grow l x (ofConst (.agg #[.int .i64 0, .int .i64 0, .int .i64 0])) i hlt, ← hB0, ← hB1]
        refine cp_eq (by omega) ?_ ?_
        · rw [e4, e3]; exact List.take_of_length_le (by rw [List.length_drop]; omega)
        · rw [e4]; omega
      exact ret_a ⟨[(6, .own (K + 2) 0 (l.length + 1))], [(K + 2, .cells 3 (insA l i x))], K + 3⟩ (le_to [] (by first | rfl | simp) (by first | rfl | simp) (by first | rfl | simp) (by first | rfl | simp) (by first | rfl | simp [apart]) ⟨by simp [tget, AV.ren, swp], trivial⟩ ⟨by rw [hsw]; simp [hget, swp], trivial⟩) (res1 Try.results77) hal' ⟨rfl, rfl, rfl⟩
    · skip
      refine aw_no (rfl) ?_
      refine aw_skip ?_
      refine nm ?_
      refine aw_seq ?_
      refine aw_seq ?_
      refine aw_region ?_
      refine st_p (mv rfl) rfl ?_
      refine st_p (mv rfl) rfl ?_
      first | refine st_p (op_addi rfl rfl (by omega)) rfl ?_ | refine st_p (op_add rfl rfl) rfl ?_
      refine st_p (mv rfl) rfl ?_
      first | refine st_p (op_capN Try.underlying44 rfl) rfl ?_ | refine st_c (opc_cap Try.underlying44 rfl (by omega) (by first | decide | omega)) rfl ?_
      first | refine st_p (OpP.conv (op_gt rfl rfl) (yes (by first | assumption | omega))) rfl ?_ | refine st_p (OpP.conv (op_gt rfl rfl) (no (by first | assumption | omega))) rfl ?_ | refine st_p (op_gt rfl rfl) rfl ?_
      refine al_nil ?_
      refine nm ?_
      -- IF t31
      obtain ⟨J, hJ⟩ : ∃ J, J = l ++ List.replicate (capR r0 0 - l.length) (junk 3) := ⟨_, rfl⟩
      have hlJ : J.length = capR r0 0 := by rw [hJ, List.length_append, List.length_replicate]; omega
      refine aw_room 0 (h' := [(0, .cells 3 J), (1, .cells 3 [x])]) rfl (by omega) (by rw [← hJ]; rfl) ?_
      refine aw_no (rfl) ?_
      refine aw_skip ?_
      refine nm ?_
      refine aw_seq ?_
      refine aw_region ?_
      refine st_p (mv rfl) rfl ?_
      refine st_p (mv rfl) rfl ?_
      refine st_p (mv rfl) rfl ?_
      first | refine st_p (op_addi rfl rfl (by omega)) rfl ?_ | refine st_p (op_add rfl rfl) rfl ?_
      first | refine st_p (op_sliceN Try.underlying44 z49 rfl rfl) rfl ?_ | refine st_p (op_sliceL Try.underlying44 z49 rfl (by exact rfl) (by exact ⟨_, rfl⟩) (by first | omega | (simp only [bl_len, List.length_map, List.length_append, List.length_take, List.length_drop]; omega)) (by first | omega | (simp only [bl_len, List.length_map, List.length_append, List.length_take, List.length_drop]; omega)) (by first | omega | (simp only [bl_len, List.length_map, List.length_append, List.length_take, List.length_drop]; omega))) rfl ?_ | refine st_p (op_slice Try.underlying44 z49 rfl rfl (by exact rfl) (by exact ⟨_, rfl⟩) (by first | omega | (simp only [bl_len, List.length_map, List.length_append, List.length_take, List.length_drop]; omega)) (by first | omega | (simp only [bl_len, List.length_map, List.length_append, List.length_take, List.length_drop]; omega)) (by first | omega | (simp only [bl_len, List.length_map, List.length_append, List.length_take, List.length_drop]; omega))) rfl ?_ | refine st_p (op_slice Try.underlying44 z49 rfl hget_top (by exact rfl) (by exact ⟨_, rfl⟩) (by first | omega | (simp only [bl_len, List.length_map, List.length_append, List.length_take, List.length_drop]; omega)) (by first | omega | (simp only [bl_len, List.length_map, List.length_append, List.length_take, List.length_drop]; omega)) (by first | omega | (simp only [bl_len, List.length_map, List.length_append, List.length_take, List.length_drop]; omega))) rfl ?_ | refine st_p (op_sliceC Try.underlying44 z49 rfl rfl (by exact rfl) (by exact ⟨_, rfl⟩) (by first | omega | (simp only [bl_len, List.length_map, List.length_append, List.length_take, List.length_drop]; omega)) (by first | omega | (simp only [bl_len, List.length_map, List.length_append, List.length_take, List.length_drop]; omega)) (by omega) (by first | omega | (simp only [bl_len, List.length_map, List.length_append, List.length_take, List.length_drop]; omega))) rfl ?_
      refine st_p (mva rfl) rfl ?_
      refine al_nil ?_
      refine nm ?_
      refine aw_seq ?_
      refine aw_seq ?_
      refine aw_region ?_
      refine st_p (mv rfl) rfl ?_
      refine st_p (mv rfl) rfl ?_
      refine st_p (mv rfl) rfl ?_
      refine st_p (mv rfl) rfl ?_
      first | refine st_p (op_addi rfl rfl (by omega)) rfl ?_ | refine st_p (op_add rfl rfl) rfl ?_
      first | refine st_p (op_sliceL Try.underlying44 z49 rfl (by exact ⟨_, rfl⟩) (by exact rfl) (by first | omega | (simp only [bl_len, List.length_map, List.length_append, List.length_take, List.length_drop]; omega)) (by first | omega | (simp only [bl_len, List.length_map, List.length_append, List.length_take, List.length_drop]; omega)) (by first | omega | (simp only [bl_len, List.length_map, List.length_append, List.length_take, List.length_drop]; omega))) rfl ?_ | refine st_p (op_slice Try.underlying44 z49 rfl rfl (by exact ⟨_, rfl⟩) (by exact rfl) (by first | omega | (simp only [bl_len, List.length_map, List.length_append, List.length_take, List.length_drop]; omega)) (by first | omega | (simp only [bl_len, List.length_map, List.length_append, List.length_take, List.length_drop]; omega)) (by first | omega | (simp only [bl_len, List.length_map, List.length_append, List.length_take, List.length_drop]; omega))) rfl ?_ | refine st_p (op_slice Try.underlying44 z49 rfl hget_top (by exact ⟨_, rfl⟩) (by exact rfl) (by first | omega | (simp only [bl_len, List.length_map, List.length_append, List.length_take, List.length_drop]; omega)) (by first | omega | (simp only [bl_len, List.length_map, List.length_append, List.length_take, List.length_drop]; omega)) (by first | omega | (simp only [bl_len, List.length_map, List.length_append, List.length_take, List.length_drop]; omega))) rfl ?_ | refine st_p (op_sliceC Try.underlying44 z49 rfl rfl (by exact ⟨_, rfl⟩) (by exact rfl) (by first | omega | (simp only [bl_len, List.length_map, List.length_append, List.length_take, List.length_drop]; omega)) (by first | omega | (simp only [bl_len, List.length_map, List.length_append, List.length_take, List.length_drop]; omega)) (by omega) (by first | omega | (simp only [bl_len, List.length_map, List.length_append, List.length_take, List.length_drop]; omega))) rfl ?_
      -- STOP: call slices.overlaps[diwan/bits.Note](t61, t66) -> 67
      refine st_p (op_overlaps Try.func99 ov_name_note rfl ov_next_note ov_find_note Try.underlying44 z49 (by omega) rfl (by omega) rfl (by omega) rfl (by omega) rfl (by omega) (by decide)) rfl ?_
      first | refine st_p (op_notT rfl) rfl ?_ | refine st_p (op_notF rfl) rfl ?_ | refine st_p (op_not rfl) rfl ?_
      refine al_nil ?_
      refine nm ?_
      -- IF t68
      refine aw_yes (rfl) ?_
      refine aw_seq ?_
      have hzJ : ∀ z ∈ J, z.cells.length = 3 := fun z hz => by
        rw [hJ] at hz
        rcases List.mem_append.1 hz with h | h
        · exact hzl z h
        · rw [List.eq_of_mem_replicate h]; exact junk_len 3
      have hlJ' : l.length + 1 ≤ J.length := by omega
      refine dr_go ?_
      refine dr_f 0 0 [0] rfl (fun H => mv rfl) ?_
      refine dr_f 0 0 [1] rfl (fun H => mv rfl) ?_
      refine dr_f 0 0 [7] rfl (fun H => mv rfl) ?_
      first | refine dr_f 0 0 [70, 71] rfl (fun H => op_addi rfl rfl (by omega)) ?_ | refine dr_f 0 0 [70, 71] rfl (fun H => op_add rfl rfl) ?_
      first | refine dr_q 0 0 [69, 72] rfl (op_sliceL Try.underlying44 z49 rfl (by exact ⟨_, rfl⟩) (by exact rfl) (by first | omega | (simp only [bl_len, List.length_map, List.length_append, List.length_take, List.length_drop]; omega)) (by first | omega | (simp only [bl_len, List.length_map, List.length_append, List.length_take, List.length_drop]; omega)) (by first | omega | (simp only [bl_len, List.length_map, List.length_append, List.length_take, List.length_drop]; omega))) ?_ | refine dr_q 0 0 [69, 72] rfl (op_slice Try.underlying44 z49 rfl rfl (by exact ⟨_, rfl⟩) (by exact rfl) (by first | omega | (simp only [bl_len, List.length_map, List.length_append, List.length_take, List.length_drop]; omega)) (by first | omega | (simp only [bl_len, List.length_map, List.length_append, List.length_take, List.length_drop]; omega)) (by first | omega | (simp only [bl_len, List.length_map, List.length_append, List.length_take, List.length_drop]; omega))) ?_ | refine dr_q 0 0 [69, 72] rfl (op_slice Try.underlying44 z49 rfl hget_top (by exact ⟨_, rfl⟩) (by exact rfl) (by first | omega | (simp only [bl_len, List.length_map, List.length_append, List.length_take, List.length_drop]; omega)) (by first | omega | (simp only [bl_len, List.length_map, List.length_append, List.length_take, List.length_drop]; omega)) (by first | omega | (simp only [bl_len, List.length_map, List.length_append, List.length_take, List.length_drop]; omega))) ?_ | refine dr_q 0 0 [69, 72] rfl (op_sliceC Try.underlying44 z49 rfl rfl (by exact ⟨_, rfl⟩) (by exact rfl) (by first | omega | (simp only [bl_len, List.length_map, List.length_append, List.length_take, List.length_drop]; omega)) (by first | omega | (simp only [bl_len, List.length_map, List.length_append, List.length_take, List.length_drop]; omega)) (by omega) (by first | omega | (simp only [bl_len, List.length_map, List.length_append, List.length_take, List.length_drop]; omega))) ?_
      refine dr_f 0 0 [0] rfl (fun H => mv rfl) ?_
      refine dr_f 0 0 [1] rfl (fun H => mv rfl) ?_
      first | refine dr_q 0 0 [74, 75] rfl (op_sliceL Try.underlying44 z49 rfl (by exact ⟨_, rfl⟩) (by exact rfl) (by first | omega | (simp only [bl_len, List.length_map, List.length_append, List.length_take, List.length_drop]; omega)) (by first | omega | (simp only [bl_len, List.length_map, List.length_append, List.length_take, List.length_drop]; omega)) (by first | omega | (simp only [bl_len, List.length_map, List.length_append, List.length_take, List.length_drop]; omega))) ?_ | refine dr_q 0 0 [74, 75] rfl (op_slice Try.underlying44 z49 rfl rfl (by exact ⟨_, rfl⟩) (by exact rfl) (by first | omega | (simp only [bl_len, List.length_map, List.length_append, List.length_take, List.length_drop]; omega)) (by first | omega | (simp only [bl_len, List.length_map, List.length_append, List.length_take, List.length_drop]; omega)) (by first | omega | (simp only [bl_len, List.length_map, List.length_append, List.length_take, List.length_drop]; omega))) ?_ | refine dr_q 0 0 [74, 75] rfl (op_slice Try.underlying44 z49 rfl hget_top (by exact ⟨_, rfl⟩) (by exact rfl) (by first | omega | (simp only [bl_len, List.length_map, List.length_append, List.length_take, List.length_drop]; omega)) (by first | omega | (simp only [bl_len, List.length_map, List.length_append, List.length_take, List.length_drop]; omega)) (by first | omega | (simp only [bl_len, List.length_map, List.length_append, List.length_take, List.length_drop]; omega))) ?_ | refine dr_q 0 0 [74, 75] rfl (op_sliceC Try.underlying44 z49 rfl rfl (by exact ⟨_, rfl⟩) (by exact rfl) (by first | omega | (simp only [bl_len, List.length_map, List.length_append, List.length_take, List.length_drop]; omega)) (by first | omega | (simp only [bl_len, List.length_map, List.length_append, List.length_take, List.length_drop]; omega)) (by omega) (by first | omega | (simp only [bl_len, List.length_map, List.length_append, List.length_take, List.length_drop]; omega))) ?_
      first | refine dr_e 0 [73, 76] rfl (op_copy Try.underlying44 z49 rfl (by omega) rfl (by omega) rfl (.own rfl (by omega))) ?_ | refine dr_e 0 [73, 76] rfl (op_copy Try.underlying44 z49 rfl (by omega) rfl (by omega) rfl (.sl (.inr trivial))) ?_ | refine dr_e 0 [73, 76] rfl (op_copy Try.underlying44 z49 rfl (by omega) rfl (by omega) rfl .nils) ?_ | refine dr_e 0 [73, 76] rfl (op_copy Try.underlying44 z49 rfl (by omega) hget_top (by omega) rfl (.own rfl (by omega))) ?_ | refine dr_e 0 [73, 76] rfl (op_copy Try.underlying44 z49 rfl (by omega) hget_top (by omega) rfl (.sl (.inr trivial))) ?_ | refine dr_e 0 [73, 76] rfl (op_copy Try.underlying44 z49 rfl (by omega) hget_top (by omega) rfl .nils) ?_
      refine dr_end [] (by kernel_rfl) (by kernel_rfl) (by kernel_rfl) (by kernel_rfl) trivial ?_
      refine nm ?_
      refine aw_seq ?_
      have e5 : ((J.drop (0 + Int.toNat 0 + (i : Int).toNat)).take ((((((l.length : Int) + ((1 : Nat) : Int)).toNat - Int.toNat 0 : Nat) : Int)).toNat - (i : Int).toNat)).take (l.length - i) = l.drop i := by
        rw [show 0 + Int.toNat 0 + (i : Int).toNat = i from by omega, List.take_take, Nat.min_eq_left (by omega), hJ, List.drop_append_of_le_length (by omega)]
        exact List.take_left' (by rw [List.length_drop])
      obtain ⟨J1, hJ1⟩ : ∃ J1, J1 = J.take (i + 1) ++ l.drop i ++ J.drop (l.length + 1) := ⟨_, rfl⟩
      have hl1 : J1.length = J.length := by rw [hJ1, List.length_append, List.length_append, List.length_take, List.length_drop, List.length_drop]; omega
      refine aw_re rfl (h' := [(0, .cells 3 J1), (1, .cells 3 [x])]) ?_ ?_
      · refine hset2 ?_
        rw [hJ1]
        have e7 : min ((J.drop (0 + Int.toNat 0 + (i : Int).toNat)).take ((((((l.length : Int) + ((1 : Nat) : Int)).toNat - Int.toNat 0 : Nat) : Int)).toNat - (i : Int).toNat)).length ((((((l.length : Int) + ((1 : Nat) : Int)).toNat - Int.toNat 0 : Nat) : Int)).toNat - ((i : Int) + ((1 : Nat) : Int)).toNat) = l.length - i := by
          rw [List.length_take, List.length_drop]; omega
        refine cp_eq (by omega) ?_ ?_
        · rw [e7]; exact e5
        · rw [e7]; omega
      refine aw_region ?_
      refine st_p (mv rfl) rfl ?_
      refine st_p (mv rfl) rfl ?_
      first | refine st_p (op_sliceL Try.underlying44 z49 rfl (by exact ⟨_, rfl⟩) (by exact rfl) (by first | omega | (simp only [bl_len, List.length_map, List.length_append, List.length_take, List.length_drop]; omega)) (by first | omega | (simp only [bl_len, List.length_map, List.length_append, List.length_take, List.length_drop]; omega)) (by first | omega | (simp only [bl_len, List.length_map, List.length_append, List.length_take, List.length_drop]; omega))) rfl ?_ | refine st_p (op_slice Try.underlying44 z49 rfl rfl (by exact ⟨_, rfl⟩) (by exact rfl) (by first | omega | (simp only [bl_len, List.length_map, List.length_append, List.length_take, List.length_drop]; omega)) (by first | omega | (simp only [bl_len, List.length_map, List.length_append, List.length_take, List.length_drop]; omega)) (by first | omega | (simp only [bl_len, List.length_map, List.length_append, List.length_take, List.length_drop]; omega))) rfl ?_ | refine st_p (op_slice Try.underlying44 z49 rfl hget_top (by exact ⟨_, rfl⟩) (by exact rfl) (by first | omega | (simp only [bl_len, List.length_map, List.length_append, List.length_take, List.length_drop]; omega)) (by first | omega | (simp only [bl_len, List.length_map, List.length_append, List.length_take, List.length_drop]; omega)) (by first | omega | (simp only [bl_len, List.length_map, List.length_append, List.length_take, List.length_drop]; omega))) rfl ?_ | refine st_p (op_sliceC Try.underlying44 z49 rfl rfl (by exact ⟨_, rfl⟩) (by exact rfl) (by first | omega | (simp only [bl_len, List.length_map, List.length_append, List.length_take, List.length_drop]; omega)) (by first | omega | (simp only [bl_len, List.length_map, List.length_append, List.length_take, List.length_drop]; omega)) (by omega) (by first | omega | (simp only [bl_len, List.length_map, List.length_append, List.length_take, List.length_drop]; omega))) rfl ?_
      refine st_p (mv rfl) rfl ?_
      first | refine st_o (op_copy Try.underlying44 z49 rfl (by omega) rfl (by omega) rfl (.own rfl (by omega))) rfl ?_ | refine st_o (op_copy Try.underlying44 z49 rfl (by omega) rfl (by omega) rfl (.sl (.inr trivial))) rfl ?_ | refine st_o (op_copy Try.underlying44 z49 rfl (by omega) rfl (by omega) rfl .nils) rfl ?_ | refine st_o (op_copy Try.underlying44 z49 rfl (by omega) hget_top (by omega) rfl (.own rfl (by omega))) rfl ?_ | refine st_o (op_copy Try.underlying44 z49 rfl (by omega) hget_top (by omega) rfl (.sl (.inr trivial))) rfl ?_ | refine st_o (op_copy Try.underlying44 z49 rfl (by omega) hget_top (by omega) rfl .nils) rfl ?_
      refine al_nil ?_
      refine nm ?_
      refine aw_seq ?_
      obtain ⟨J2, hJ2⟩ : ∃ J2, J2 = J1.take i ++ [x] ++ J1.drop (i + 1) := ⟨_, rfl⟩
      refine aw_re rfl (h' := [(0, .cells 3 J2), (1, .cells 3 [x])]) ?_ ?_
      · refine hset2 ?_
        rw [hJ2]
        have e1 : (([x].drop 0).take 1) = [x] := rfl
        have e8 : min (([x].drop 0).take 1).length ((((((l.length : Int) + ((1 : Nat) : Int)).toNat - Int.toNat 0 : Nat) : Int)).toNat - (i : Int).toNat) = 1 := by rw [e1, hn1]; omega
        refine cp_eq (by omega) ?_ ?_
        · rw [e8]; rfl
        · rw [e8]; omega
      refine aw_trim 0 (l.length + 1) rfl ?_
      refine aw_region ?_
      refine st_p (mv rfl) rfl ?_
      refine st_p (mva rfl) rfl ?_
      refine al_nil ?_
      refine nm ?_
      refine aw_ret ?_
      refine rs ?_
      have e6 : J2.take (l.length + 1) = insA l i x := by rw [hJ2, hJ1]; exact ins_room l x i hlt J _ hJ
      exact ret_a ⟨[(6, .own (K + 2) 0 (l.length + 1))], [(K + 2, .cells 3 (insA l i x))], K + 3⟩ (le_to [(K + 2, 0)] (by first | rfl | simp) (by first | rfl | simp) (by first | rfl | simp) (by first | rfl | simp) (by first | rfl | simp [apart]) ⟨by simp [tget, AV.ren, swp], trivial⟩ ⟨by rw [hsw2]; simp [hget, swp, hset, e6], trivial⟩) (res1 Try.results77) hal' ⟨rfl, rfl, rfl⟩

end Go.Proofs.Ytpggknkhldecaaa.Abs
end
section
/-
  Notes: how two compare, where one is or would be.
-/
namespace Go.Proofs.Ytpggknkhldecaaa.Abs

def ntA (x : NT) : AV := .agg [.int .i64 x.pos, .int .i64 x.shard, .int .i64 x.bit]
def nts (l : List NT) : List AV := l.map ntA
theorem nts_len (l : List NT) : (nts l).length = l.length := List.length_map _
theorem nts_plain (l : List NT) : (nts l).all AV.plain = true := by simp [nts, ntA, AV.plain, plains]
theorem nts_sz (l : List NT) : ∀ z ∈ nts l, z.cells.length = 3 := fun z hz => by obtain ⟨x, _, rfl⟩ := List.mem_map.1 hz; rfl
theorem ren_nts (σ : Nat → Nat) (l : List NT) : (nts l).map (AV.ren σ) = nts l := by simp [nts, ntA, AV.ren, rens, Function.comp_def]
theorem nts_get {l : List NT} {i : Nat} {x : NT} (h : l[i]? = some x) : (nts l)[i]? = some (ntA x) := by rw [nts, List.getElem?_map, h]; rfl

def cmpI (a b : Int) : Int := if a < b then -1 else if a > b then 1 else 0
def orI (a b : Int) : Int := if a ≠ 0 then a else b
def cmpN (x y : NT) : Int := orI (cmpI x.pos y.pos) (cmpI x.shard y.shard)

theorem cmpN_lt (x y : NT) : decide (cmpN x y < 0) = ltN x y.pos y.shard := by
  unfold cmpN orI cmpI ltN
  by_cases h1 : x.pos < y.pos
  · simp [h1]
  · by_cases h2 : x.pos > y.pos
    · have h3 : ¬ x.pos = y.pos := by omega
      simp [h1, h2, h3]
    · have h3 : x.pos = y.pos := by omega
      by_cases h4 : x.shard < y.shard
      · simp [h3, h4]
      · by_cases h5 : x.shard > y.shard
        · simp [h3, h4, h5]
        · simp [h3, h4, h5]
theorem cmpN_eq (x y : NT) : decide (cmpN x y = 0) = eqN x y.pos y.shard := by
  unfold cmpN orI cmpI eqN
  by_cases h1 : x.pos < y.pos
  · have h3 : ¬ x.pos = y.pos := by omega
    simp [h1, h3]
  · by_cases h2 : x.pos > y.pos
    · have h3 : ¬ x.pos = y.pos := by omega
      simp [h1, h2, h3]
    · have h3 : x.pos = y.pos := by omega
      by_cases h4 : x.shard < y.shard
      · have h6 : ¬ x.shard = y.shard := by omega
        simp [h3, h4, h6]
      · by_cases h5 : x.shard > y.shard
        · have h6 : ¬ x.shard = y.shard := by omega
          simp [h3, h4, h5, h6]
        · have h6 : x.shard = y.shard := by omega
          simp [h3, h6]

theorem isNaN_int (a : Int) : AC Try.prog 114 [.int .i64 a] [] 0 false (fun v h nx => v = .bool false ∧ h = [] ∧ nx = 0) := by
  refine ac_fn Try.func114 rfl rfl rfl rfl (fun w0 S0 r0 => ?_)
  refine aw_seq ?_
  refine aw_region ?_
  refine st_p (mva rfl) rfl ?_
  refine al_nil ?_
  refine nm ?_
  refine aw_seq ?_
  refine aw_region ?_
  refine st_p (mv rfl) rfl ?_
  refine st_p (mv rfl) rfl ?_
  refine st_p (OpP.conv (op_ne rfl rfl) (no (by first | assumption | omega))) rfl ?_
  refine st_p (mva rfl) rfl ?_
  refine al_nil ?_
  refine nm ?_
  refine aw_ret ?_
  exact ret_v (res1 Try.results114) (.inr ⟨rfl, rfl⟩) ⟨rfl, rfl, rfl⟩

theorem compare_int (a b : Int) : AC Try.prog 97 [.int .i64 a, .int .i64 b] [] 0 false (fun v h nx => v = .int .i64 (cmpI a b) ∧ h = [] ∧ nx = 0) := by
  have ha := isNaN_int a
  have hb := isNaN_int b
  by_cases h1 : a < b
  · have e : cmpI a b = -1 := by unfold cmpI; rw [if_pos h1]
    refine ac_fn Try.func97 rfl rfl rfl rfl (fun w0 S0 r0 => ?_)
    refine aw_seq ?_
    refine aw_region ?_
    refine st_p (mva rfl) rfl ?_
    refine al_nil ?_
    refine nm ?_
    refine aw_seq ?_
    refine aw_region ?_
    refine st_p (mv rfl) rfl ?_
    -- STOP: call cmp.isNaN[int](t7) -> 8
    refine st_o ((op_callq (ha) Try.func114 ⟨rfl, rfl⟩ rfl rfl (fun nx => (.cons (.same (by rfl)) .nil)) (by rintro _ _ _ ⟨rfl, rfl, rfl⟩; exact .same rfl)).ok) rfl ?_
    refine st_p (mva rfl) rfl ?_
    refine al_nil ?_
    refine nm ?_
    refine aw_seq ?_
    refine aw_region ?_
    refine st_p (mv rfl) rfl ?_
    -- STOP: call cmp.isNaN[int](t9) -> 10
    refine st_o ((op_callq (hb) Try.func114 ⟨rfl, rfl⟩ rfl rfl (fun nx => (.cons (.same (by rfl)) .nil)) (by rintro _ _ _ ⟨rfl, rfl, rfl⟩; exact .same rfl)).ok) rfl ?_
    refine st_p (mva rfl) rfl ?_
    refine al_nil ?_
    refine nm ?_
    refine aw_seq ?_
    refine aw_seq ?_
    refine aw_region ?_
    refine st_p (mv rfl) rfl ?_
    refine al_nil ?_
    refine nm ?_
    -- IF t11
    -- IF t11
    refine aw_no (rfl) ?_
    refine aw_skip ?_
    refine nm ?_
    refine aw_seq ?_
    refine aw_seq ?_
    refine aw_region ?_
    refine st_p (mv rfl) rfl ?_
    refine al_nil ?_
    refine nm ?_
    -- IF t13
    refine aw_no (rfl) ?_
    refine aw_skip ?_
    refine nm ?_
    refine aw_seq ?_
    refine aw_seq ?_
    refine aw_region ?_
    refine st_p (mv rfl) rfl ?_
    refine st_p (mv rfl) rfl ?_
    refine st_p (OpP.conv (op_lt rfl rfl) (yes (by first | assumption | omega))) rfl ?_
    refine al_nil ?_
    refine nm ?_
    -- IF t16
    refine aw_yes (rfl) ?_
    refine aw_seq ?_
    refine aw_region ?_
    refine st_p (mva rfl) rfl ?_
    refine al_nil ?_
    refine nm ?_
    refine aw_ret ?_
    refine rs ?_
    exact ret_v (res1 Try.results97) (.inr ⟨rfl, rfl⟩) ⟨by rw [e]; rfl, rfl, rfl⟩
  · by_cases h2 : a > b
    · have e : cmpI a b = 1 := by unfold cmpI; rw [if_neg h1, if_pos h2]
      refine ac_fn Try.func97 rfl rfl rfl rfl (fun w0 S0 r0 => ?_)
      refine aw_seq ?_
      refine aw_region ?_
      refine st_p (mva rfl) rfl ?_
      refine al_nil ?_
      refine nm ?_
      refine aw_seq ?_
      refine aw_region ?_
      refine st_p (mv rfl) rfl ?_
      -- STOP: call cmp.isNaN[int](t7) -> 8
      refine st_o ((op_callq (ha) Try.func114 ⟨rfl, rfl⟩ rfl rfl (fun nx => (.cons (.same (by rfl)) .nil)) (by rintro _ _ _ ⟨rfl, rfl, rfl⟩; exact .same rfl)).ok) rfl ?_
      refine st_p (mva rfl) rfl ?_
      refine al_nil ?_
      refine nm ?_
      refine aw_seq ?_
      refine aw_region ?_
      refine st_p (mv rfl) rfl ?_
      -- STOP: call cmp.isNaN[int](t9) -> 10
      refine st_o ((op_callq (hb) Try.func114 ⟨rfl, rfl⟩ rfl rfl (fun nx => (.cons (.same (by rfl)) .nil)) (by rintro _ _ _ ⟨rfl, rfl, rfl⟩; exact .same rfl)).ok) rfl ?_
      refine st_p (mva rfl) rfl ?_
      refine al_nil ?_
      refine nm ?_
      refine aw_seq ?_
      refine aw_seq ?_
      refine aw_region ?_
      refine st_p (mv rfl) rfl ?_
      refine al_nil ?_
      refine nm ?_
      -- IF t11
      -- IF t11
      refine aw_no (rfl) ?_
      refine aw_skip ?_
      refine nm ?_
      refine aw_seq ?_
      refine aw_seq ?_
      refine aw_region ?_
      refine st_p (mv rfl) rfl ?_
      refine al_nil ?_
      refine nm ?_
      -- IF t13
      refine aw_no (rfl) ?_
      refine aw_skip ?_
      refine nm ?_
      refine aw_seq ?_
      refine aw_seq ?_
      refine aw_region ?_
      refine st_p (mv rfl) rfl ?_
      refine st_p (mv rfl) rfl ?_
      refine st_p (OpP.conv (op_lt rfl rfl) (no (by first | assumption | omega))) rfl ?_
      refine al_nil ?_
      refine nm ?_
      -- IF t16
      refine aw_no (rfl) ?_
      refine aw_skip ?_
      refine nm ?_
      refine aw_seq ?_
      refine aw_seq ?_
      refine aw_region ?_
      refine st_p (mv rfl) rfl ?_
      refine st_p (mv rfl) rfl ?_
      refine st_p (OpP.conv (op_gt rfl rfl) (yes (by first | assumption | omega))) rfl ?_
      refine al_nil ?_
      refine nm ?_
      -- IF t19
      refine aw_yes (rfl) ?_
      refine aw_seq ?_
      refine aw_region ?_
      refine st_p (mva rfl) rfl ?_
      refine al_nil ?_
      refine nm ?_
      refine aw_ret ?_
      refine rs ?_
      exact ret_v (res1 Try.results97) (.inr ⟨rfl, rfl⟩) ⟨by rw [e]; rfl, rfl, rfl⟩
    · have e : cmpI a b = 0 := by unfold cmpI; rw [if_neg h1, if_neg h2]
      refine ac_fn Try.func97 rfl rfl rfl rfl (fun w0 S0 r0 => ?_)
      refine aw_seq ?_
      refine aw_region ?_
      refine st_p (mva rfl) rfl ?_
      refine al_nil ?_
      refine nm ?_
      refine aw_seq ?_
      refine aw_region ?_
      refine st_p (mv rfl) rfl ?_
      -- STOP: call cmp.isNaN[int](t7) -> 8
      refine st_o ((op_callq (ha) Try.func114 ⟨rfl, rfl⟩ rfl rfl (fun nx => (.cons (.same (by rfl)) .nil)) (by rintro _ _ _ ⟨rfl, rfl, rfl⟩; exact .same rfl)).ok) rfl ?_
      refine st_p (mva rfl) rfl ?_
      refine al_nil ?_
      refine nm ?_
      refine aw_seq ?_
      refine aw_region ?_
      refine st_p (mv rfl) rfl ?_
      -- STOP: call cmp.isNaN[int](t9) -> 10
      refine st_o ((op_callq (hb) Try.func114 ⟨rfl, rfl⟩ rfl rfl (fun nx => (.cons (.same (by rfl)) .nil)) (by rintro _ _ _ ⟨rfl, rfl, rfl⟩; exact .same rfl)).ok) rfl ?_
      refine st_p (mva rfl) rfl ?_
      refine al_nil ?_
      refine nm ?_
      refine aw_seq ?_
      refine aw_seq ?_
      refine aw_region ?_
      refine st_p (mv rfl) rfl ?_
      refine al_nil ?_
      refine nm ?_
      -- IF t11
      -- IF t11
      refine aw_no (rfl) ?_
      refine aw_skip ?_
      refine nm ?_
      refine aw_seq ?_
      refine aw_seq ?_
      refine aw_region ?_
      refine st_p (mv rfl) rfl ?_
      refine al_nil ?_
      refine nm ?_
      -- IF t13
      refine aw_no (rfl) ?_
      refine aw_skip ?_
      refine nm ?_
      refine aw_seq ?_
      refine aw_seq ?_
      refine aw_region ?_
      refine st_p (mv rfl) rfl ?_
      refine st_p (mv rfl) rfl ?_
      refine st_p (OpP.conv (op_lt rfl rfl) (no (by first | assumption | omega))) rfl ?_
      refine al_nil ?_
      refine nm ?_
      -- IF t16
      refine aw_no (rfl) ?_
      refine aw_skip ?_
      refine nm ?_
      refine aw_seq ?_
      refine aw_seq ?_
      refine aw_region ?_
      refine st_p (mv rfl) rfl ?_
      refine st_p (mv rfl) rfl ?_
      refine st_p (OpP.conv (op_gt rfl rfl) (no (by first | assumption | omega))) rfl ?_
      refine al_nil ?_
      refine nm ?_
      -- IF t19
      refine aw_no (rfl) ?_
      refine aw_skip ?_
      refine nm ?_
      refine aw_seq ?_
      refine aw_region ?_
      refine st_p (mva rfl) rfl ?_
      refine al_nil ?_
      refine nm ?_
      refine aw_ret ?_
      exact ret_v (res1 Try.results97) (.inr ⟨rfl, rfl⟩) ⟨by rw [e]; rfl, rfl, rfl⟩

theorem or_int (a b : Int) : AC Try.prog 96 [.sl 1 [.int .i64 a, .int .i64 b]] [] 0 false (fun v h nx => v = .int .i64 (orI a b) ∧ h = [] ∧ nx = 0) := by
  refine ac_fn Try.func96 rfl rfl rfl rfl (fun w0 S0 r0 => ?_)
  refine aw_seq ?_
  refine aw_region ?_
  refine st_p (mva rfl) rfl ?_
  refine al_nil ?_
  refine nm ?_
  refine aw_seq ?_
  refine aw_region ?_
  refine st_p (mva rfl) rfl ?_
  refine al_nil ?_
  refine nm ?_
  refine aw_seq ?_
  refine aw_seq ?_
  refine aw_region ?_
  refine st_p (mv rfl) rfl ?_
  refine st_p (op_len Try.underlying35 rfl) rfl ?_
  refine st_p (mv rfl) rfl ?_
  refine al_nil ?_
  refine nm ?_
  refine aw_block ?_
  -- LOOP
  refine aw_loop (fun i : {i : Nat // i ≤ 2 ∧ (1 ≤ i → a = 0) ∧ (2 ≤ i → b = 0)} => ⟨[(3, .int .i64 0), (6, .sl 1 [.int .i64 a, .int .i64 b]), (7, .int .i64 2), (8, .int .i64 i.1)], [], 0⟩) (fun i => 2 - i.1) ⟨0, Nat.zero_le _, fun h => absurd h (by omega), fun h => absurd h (by omega)⟩ ?_ ?_
  · exact le_to [] rfl rfl rfl rfl rfl ⟨rfl, rfl, rfl, rfl, trivial⟩ trivial
  · rintro ⟨i, hi, h1, h2⟩
    dsimp only
    rcases i with _ | _ | i
    · by_cases ha : a = 0
      · subst ha
        refine aw_seq ?_
        refine aw_region ?_
        refine st_p (OpP.conv (op_lt rfl rfl) (yes (by first | assumption | omega))) rfl ?_
        refine al_nil ?_
        refine nm ?_
        refine aw_seq ?_
        -- IF t9
        refine aw_yes (rfl) ?_
        refine aw_skip ?_
        refine nm ?_
        refine aw_seq ?_
        refine aw_block ?_
        refine aw_seq ?_
        refine aw_region ?_
        refine st_p (op_indexAddrL Try.underlying35 z3 rfl rfl (by omega) (by first | assumption | rfl)) rfl ?_
        refine st_p (op_load1L Try.underlying3 rfl rfl rfl) rfl ?_
        refine st_p (mva rfl) rfl ?_
        refine al_nil ?_
        refine nm ?_
        refine aw_seq ?_
        refine aw_region ?_
        refine st_p (mv rfl) rfl ?_
        refine st_p (mv rfl) rfl ?_
        refine st_p (OpP.conv (op_ne rfl rfl) (no (by first | assumption | omega))) rfl ?_
        refine al_nil ?_
        refine nm ?_
        -- IF t14
        refine aw_no (rfl) ?_
        refine aw_skip ?_
        refine nmb ?_
        refine nm ?_
        refine aw_region ?_
        refine st_p (op_addi rfl rfl (by omega)) rfl ?_
        refine st_p (mv rfl) rfl ?_
        refine al_nil ?_
        refine nm ?_
        exact ⟨⟨1, by omega, fun _ => rfl, fun h => absurd h (by omega)⟩, by dsimp only; omega, le_to [] rfl rfl rfl rfl rfl ⟨rfl, rfl, rfl, rfl, trivial⟩ trivial⟩
      · skip
        refine aw_seq ?_
        refine aw_region ?_
        refine st_p (OpP.conv (op_lt rfl rfl) (yes (by first | assumption | omega))) rfl ?_
        refine al_nil ?_
        refine nm ?_
        refine aw_seq ?_
        -- IF t9
        refine aw_yes (rfl) ?_
        refine aw_skip ?_
        refine nm ?_
        refine aw_seq ?_
        refine aw_block ?_
        refine aw_seq ?_
        refine aw_region ?_
        refine st_p (op_indexAddrL Try.underlying35 z3 rfl rfl (by omega) (by first | assumption | rfl)) rfl ?_
        refine st_p (op_load1L Try.underlying3 rfl rfl rfl) rfl ?_
        refine st_p (mva rfl) rfl ?_
        refine al_nil ?_
        refine nm ?_
        refine aw_seq ?_
        refine aw_region ?_
        refine st_p (mv rfl) rfl ?_
        refine st_p (mv rfl) rfl ?_
        refine st_p (OpP.conv (op_ne rfl rfl) (yes (by first | assumption | omega))) rfl ?_
        refine al_nil ?_
        refine nm ?_
        -- IF t14
        refine aw_yes (rfl) ?_
        refine aw_seq ?_
        refine aw_region ?_
        refine st_p (mv rfl) rfl ?_
        refine st_p (mva rfl) rfl ?_
        refine al_nil ?_
        refine nm ?_
        refine aw_ret ?_
        refine rb ?_
        refine rs ?_
        refine rs ?_
        refine rb ?_
        refine rs ?_
        exact ret_a ⟨[(2, .int .i64 a)], [], 0⟩ (le_to [] rfl rfl rfl rfl rfl ⟨rfl, trivial⟩ trivial) (res1 Try.results96) (.inr ⟨rfl, rfl⟩) ⟨by unfold orI; rw [if_pos ha]; rfl, rfl, rfl⟩
    · have ha := h1 (by omega)
      subst ha
      by_cases hb : b = 0
      · subst hb
        refine aw_seq ?_
        refine aw_region ?_
        refine st_p (OpP.conv (op_lt rfl rfl) (yes (by first | assumption | omega))) rfl ?_
        refine al_nil ?_
        refine nm ?_
        refine aw_seq ?_
        -- IF t9
        refine aw_yes (rfl) ?_
        refine aw_skip ?_
        refine nm ?_
        refine aw_seq ?_
        refine aw_block ?_
        refine aw_seq ?_
        refine aw_region ?_
        refine st_p (op_indexAddrL Try.underlying35 z3 rfl rfl (by omega) (by first | assumption | rfl)) rfl ?_
        refine st_p (op_load1L Try.underlying3 rfl rfl rfl) rfl ?_
        refine st_p (mva rfl) rfl ?_
        refine al_nil ?_
        refine nm ?_
        refine aw_seq ?_
        refine aw_region ?_
        refine st_p (mv rfl) rfl ?_
        refine st_p (mv rfl) rfl ?_
        refine st_p (OpP.conv (op_ne rfl rfl) (no (by first | assumption | omega))) rfl ?_
        refine al_nil ?_
        refine nm ?_
        -- IF t14
        refine aw_no (rfl) ?_
        refine aw_skip ?_
        refine nmb ?_
        refine nm ?_
        refine aw_region ?_
        refine st_p (op_addi rfl rfl (by omega)) rfl ?_
        refine st_p (mv rfl) rfl ?_
        refine al_nil ?_
        refine nm ?_
        exact ⟨⟨2, by omega, fun _ => rfl, fun _ => rfl⟩, by dsimp only; omega, le_to [] rfl rfl rfl rfl rfl ⟨rfl, rfl, rfl, rfl, trivial⟩ trivial⟩
      · skip
        refine aw_seq ?_
        refine aw_region ?_
        refine st_p (OpP.conv (op_lt rfl rfl) (yes (by first | assumption | omega))) rfl ?_
        refine al_nil ?_
        refine nm ?_
        refine aw_seq ?_
        -- IF t9
        refine aw_yes (rfl) ?_
        refine aw_skip ?_
        refine nm ?_
        refine aw_seq ?_
        refine aw_block ?_
        refine aw_seq ?_
        refine aw_region ?_
        refine st_p (op_indexAddrL Try.underlying35 z3 rfl rfl (by omega) (by first | assumption | rfl)) rfl ?_
        refine st_p (op_load1L Try.underlying3 rfl rfl rfl) rfl ?_
        refine st_p (mva rfl) rfl ?_
        refine al_nil ?_
        refine nm ?_
        refine aw_seq ?_
        refine aw_region ?_
        refine st_p (mv rfl) rfl ?_
        refine st_p (mv rfl) rfl ?_
        refine st_p (OpP.conv (op_ne rfl rfl) (yes (by first | assumption | omega))) rfl ?_
        refine al_nil ?_
        refine nm ?_
        -- IF t14
        refine aw_yes (rfl) ?_
        refine aw_seq ?_
        refine aw_region ?_
        refine st_p (mv rfl) rfl ?_
        refine st_p (mva rfl) rfl ?_
        refine al_nil ?_
        refine nm ?_
        refine aw_ret ?_
        refine rb ?_
        refine rs ?_
        refine rs ?_
        refine rb ?_
        refine rs ?_
        exact ret_a ⟨[(2, .int .i64 b)], [], 0⟩ (le_to [] rfl rfl rfl rfl rfl ⟨rfl, trivial⟩ trivial) (res1 Try.results96) (.inr ⟨rfl, rfl⟩) ⟨rfl, rfl, rfl⟩
    · have hi0 : i = 0 := by omega
      subst hi0
      have ha := h1 (by omega)
      have hb := h2 (by omega)
      subst ha hb
      refine aw_seq ?_
      refine aw_region ?_
      refine st_p (OpP.conv (op_lt rfl rfl) (no (by first | assumption | omega))) rfl ?_
      refine al_nil ?_
      refine nm ?_
      refine aw_seq ?_
      -- IF t9
      refine aw_no (rfl) ?_
      refine aw_exit ?_
      refine xs ?_
      refine xs ?_
      refine xb ?_
      refine nm ?_
      refine aw_seq ?_
      refine aw_region ?_
      refine st_p (mv rfl) rfl ?_
      refine st_p (mva rfl) rfl ?_
      refine al_nil ?_
      refine nm ?_
      refine aw_ret ?_
      exact ret_a ⟨[(2, .int .i64 0)], [], 0⟩ (le_to [] rfl rfl rfl rfl rfl ⟨rfl, trivial⟩ trivial) (res1 Try.results96) (.inr ⟨rfl, rfl⟩) ⟨rfl, rfl, rfl⟩

theorem find_cmp (x y : NT) : AC Try.prog 95 [ntA x, ntA y] [] 0 false (fun v h nx => v = .int .i64 (cmpN x y) ∧ h = [] ∧ nx = 0) := by
  have h1 := compare_int x.pos y.pos
  have h2 := compare_int x.shard y.shard
  have h3 := or_int (cmpI x.pos y.pos) (cmpI x.shard y.shard)
  dsimp only [ntA]
  refine ac_fn Try.func95 rfl rfl rfl rfl (fun w0 S0 r0 => ?_)
  refine aw_seq ?_
  refine aw_region ?_
  refine st_o (bx rfl rfl) rfl ?_
  refine st_o (bx rfl rfl) rfl ?_
  refine st_p (mva rfl) rfl ?_
  refine al_nil ?_
  refine nm ?_
  refine aw_seq ?_
  refine dr_go ?_
  refine dr_f 0 0 [2] rfl (fun H => op_fieldAddr Try.underlying49 rfl z3 (by decide) rfl) ?_
  refine dr_q 0 0 [5] rfl (op_load1 Try.underlying3 rfl rfl rfl rfl rfl) ?_
  refine dr_f 0 0 [3] rfl (fun H => op_fieldAddr Try.underlying49 rfl z3 (by decide) rfl) ?_
  refine dr_q 0 0 [7] rfl (op_load1 Try.underlying3 rfl rfl rfl rfl rfl) ?_
  -- STOP: call cmp.Compare[int](t6, t8) -> 9
  refine dr_fq 0 0 [6, 8] rfl (fun H => op_callq (h1) Try.func97 ⟨rfl, rfl⟩ rfl rfl (fun nx => (.cons (.same (by rfl)) (.cons (.same (by rfl)) .nil))) (by rintro _ _ _ ⟨rfl, rfl, rfl⟩; exact .same rfl)) ?_
  refine dr_f 0 0 [2] rfl (fun H => op_fieldAddr Try.underlying49 rfl z3 (by decide) rfl) ?_
  refine dr_q 0 0 [10] rfl (op_load1 Try.underlying3 rfl rfl rfl rfl rfl) ?_
  refine dr_f 0 0 [3] rfl (fun H => op_fieldAddr Try.underlying49 rfl z3 (by decide) rfl) ?_
  refine dr_q 0 0 [12] rfl (op_load1 Try.underlying3 rfl rfl rfl rfl rfl) ?_
  -- STOP: call cmp.Compare[int](t11, t13) -> 14
  refine dr_fq 0 0 [11, 13] rfl (fun H => op_callq (h2) Try.func97 ⟨rfl, rfl⟩ rfl rfl (fun nx => (.cons (.same (by rfl)) (.cons (.same (by rfl)) .nil))) (by rintro _ _ _ ⟨rfl, rfl, rfl⟩; exact .same rfl)) ?_
  refine dr_fq 0 0 [9, 14] rfl (fun H => op_bslF Try.underlying35 i3 o3 (by decide) rfl rfl rfl (by first | rfl | simp [AV.plain, plains, bl_plain]) (by decide)) ?_
  -- STOP: call cmp.Or[int](t15) -> 16
  refine dr_fq 0 0 [15] rfl (fun H => op_callq (h3) Try.func96 ⟨rfl, rfl⟩ rfl rfl (fun nx => (.cons (.same (by rfl)) .nil)) (by rintro _ _ _ ⟨rfl, rfl, rfl⟩; exact .same rfl)) ?_
  refine dr_f 0 0 [16] rfl (fun H => mva rfl) ?_
  refine dr_end [] (by kernel_rfl) (by kernel_rfl) (by kernel_rfl) (by kernel_rfl) trivial ?_
  refine nm ?_
  refine aw_ret ?_
  exact ret_a ⟨[(4, .int .i64 (cmpN x y))], [], 0⟩ (le_to [] rfl rfl rfl rfl rfl ⟨rfl, trivial⟩ trivial) (res1 Try.results95) (.inr ⟨rfl, rfl⟩) ⟨rfl, rfl, rfl⟩

theorem search_notes (l : List NT) (x : NT) (hl : l.length ≤ 100000) (hr : RisN l) :
    AC Try.prog 94 [.sl 3 (nts l), ntA x, .fn (.func 95) [] []] [] 0 false
      (fun v h nx => v = .tup [.int .i64 (cntN l x.pos x.shard), .bool (hasN l x.pos x.shard)] ∧ h = [] ∧ nx = 0) := by
  have hnl := nts_len l
  dsimp only [ntA]
  refine ac_fn Try.func94 rfl rfl rfl rfl (fun w0 S0 r0 => ?_)
  refine aw_seq ?_
  refine aw_region ?_
  refine st_o (bx rfl rfl) rfl ?_
  refine st_p (mva rfl) rfl ?_
  refine st_p (mva rfl) rfl ?_
  refine al_nil ?_
  refine nm ?_
  refine aw_seq ?_
  refine aw_region ?_
  refine st_p (mv rfl) rfl ?_
  refine st_p (op_len Try.underlying102 rfl) rfl ?_
  refine st_p (mva rfl) rfl ?_
  refine al_nil ?_
  refine nm ?_
  refine aw_seq ?_
  refine aw_region ?_
  refine st_p (mv rfl) rfl ?_
  refine st_p (mva rfl) rfl ?_
  refine st_p (mva rfl) rfl ?_
  refine al_nil ?_
  refine nm ?_
  refine aw_seq ?_
  refine aw_block ?_
  -- LOOP
  refine aw_loop (fun p : {p : Nat × Nat // p.1 ≤ cntN l x.pos x.shard ∧ cntN l x.pos x.shard ≤ p.2 ∧ p.2 ≤ l.length} => ⟨[(0, .sl 3 (nts l)), (2, .fn (.func 95) [] []), (4, .ptr 0 0 0), (8, .int .i64 l.length), (9, .int .i64 p.1.1), (10, .int .i64 p.1.2)], [(0, .cells 3 [.agg [.int .i64 x.pos, .int .i64 x.shard, .int .i64 x.bit]])], 1⟩) (fun p => p.1.2 - p.1.1) ⟨(0, l.length), Nat.zero_le _, cntN_le _ _ _, Nat.le_refl _⟩ ?_ ?_
  · exact le_to [] rfl rfl rfl rfl rfl ⟨rfl, rfl, rfl, congrArg (fun k : Nat => AV.int .i64 (k : Int)) hnl, rfl, congrArg (fun k : Nat => AV.int .i64 (k : Int)) hnl, trivial⟩ ⟨rfl, trivial⟩
  · rintro ⟨⟨i, j⟩, h1, h2, h3⟩
    dsimp only at h1 h2 h3 ⊢
    by_cases hij : i < j
    · obtain ⟨k, hk⟩ : ∃ k, k = (i + j) / 2 := ⟨_, rfl⟩
      have hmid : IntKind.i64.wrap (IntKind.u64.wrap ((i : Int) + (j : Int)) / 2 ^ Int.toNat 1) = ((k : Nat) : Int) := by
        have e : IntKind.u64.wrap ((i : Int) + (j : Int)) = (i : Int) + (j : Int) := by
          simp [IntKind.wrap, IntKind.signed, IntKind.bits]
          omega
        rw [e, show (2 : Int) ^ Int.toNat 1 = 2 from rfl, Abs.wrap_i64 (by omega) (by omega)]
        omega
      have hkl : k < l.length := by omega
      obtain ⟨y, hy⟩ : ∃ y, l[k]? = some y := ⟨_, List.getElem?_eq_getElem hkl⟩
      have hxb : (nts l)[(IntKind.i64.wrap (IntKind.u64.wrap ((i : Int) + (j : Int)) / 2 ^ Int.toNat 1)).toNat]? = some (.agg [.int .i64 y.pos, .int .i64 y.shard, .int .i64 y.bit]) := by
        rw [hmid, Int.toNat_natCast]; exact nts_get hy
      have hc := find_cmp y x
      have hcnt := cntN_iff (p := x.pos) (s := x.shard) hr k y hy
      rw [← cmpN_lt, decide_eq_true_eq] at hcnt
      dsimp only [ntA] at hc
      by_cases hlt : cmpN y x < 0
      · have hck := hcnt.1 hlt
        refine aw_seq ?_
        refine aw_seq ?_
        refine aw_region ?_
        refine st_p (mv rfl) rfl ?_
        refine st_p (mv rfl) rfl ?_
        refine st_p (OpP.conv (op_lt rfl rfl) (yes (by first | assumption | omega))) rfl ?_
        refine al_nil ?_
        refine nm ?_
        -- IF t17
        refine aw_yes (rfl) ?_
        refine aw_skip ?_
        refine nm ?_
        refine aw_block ?_
        refine aw_seq ?_
        refine aw_region ?_
        refine st_p (mv rfl) rfl ?_
        refine st_p (mv rfl) rfl ?_
        refine st_p (op_addi rfl rfl (by omega)) rfl ?_
        refine st_p (op_conv (by rw [Try.underlying3]; rfl) Try.underlying116 rfl) rfl ?_
        refine st_p (op_shr rfl rfl (by decide)) rfl ?_
        refine st_p (op_conv (by rw [Try.underlying116]; rfl) Try.underlying3 rfl) rfl ?_
        refine st_p (mva rfl) rfl ?_
        refine al_nil ?_
        refine nm ?_
        refine aw_seq ?_
        refine dr_go ?_
        refine dr_f 0 0 [2] rfl (fun H => mv rfl) ?_
        refine dr_f 0 0 [0] rfl (fun H => mv rfl) ?_
        refine dr_f 0 0 [11] rfl (fun H => mv rfl) ?_
        refine dr_q 0 0 [25, 26] rfl (op_indexAddrL Try.underlying102 z49 rfl rfl (by omega) (by first | assumption | rfl)) ?_
        refine dr_q 0 0 [27] rfl (op_loadAL Try.underlying49 rfl z49 rfl rfl) ?_
        refine dr_q 0 0 [4] rfl (op_loadA Try.underlying49 rfl z49 rfl rfl rfl rfl) ?_
        -- STOP: call t24(t28, t29) -> 30
        refine dr_fq 0 0 [24, 28, 29] rfl (fun H => op_callq (hc) Try.func95 ⟨rfl, rfl⟩ rfl rfl (fun nx => (.cons (.same (by rfl)) (.cons (.same (by rfl)) .nil))) (by rintro _ _ _ ⟨rfl, rfl, rfl⟩; exact .same rfl)) ?_
        refine dr_f 0 0 [30] rfl (fun H => OpP.conv (op_lt rfl rfl) (yes (by first | assumption | omega))) ?_
        refine dr_end [] (by kernel_rfl) (by kernel_rfl) (by kernel_rfl) (by kernel_rfl) trivial ?_
        refine nm ?_
        -- IF t31
        refine aw_yes (rfl) ?_
        refine aw_region ?_
        refine st_p (mv rfl) rfl ?_
        refine st_p (op_addi rfl rfl (by omega)) rfl ?_
        refine st_p (mva rfl) rfl ?_
        refine al_nil ?_
        refine nmb ?_
        refine nm ?_
        exact ⟨⟨(k + 1, j), by dsimp only; omega⟩, by dsimp only; omega, le_to [] rfl rfl rfl rfl rfl ⟨rfl, rfl, rfl, rfl, congrArg (AV.int .i64) (congrArg (· + 1) hmid), rfl, trivial⟩ ⟨rfl, trivial⟩⟩
      · have hck : ¬ k < cntN l x.pos x.shard := fun h => hlt (hcnt.2 h)
        refine aw_seq ?_
        refine aw_seq ?_
        refine aw_region ?_
        refine st_p (mv rfl) rfl ?_
        refine st_p (mv rfl) rfl ?_
        refine st_p (OpP.conv (op_lt rfl rfl) (yes (by first | assumption | omega))) rfl ?_
        refine al_nil ?_
        refine nm ?_
        -- IF t17
        refine aw_yes (rfl) ?_
        refine aw_skip ?_
        refine nm ?_
        refine aw_block ?_
        refine aw_seq ?_
        refine aw_region ?_
        refine st_p (mv rfl) rfl ?_
        refine st_p (mv rfl) rfl ?_
        refine st_p (op_addi rfl rfl (by omega)) rfl ?_
        refine st_p (op_conv (by rw [Try.underlying3]; rfl) Try.underlying116 rfl) rfl ?_
        refine st_p (op_shr rfl rfl (by decide)) rfl ?_
        refine st_p (op_conv (by rw [Try.underlying116]; rfl) Try.underlying3 rfl) rfl ?_
        refine st_p (mva rfl) rfl ?_
        refine al_nil ?_
        refine nm ?_
        refine aw_seq ?_
        refine dr_go ?_
        refine dr_f 0 0 [2] rfl (fun H => mv rfl) ?_
        refine dr_f 0 0 [0] rfl (fun H => mv rfl) ?_
        refine dr_f 0 0 [11] rfl (fun H => mv rfl) ?_
        refine dr_q 0 0 [25, 26] rfl (op_indexAddrL Try.underlying102 z49 rfl rfl (by omega) (by first | assumption | rfl)) ?_
        refine dr_q 0 0 [27] rfl (op_loadAL Try.underlying49 rfl z49 rfl rfl) ?_
        refine dr_q 0 0 [4] rfl (op_loadA Try.underlying49 rfl z49 rfl rfl rfl rfl) ?_
        -- STOP: call t24(t28, t29) -> 30
        refine dr_fq 0 0 [24, 28, 29] rfl (fun H => op_callq (hc) Try.func95 ⟨rfl, rfl⟩ rfl rfl (fun nx => (.cons (.same (by rfl)) (.cons (.same (by rfl)) .nil))) (by rintro _ _ _ ⟨rfl, rfl, rfl⟩; exact .same rfl)) ?_
        refine dr_f 0 0 [30] rfl (fun H => OpP.conv (op_lt rfl rfl) (no (by first | assumption | omega))) ?_
        refine dr_end [] (by kernel_rfl) (by kernel_rfl) (by kernel_rfl) (by kernel_rfl) trivial ?_
        refine nm ?_
        -- IF t31
        refine aw_no (rfl) ?_
        refine aw_region ?_
        refine st_p (mv rfl) rfl ?_
        refine st_p (mva rfl) rfl ?_
        refine al_nil ?_
        refine nmb ?_
        refine nm ?_
        exact ⟨⟨(i, k), by dsimp only; omega⟩, by dsimp only; omega, le_to [] rfl rfl rfl rfl rfl ⟨rfl, rfl, rfl, rfl, rfl, congrArg (AV.int .i64) hmid, trivial⟩ ⟨rfl, trivial⟩⟩
    · have hi : i = cntN l x.pos x.shard := by omega
      have hq := hasN_at (p := x.pos) (s := x.shard) hr
      rw [← hi] at hq ⊢
      by_cases hil : i < l.length
      · obtain ⟨y, hy⟩ : ∃ y, l[i]? = some y := ⟨_, List.getElem?_eq_getElem hil⟩
        have hxb : (nts l)[((i : Nat) : Int).toNat]? = some (.agg [.int .i64 y.pos, .int .i64 y.shard, .int .i64 y.bit]) := by
          rw [Int.toNat_natCast]; exact nts_get hy
        have hc := find_cmp y x
        have hbit : hasN l x.pos x.shard = decide (cmpN y x = 0) := by
          rw [cmpN_eq]
          cases h : eqN y x.pos x.shard with
          | true => exact hq.2 ⟨y, hy, h⟩
          | false =>
            rw [Bool.eq_false_iff]
            intro hh
            obtain ⟨z, hz, he⟩ := hq.1 hh
            rw [hy] at hz
            obtain rfl := Option.some.inj hz
            rw [h] at he; cases he
        rw [hbit]
        dsimp only [ntA] at hc
        refine aw_seq ?_
        refine aw_seq ?_
        refine aw_region ?_
        refine st_p (mv rfl) rfl ?_
        refine st_p (mv rfl) rfl ?_
        refine st_p (OpP.conv (op_lt rfl rfl) (no (by first | assumption | omega))) rfl ?_
        refine al_nil ?_
        refine nm ?_
        -- IF t17
        refine aw_no (rfl) ?_
        refine aw_exit ?_
        refine xs ?_
        refine xs ?_
        refine xb ?_
        refine nm ?_
        refine aw_seq ?_
        refine dr_go ?_
        refine dr_f 0 0 [9] rfl (fun H => mv rfl) ?_
        refine dr_f 0 0 [9] rfl (fun H => mv rfl) ?_
        refine dr_f 0 0 [8] rfl (fun H => mv rfl) ?_
        refine dr_f 0 0 [36, 37] rfl (fun H => OpP.conv (op_lt rfl rfl) (yes (by first | assumption | omega))) ?_
        refine dr_f 0 0 [38] rfl (fun H => mv rfl) ?_
        refine dr_gf 0 0 [2] rfl (fun H => mv rfl) 0 rfl rfl ?_
        refine dr_gf 0 0 [0] rfl (fun H => mv rfl) 1 rfl rfl ?_
        refine dr_gf 0 0 [9] rfl (fun H => mv rfl) 2 rfl rfl ?_
        refine dr_gq 0 0 [41, 42] rfl (op_indexAddrL Try.underlying102 z49 rfl rfl (by omega) (by first | assumption | rfl)) 3 rfl rfl ?_
        refine dr_gq 0 0 [43] rfl (op_loadAL Try.underlying49 rfl z49 rfl rfl) 4 rfl rfl ?_
        refine dr_gq 0 0 [4] rfl (op_loadA Try.underlying49 rfl z49 rfl rfl rfl rfl) 5 rfl rfl ?_
        -- STOP: call t40(t44, t45) -> 46
        refine dr_gfq 0 0 [40, 44, 45] rfl (fun H => op_callq (hc) Try.func95 ⟨rfl, rfl⟩ rfl rfl (fun nx => (.cons (.same (by rfl)) (.cons (.same (by rfl)) .nil))) (by rintro _ _ _ ⟨rfl, rfl, rfl⟩; exact .same rfl)) 6 rfl rfl ?_
        refine dr_gf 0 0 [46] rfl (fun H => op_eq rfl rfl) 7 rfl rfl ?_
        refine dr_f 0 0 [39, 47] rfl (fun H => pkT rfl rfl) ?_
        refine dr_f 0 0 [35] rfl (fun H => mva rfl) ?_
        refine dr_f 0 0 [48] rfl (fun H => mva rfl) ?_
        refine dr_end [] (by kernel_rfl) (by kernel_rfl) (by kernel_rfl) (by kernel_rfl) trivial ?_
        refine nm ?_
        refine aw_ret ?_
        exact ret_a ⟨[(6, .int .i64 i), (7, .bool (decide (cmpN y x = 0)))], [], 0⟩ (le_to [] rfl rfl rfl rfl rfl ⟨rfl, rfl, trivial⟩ trivial) (res2 Try.results94) (.inr ⟨rfl, rfl⟩) ⟨rfl, rfl, rfl⟩
      · have hbit : hasN l x.pos x.shard = false := by
          rw [Bool.eq_false_iff]
          intro hh
          obtain ⟨z, hz, he⟩ := hq.1 hh
          have := (List.getElem?_eq_some_iff.1 hz).1
          omega
        rw [hbit]
        refine aw_seq ?_
        refine aw_seq ?_
        refine aw_region ?_
        refine st_p (mv rfl) rfl ?_
        refine st_p (mv rfl) rfl ?_
        refine st_p (OpP.conv (op_lt rfl rfl) (no (by first | assumption | omega))) rfl ?_
        refine al_nil ?_
        refine nm ?_
        -- IF t17
        refine aw_no (rfl) ?_
        refine aw_exit ?_
        refine xs ?_
        refine xs ?_
        refine xb ?_
        refine nm ?_
        refine aw_seq ?_
        refine dr_go ?_
        refine dr_f 0 0 [9] rfl (fun H => mv rfl) ?_
        refine dr_f 0 0 [9] rfl (fun H => mv rfl) ?_
        refine dr_f 0 0 [8] rfl (fun H => mv rfl) ?_
        refine dr_f 0 0 [36, 37] rfl (fun H => OpP.conv (op_lt rfl rfl) (no (by first | assumption | omega))) ?_
        refine dr_f 0 0 [38] rfl (fun H => mv rfl) ?_
        refine dr_s 0 0 0 rfl rfl rfl ?_
        refine dr_s 0 0 1 rfl rfl rfl ?_
        refine dr_s 0 0 2 rfl rfl rfl ?_
        refine dr_s 0 0 3 rfl rfl rfl ?_
        refine dr_s 0 0 4 rfl rfl rfl ?_
        refine dr_s 0 0 5 rfl rfl rfl ?_
        -- STOP: call t40(t44, t45) -> 46
        refine dr_s 0 0 6 rfl rfl rfl ?_
        refine dr_s 0 0 7 rfl rfl rfl ?_
        refine dr_f 0 0 [39, 47] rfl (fun H => pkF rfl rfl) ?_
        refine dr_f 0 0 [35] rfl (fun H => mva rfl) ?_
        refine dr_f 0 0 [48] rfl (fun H => mva rfl) ?_
        refine dr_end [] (by kernel_rfl) (by kernel_rfl) (by kernel_rfl) (by kernel_rfl) trivial ?_
        refine nm ?_
        refine aw_ret ?_
        exact ret_a ⟨[(6, .int .i64 i), (7, .bool false)], [], 0⟩ (le_to [] rfl rfl rfl rfl rfl ⟨rfl, rfl, trivial⟩ trivial) (res2 Try.results94) (.inr ⟨rfl, rfl⟩) ⟨rfl, rfl, rfl⟩

end Go.Proofs.Ytpggknkhldecaaa.Abs
end
section
/-
  A nil row within a variable, or handed over, as an empty row that is read alone. It holds of any program.
-/
namespace Go.Proofs.Ytpggknkhldecaaa.Abs

section
variable {P : Program} {c : Ctx} {n : Nat} {Q : Exit → St → Prop}

/-- The same of what is handed over. -/
theorem AC.args {P : Program} {f : FuncId} {aa bs : List AV} {h : Heap} {nx : Nat} {al : Bool} {Q : AV → Heap → Nat → Prop} (hl : aa.length = bs.length)
    (hv : ∀ S w ρ v, ∀ (i : Nat) (x y : AV), aa[i]? = some x → bs[i]? = some y → VR S w ρ x v → VR S w ρ y v) (k : AC P f bs h nx al Q) : AC P f aa h nx al Q := fun ρ S w vals h1 h2 h3 =>
  k ρ S w vals h1 h2 ⟨hl.symm.trans h3.1, fun i y u hy hu => by
    have hi : i < aa.length := by rw [hl]; exact (List.getElem?_eq_some_iff.1 hy).1
    exact hv _ _ _ _ i _ y (List.getElem?_eq_getElem hi) hy (h3.2 i _ u (List.getElem?_eq_getElem hi) hu)⟩
theorem vr_nils {S : Nat → Prop} {w : World} {ρ : Rho} {v : Value} (sz : Nat) (h : VR S w ρ .nils v) : VR S w ρ (.sl sz []) v := by cases h; exact .sl0
theorem AC.nil0 {P : Program} {f : FuncId} {bs : List AV} {h : Heap} {nx : Nat} {al : Bool} {Q : AV → Heap → Nat → Prop} (sz : Nat) (k : AC P f (.sl sz [] :: bs) h nx al Q) : AC P f (.nils :: bs) h nx al Q :=
  AC.args (aa := .nils :: bs) (bs := .sl sz [] :: bs) rfl (fun S w ρ v i x y hx hy hv => by
    cases i with
    | zero => obtain rfl := Option.some.inj hx; obtain rfl := Option.some.inj hy; exact vr_nils sz hv
    | succ i => obtain rfl := Option.some.inj (hx.symm.trans hy); exact hv) k

end

end Go.Proofs.Ytpggknkhldecaaa.Abs
end
section
/-
  Notes: where one is, what is said, and one more.
-/
namespace Go.Proofs.Ytpggknkhldecaaa.Abs

theorem find_notes (l : List NT) (p s : Int) (hl : l.length ≤ 100000) (hr : RisN l) :
    AC Try.prog 72 [.sl 3 (nts l), .int .i64 p, .int .i64 s] [] 0 false (fun v h nx => v = .tup [.int .i64 (cntN l p s), .bool (hasN l p s)] ∧ h = [] ∧ nx = 0) := by
  have hs := search_notes l ⟨p, s, 0⟩ hl hr
  dsimp only [ntA] at hs
  refine ac_fn Try.func72 rfl rfl rfl rfl (fun w0 S0 r0 => ?_)
  refine aw_seq ?_
  refine aw_region ?_
  refine st_p (mva rfl) rfl ?_
  refine st_p (mva rfl) rfl ?_
  refine al_nil ?_
  refine nm ?_
  refine aw_seq ?_
  refine aw_region ?_
  refine st_p (mv rfl) rfl ?_
  refine st_p (mv rfl) rfl ?_
  refine st_p (mv rfl) rfl ?_
  refine st_p (op_build Try.underlying49 a49 rfl rfl (by intro f hf; simp only [List.mem_cons, List.not_mem_nil, or_false] at hf; rcases hf with rfl | rfl | rfl <;> exact ⟨_, by first | exact z3⟩) (pcons rfl rfl z3 rfl (pcons rfl rfl z3 rfl .nil)) rfl) rfl ?_
  -- STOP: call slices.BinarySearchFunc[diwan/bits.notes,diwan/bits.Note,diwan/bits.Note](t8, t11, ('app', 'Operand.func', [95])) -> 12
  refine st_o ((op_callq (hs) Try.func94 ⟨rfl, rfl⟩ rfl rfl (fun nx => (.cons (.same (by rfl)) (.cons (.same (by rfl)) (.cons (.same (by rfl)) .nil)))) (by rintro _ _ _ ⟨rfl, rfl, rfl⟩; exact .same rfl)).ok) rfl ?_
  refine st_p (op_extract rfl rfl) rfl ?_
  refine st_p (op_extract rfl rfl) rfl ?_
  refine st_p (mva rfl) rfl ?_
  refine st_p (mva rfl) rfl ?_
  refine al_nil ?_
  refine nm ?_
  refine aw_ret ?_
  exact ret_a ⟨[(6, .int .i64 (cntN l p s)), (7, .bool (hasN l p s))], [], 0⟩ (le_to [] rfl rfl rfl rfl rfl ⟨rfl, rfl, trivial⟩ trivial) (res2 Try.results72) (.inr ⟨rfl, rfl⟩) ⟨rfl, rfl, rfl⟩

theorem bits_Of (l : List NT) (p s : Int) (hl : l.length ≤ 100000) (hr : RisN l) :
    AC Try.prog 29 [.sl 3 (nts l), .int .i64 p, .int .i64 s] [] 0 false (fun v h nx => v = .int .i64 (ofN l p s) ∧ h = [] ∧ nx = 0) := by
  have hf := find_notes l p s hl hr
  have hq := hasN_at (p := p) (s := s) hr
  have hnl := nts_len l
  cases hb : hasN l p s with
  | true =>
    obtain ⟨x, hx, he⟩ := hq.1 hb
    have ho := ofN_at hr hx he
    have hlt := (List.getElem?_eq_some_iff.1 hx).1
    have hxb : (nts l)[((cntN l p s : Nat) : Int).toNat]? = some (.agg [.int .i64 x.pos, .int .i64 x.shard, .int .i64 x.bit]) := by rw [Int.toNat_natCast]; exact nts_get hx
    rw [hb] at hf
    rw [ho]
    generalize cntN l p s = k at hf hxb hlt
    refine ac_fn Try.func29 rfl rfl rfl rfl (fun w0 S0 r0 => ?_)
    refine aw_seq ?_
    refine aw_region ?_
    refine st_p (mva rfl) rfl ?_
    refine al_nil ?_
    refine nm ?_
    refine aw_seq ?_
    refine aw_region ?_
    refine st_p (mv rfl) rfl ?_
    refine st_p (mkf rfl rfl) rfl ?_
    refine st_p (mva rfl) rfl ?_
    refine al_nil ?_
    refine nm ?_
    refine aw_seq ?_
    refine aw_region ?_
    refine st_p (mv rfl) rfl ?_
    refine st_p (mv rfl) rfl ?_
    refine st_p (mv rfl) rfl ?_
    -- STOP: call t13(t14, t15) -> 16
    refine st_o ((op_callq (hf) Try.func72 ⟨rfl, rfl⟩ rfl rfl (fun nx => (.cons (.same (by rfl)) (.cons (.same (by rfl)) (.cons (.same (by rfl)) .nil)))) (by rintro _ _ _ ⟨rfl, rfl, rfl⟩; exact .same rfl)).ok) rfl ?_
    refine st_p (mv rfl) rfl ?_
    refine st_p (op_extract rfl rfl) rfl ?_
    refine st_p (op_extract rfl rfl) rfl ?_
    refine st_p (mva rfl) rfl ?_
    refine st_p (mva rfl) rfl ?_
    refine al_nil ?_
    refine nm ?_
    refine aw_seq ?_
    refine aw_seq ?_
    refine aw_region ?_
    refine st_p (mv rfl) rfl ?_
    refine st_p (op_notT rfl) rfl ?_
    refine al_nil ?_
    refine nm ?_
    -- IF t20
    refine aw_no (rfl) ?_
    refine aw_skip ?_
    refine nm ?_
    refine aw_seq ?_
    refine aw_region ?_
    refine st_p (mv rfl) rfl ?_
    refine st_p (mv rfl) rfl ?_
    refine st_p (op_indexAddrL Try.underlying44 z49 rfl rfl (by omega) (by first | assumption | rfl)) rfl ?_
    refine st_p (op_fieldAddrL Try.underlying49 rfl z3 (by decide) rfl) rfl ?_
    refine st_p (op_load1L Try.underlying3 rfl rfl rfl) rfl ?_
    refine st_p (mva rfl) rfl ?_
    refine al_nil ?_
    refine nm ?_
    refine aw_ret ?_
    exact ret_a ⟨[(6, .int .i64 x.bit)], [], 0⟩ (le_to [] rfl rfl rfl rfl rfl ⟨rfl, trivial⟩ trivial) (res1 Try.results29) (.inr ⟨rfl, rfl⟩) ⟨rfl, rfl, rfl⟩
  | false =>
    rw [hb] at hf
    rw [ofN_none hb]
    refine ac_fn Try.func29 rfl rfl rfl rfl (fun w0 S0 r0 => ?_)
    refine aw_seq ?_
    refine aw_region ?_
    refine st_p (mva rfl) rfl ?_
    refine al_nil ?_
    refine nm ?_
    refine aw_seq ?_
    refine aw_region ?_
    refine st_p (mv rfl) rfl ?_
    refine st_p (mkf rfl rfl) rfl ?_
    refine st_p (mva rfl) rfl ?_
    refine al_nil ?_
    refine nm ?_
    refine aw_seq ?_
    refine aw_region ?_
    refine st_p (mv rfl) rfl ?_
    refine st_p (mv rfl) rfl ?_
    refine st_p (mv rfl) rfl ?_
    -- STOP: call t13(t14, t15) -> 16
    refine st_o ((op_callq (hf) Try.func72 ⟨rfl, rfl⟩ rfl rfl (fun nx => (.cons (.same (by rfl)) (.cons (.same (by rfl)) (.cons (.same (by rfl)) .nil)))) (by rintro _ _ _ ⟨rfl, rfl, rfl⟩; exact .same rfl)).ok) rfl ?_
    refine st_p (mv rfl) rfl ?_
    refine st_p (op_extract rfl rfl) rfl ?_
    refine st_p (op_extract rfl rfl) rfl ?_
    refine st_p (mva rfl) rfl ?_
    refine st_p (mva rfl) rfl ?_
    refine al_nil ?_
    refine nm ?_
    refine aw_seq ?_
    refine aw_seq ?_
    refine aw_region ?_
    refine st_p (mv rfl) rfl ?_
    refine st_p (op_notF rfl) rfl ?_
    refine al_nil ?_
    refine nm ?_
    -- IF t20
    refine aw_yes (rfl) ?_
    refine aw_seq ?_
    refine aw_region ?_
    refine st_p (mva rfl) rfl ?_
    refine al_nil ?_
    refine nm ?_
    refine aw_ret ?_
    refine rs ?_
    exact ret_a ⟨[(6, .int .i64 0)], [], 0⟩ (le_to [] rfl rfl rfl rfl rfl ⟨rfl, trivial⟩ trivial) (res1 Try.results29) (.inr ⟨rfl, rfl⟩) ⟨rfl, rfl, rfl⟩

theorem clone_none : AC Try.prog 76 [.nils] [] 0 false (fun v h nx => v = .nils ∧ h = [] ∧ nx = 0) := by
  refine ac_fn Try.func76 rfl rfl rfl rfl (fun w0 S0 r0 => ?_)
  refine aw_seq ?_
  refine aw_region ?_
  refine st_p (mva rfl) rfl ?_
  refine al_nil ?_
  refine nm ?_
  refine aw_seq ?_
  refine aw_seq ?_
  refine aw_region ?_
  refine st_p (mv rfl) rfl ?_
  refine st_p (op_eqn (b := true) Try.underlying44 rfl rfl) rfl ?_
  refine al_nil ?_
  refine nm ?_
  -- IF t4
  refine aw_yes (rfl) ?_
  refine aw_seq ?_
  refine aw_region ?_
  refine st_p (mva rfl) rfl ?_
  refine al_nil ?_
  refine nm ?_
  refine aw_ret ?_
  refine rs ?_
  exact ret_v (res1 Try.results76) (.inr ⟨rfl, rfl⟩) ⟨rfl, rfl, rfl⟩

theorem nts_nosl (l : List NT) : (Blk.cells 3 (nts l)).nosl = true := by simp [Blk.nosl, AV.nosl, nosls, nts, ntA]

theorem clone_notes (l : List NT) (hl : l.length ≤ 100000) (h0 : 0 < l.length) :
    AC Try.prog 76 [.sl 3 (nts l)] [] 0 false (fun v h nx => v = .own 0 0 l.length ∧ h = [(0, .cells 3 (nts l))] ∧ nx = 1) := by
  have hnl := nts_len l
  have hn0 : 0 < (nts l).length := by omega
  have hne : ¬ nts l = [] := fun e => by rw [e] at hn0; exact absurd hn0 (Nat.lt_irrefl 0)
  have hzl : ∀ z ∈ nts l, z.cells.length = 3 := nts_sz l
  refine ac_fn Try.func76 rfl rfl rfl rfl (fun w0 S0 r0 => ?_)
  refine aw_seq ?_
  refine aw_region ?_
  refine st_p (mva rfl) rfl ?_
  refine al_nil ?_
  refine nm ?_
  refine aw_seq ?_
  refine aw_seq ?_
  refine aw_region ?_
  refine st_p (mv rfl) rfl ?_
  refine st_p (op_eqn (b := false) Try.underlying44 rfl ⟨by first | assumption | omega | simp, rfl⟩) rfl ?_
  refine al_nil ?_
  refine nm ?_
  -- IF t4
  refine aw_no (rfl) ?_
  refine aw_skip ?_
  refine nm ?_
  refine aw_seq ?_
  refine aw_region ?_
  refine st_o (bsl Try.underlying44 i49 o49 (by decide) rfl rfl rfl (by decide)) rfl ?_
  refine st_p (mv rfl) rfl ?_
  refine st_o (op_app Try.underlying44 Try.underlying44 (.inl ⟨_, rfl⟩) i49 o49 rfl rfl rfl (by first | rfl | omega | (simp; done) | (simp; omega)) ((SrcA.sl (.inr trivial)).ok rfl (by first | assumption | intro z hz; simp only [List.mem_singleton, List.drop_zero, List.take_succ_cons, List.take_zero, List.mem_cons, List.not_mem_nil, or_false, List.mem_map] at hz; first | (subst hz; rfl) | (obtain ⟨_, _, rfl⟩ := hz; rfl) | (rcases hz with rfl | rfl <;> rfl))) (by first | omega | (simp; try omega)) rfl) rfl ?_
  refine st_p (mva rfl) rfl ?_
  refine al_nil ?_
  refine nm ?_
  refine aw_ret ?_
  exact ret_a ⟨[(2, .own 0 0 l.length)], [(0, .cells 3 (nts l))], 1⟩ (le_to [(0, 1)] rfl rfl rfl rfl rfl ⟨congrArg (AV.own 1 0) hnl, trivial⟩ ⟨by simp only [Blk.ren, ren_nts, List.map_cons, List.map_nil]; rfl, trivial⟩) (res1 Try.results76) (.inr ⟨rfl, by simp only [List.all_cons, List.all_nil, nts_nosl, Bool.and_true]⟩) ⟨rfl, rfl, rfl⟩

theorem addN_same {l : List NT} {p s b : Int} (h : hasN l p s = true ∨ (b ≠ 1 ∧ b ≠ 2)) : addN l p s b = l := if_pos h
theorem addN_more {l : List NT} {p s b : Int} (h1 : hasN l p s = false) (h2 : ¬ (b ≠ 1 ∧ b ≠ 2)) : addN l p s b = insN l (cntN l p s) ⟨p, s, b⟩ := if_neg fun h => by
  rcases h with h | h
  · rw [h1] at h; cases h
  · exact h2 h

/-- One more, behind none. -/
theorem bits_Add0 (p s b : Int) (hb : ¬ (b ≠ 1 ∧ b ≠ 2)) :
    AC Try.prog 35 [.nils, .int .i64 p, .int .i64 s, .int .i64 b] [] 0 false (fun v h nx => v = .own 0 0 1 ∧ h = [(0, .cells 3 (nts [⟨p, s, b⟩]))] ∧ nx = 1) := by
  have hf := (find_notes [] p s (Nat.zero_le _) List.Pairwise.nil).nil0
  have hi := insert_note [] (ntA ⟨p, s, b⟩) 0 0 false (Nat.le_refl _) (by simp) (fun z hz => by cases hz) (fun z hz => by rw [List.mem_singleton.1 hz]; rfl) (fun σ _ => rfl) (.inr rfl)
  rw [show insA [] 0 (ntA ⟨p, s, b⟩) = nts [⟨p, s, b⟩] from rfl] at hi
  have hg : hasN [] p s = false := rfl
  rw [hg] at hf
  have hc := clone_none
  have hnos := nts_nosl [⟨p, s, b⟩]
  by_cases h1 : b = 1
  · skip
    refine ac_fn Try.func35 rfl rfl rfl rfl (fun w0 S0 r0 => ?_)
    refine aw_seq ?_
    refine aw_region ?_
    refine st_p (mva rfl) rfl ?_
    refine al_nil ?_
    refine nm ?_
    refine aw_seq ?_
    refine aw_region ?_
    refine st_p (mv rfl) rfl ?_
    refine st_p (mkf rfl rfl) rfl ?_
    refine st_p (mva rfl) rfl ?_
    refine al_nil ?_
    refine nm ?_
    refine aw_seq ?_
    refine aw_region ?_
    refine st_p (mv rfl) rfl ?_
    refine st_p (mv rfl) rfl ?_
    refine st_p (mv rfl) rfl ?_
    -- STOP: call t16(t17, t18) -> 19
    refine st_o ((op_callq (hf) Try.func72 ⟨rfl, rfl⟩ rfl rfl (fun nx => (.cons (.same (by rfl)) (.cons (.same (by rfl)) (.cons (.same (by rfl)) .nil)))) (by rintro _ _ _ ⟨rfl, rfl, rfl⟩; exact .same rfl)).ok) rfl ?_
    refine st_p (mv rfl) rfl ?_
    refine st_p (op_extract rfl rfl) rfl ?_
    refine st_p (op_extract rfl rfl) rfl ?_
    refine st_p (mva rfl) rfl ?_
    refine st_p (mva rfl) rfl ?_
    refine al_nil ?_
    refine nm ?_
    refine aw_seq ?_
    refine aw_region ?_
    refine st_p (mv rfl) rfl ?_
    -- STOP: call slices.Clone[[]diwan/bits.Note,diwan/bits.Note](t22) -> 23
    refine st_o ((op_callq (hc) Try.func76 ⟨rfl, rfl⟩ rfl rfl (fun nx => (.cons (.same (by rfl)) .nil)) (by rintro _ _ _ ⟨rfl, rfl, rfl⟩; exact .same rfl)).ok) rfl ?_
    refine st_p (mva rfl) rfl ?_
    refine al_nil ?_
    refine nm ?_
    refine aw_seq ?_
    refine aw_seq ?_
    refine aw_region ?_
    refine st_p (mv rfl) rfl ?_
    refine st_p (mv rfl) rfl ?_
    refine st_pg rfl rfl rfl (mv rfl) rfl ?_
    refine st_pg rfl rfl rfl (OpP.conv (op_ne rfl rfl) (no (by first | assumption | omega))) rfl ?_
    refine st_pg rfl rfl rfl (mv rfl) rfl ?_
    refine st_s rfl rfl rfl rfl rfl ?_
    refine st_s rfl rfl rfl rfl rfl ?_
    refine st_pg rfl rfl rfl (pkF rfl rfl) rfl ?_
    refine st_p (pkF rfl rfl) rfl ?_
    refine al_nil ?_
    refine nm ?_
    -- IF t32
    refine aw_no (rfl) ?_
    refine aw_skip ?_
    refine nm ?_
    refine aw_seq ?_
    refine aw_virt 12 3 rfl ?_
    refine aw_region ?_
    refine st_p (mv rfl) rfl ?_
    refine st_p (mv rfl) rfl ?_
    refine st_p (mv rfl) rfl ?_
    refine st_p (mv rfl) rfl ?_
    refine st_p (mv rfl) rfl ?_
    refine st_p (op_build Try.underlying49 a49 rfl rfl (by intro f hf; simp only [List.mem_cons, List.not_mem_nil, or_false] at hf; rcases hf with rfl | rfl | rfl <;> exact ⟨_, by first | exact z3⟩) (pcons rfl rfl z3 rfl (pcons rfl rfl z3 rfl (pcons rfl rfl z3 rfl .nil))) rfl) rfl ?_
    refine st_o (bsl Try.underlying44 i49 o49 (by decide) rfl rfl rfl (by decide)) rfl ?_
    -- STOP: call slices.Insert[[]diwan/bits.Note,diwan/bits.Note](t34, t35, t40) -> 41
    refine st_o (op_callg [(0, 0), (1, 1)] 2 false [(0, .cells 3 []), (1, .cells 3 [ntA ⟨p, s, b⟩])] [0, 1] (hi) Try.func77 ⟨rfl, rfl⟩ rfl rfl rfl rfl (by omega) (by intro p hp; simp only [List.mem_cons, List.not_mem_nil, or_false] at hp; rcases hp with rfl | rfl <;> exact ⟨by first | rfl | ((simp [hget, swp, Blk.ren, AV.ren, ints, Function.comp_def]) <;> rfl), rfl⟩) rfl (.cons (.same (by rfl)) (.cons (.same (by rfl)) (.cons (.same (by rfl)) .nil))) rfl rfl rfl) rfl ?_
    refine st_p (mva rfl) rfl ?_
    refine al_nil ?_
    refine nm ?_
    refine aw_ret ?_
    exact ret_a ⟨[(8, .own 0 0 1)], [(0, .cells 3 (nts [⟨p, s, b⟩]))], 1⟩ (le_to [(0, 4)] rfl rfl rfl rfl rfl ⟨rfl, trivial⟩ ⟨by simp only [Blk.ren, ren_nts, List.map_cons, List.map_nil]; rfl, trivial⟩) (res1 Try.results35) (.inr ⟨rfl, by simp only [List.all_cons, List.all_nil, hnos, Bool.and_true]⟩) ⟨rfl, rfl, rfl⟩
  · have h2 : b = 2 := Decidable.byContradiction fun h2 => hb ⟨h1, h2⟩
    refine ac_fn Try.func35 rfl rfl rfl rfl (fun w0 S0 r0 => ?_)
    refine aw_seq ?_
    refine aw_region ?_
    refine st_p (mva rfl) rfl ?_
    refine al_nil ?_
    refine nm ?_
    refine aw_seq ?_
    refine aw_region ?_
    refine st_p (mv rfl) rfl ?_
    refine st_p (mkf rfl rfl) rfl ?_
    refine st_p (mva rfl) rfl ?_
    refine al_nil ?_
    refine nm ?_
    refine aw_seq ?_
    refine aw_region ?_
    refine st_p (mv rfl) rfl ?_
    refine st_p (mv rfl) rfl ?_
    refine st_p (mv rfl) rfl ?_
    -- STOP: call t16(t17, t18) -> 19
    refine st_o ((op_callq (hf) Try.func72 ⟨rfl, rfl⟩ rfl rfl (fun nx => (.cons (.same (by rfl)) (.cons (.same (by rfl)) (.cons (.same (by rfl)) .nil)))) (by rintro _ _ _ ⟨rfl, rfl, rfl⟩; exact .same rfl)).ok) rfl ?_
    refine st_p (mv rfl) rfl ?_
    refine st_p (op_extract rfl rfl) rfl ?_
    refine st_p (op_extract rfl rfl) rfl ?_
    refine st_p (mva rfl) rfl ?_
    refine st_p (mva rfl) rfl ?_
    refine al_nil ?_
    refine nm ?_
    refine aw_seq ?_
    refine aw_region ?_
    refine st_p (mv rfl) rfl ?_
    -- STOP: call slices.Clone[[]diwan/bits.Note,diwan/bits.Note](t22) -> 23
    refine st_o ((op_callq (hc) Try.func76 ⟨rfl, rfl⟩ rfl rfl (fun nx => (.cons (.same (by rfl)) .nil)) (by rintro _ _ _ ⟨rfl, rfl, rfl⟩; exact .same rfl)).ok) rfl ?_
    refine st_p (mva rfl) rfl ?_
    refine al_nil ?_
    refine nm ?_
    refine aw_seq ?_
    refine aw_seq ?_
    refine aw_region ?_
    refine st_p (mv rfl) rfl ?_
    refine st_p (mv rfl) rfl ?_
    refine st_pg rfl rfl rfl (mv rfl) rfl ?_
    refine st_pg rfl rfl rfl (OpP.conv (op_ne rfl rfl) (yes (by first | assumption | omega))) rfl ?_
    refine st_pg rfl rfl rfl (mv rfl) rfl ?_
    refine st_pg rfl rfl rfl (mv rfl) rfl ?_
    refine st_pg rfl rfl rfl (OpP.conv (op_ne rfl rfl) (no (by first | assumption | omega))) rfl ?_
    refine st_pg rfl rfl rfl (pkT rfl rfl) rfl ?_
    refine st_p (pkF rfl rfl) rfl ?_
    refine al_nil ?_
    refine nm ?_
    -- IF t32
    refine aw_no (rfl) ?_
    refine aw_skip ?_
    refine nm ?_
    refine aw_seq ?_
    refine aw_virt 12 3 rfl ?_
    refine aw_region ?_
    refine st_p (mv rfl) rfl ?_
    refine st_p (mv rfl) rfl ?_
    refine st_p (mv rfl) rfl ?_
    refine st_p (mv rfl) rfl ?_
    refine st_p (mv rfl) rfl ?_
    refine st_p (op_build Try.underlying49 a49 rfl rfl (by intro f hf; simp only [List.mem_cons, List.not_mem_nil, or_false] at hf; rcases hf with rfl | rfl | rfl <;> exact ⟨_, by first | exact z3⟩) (pcons rfl rfl z3 rfl (pcons rfl rfl z3 rfl (pcons rfl rfl z3 rfl .nil))) rfl) rfl ?_
    refine st_o (bsl Try.underlying44 i49 o49 (by decide) rfl rfl rfl (by decide)) rfl ?_
    -- STOP: call slices.Insert[[]diwan/bits.Note,diwan/bits.Note](t34, t35, t40) -> 41
    refine st_o (op_callg [(0, 0), (1, 1)] 2 false [(0, .cells 3 []), (1, .cells 3 [ntA ⟨p, s, b⟩])] [0, 1] (hi) Try.func77 ⟨rfl, rfl⟩ rfl rfl rfl rfl (by omega) (by intro p hp; simp only [List.mem_cons, List.not_mem_nil, or_false] at hp; rcases hp with rfl | rfl <;> exact ⟨by first | rfl | ((simp [hget, swp, Blk.ren, AV.ren, ints, Function.comp_def]) <;> rfl), rfl⟩) rfl (.cons (.same (by rfl)) (.cons (.same (by rfl)) (.cons (.same (by rfl)) .nil))) rfl rfl rfl) rfl ?_
    refine st_p (mva rfl) rfl ?_
    refine al_nil ?_
    refine nm ?_
    refine aw_ret ?_
    exact ret_a ⟨[(8, .own 0 0 1)], [(0, .cells 3 (nts [⟨p, s, b⟩]))], 1⟩ (le_to [(0, 4)] rfl rfl rfl rfl rfl ⟨rfl, trivial⟩ ⟨by simp only [Blk.ren, ren_nts, List.map_cons, List.map_nil]; rfl, trivial⟩) (res1 Try.results35) (.inr ⟨rfl, by simp only [List.all_cons, List.all_nil, hnos, Bool.and_true]⟩) ⟨rfl, rfl, rfl⟩

theorem bits_Add0_no (p s b : Int) (hb : b ≠ 1 ∧ b ≠ 2) :
    AC Try.prog 35 [.nils, .int .i64 p, .int .i64 s, .int .i64 b] [] 0 false (fun v h nx => v = .nils ∧ h = [] ∧ nx = 0) := by
  have hf := (find_notes [] p s (Nat.zero_le _) List.Pairwise.nil).nil0
  have hg : hasN [] p s = false := rfl
  rw [hg] at hf
  have hc := clone_none
  obtain ⟨h1, h2⟩ := hb
  refine ac_fn Try.func35 rfl rfl rfl rfl (fun w0 S0 r0 => ?_)
  refine aw_seq ?_
  refine aw_region ?_
  refine st_p (mva rfl) rfl ?_
  refine al_nil ?_
  refine nm ?_
  refine aw_seq ?_
  refine aw_region ?_
  refine st_p (mv rfl) rfl ?_
  refine st_p (mkf rfl rfl) rfl ?_
  refine st_p (mva rfl) rfl ?_
  refine al_nil ?_
  refine nm ?_
  refine aw_seq ?_
  refine aw_region ?_
  refine st_p (mv rfl) rfl ?_
  refine st_p (mv rfl) rfl ?_
  refine st_p (mv rfl) rfl ?_
  -- STOP: call t16(t17, t18) -> 19
  refine st_o ((op_callq (hf) Try.func72 ⟨rfl, rfl⟩ rfl rfl (fun nx => (.cons (.same (by rfl)) (.cons (.same (by rfl)) (.cons (.same (by rfl)) .nil)))) (by rintro _ _ _ ⟨rfl, rfl, rfl⟩; exact .same rfl)).ok) rfl ?_
  refine st_p (mv rfl) rfl ?_
  refine st_p (op_extract rfl rfl) rfl ?_
  refine st_p (op_extract rfl rfl) rfl ?_
  refine st_p (mva rfl) rfl ?_
  refine st_p (mva rfl) rfl ?_
  refine al_nil ?_
  refine nm ?_
  refine aw_seq ?_
  refine aw_region ?_
  refine st_p (mv rfl) rfl ?_
  -- STOP: call slices.Clone[[]diwan/bits.Note,diwan/bits.Note](t22) -> 23
  refine st_o ((op_callq (hc) Try.func76 ⟨rfl, rfl⟩ rfl rfl (fun nx => (.cons (.same (by rfl)) .nil)) (by rintro _ _ _ ⟨rfl, rfl, rfl⟩; exact .same rfl)).ok) rfl ?_
  refine st_p (mva rfl) rfl ?_
  refine al_nil ?_
  refine nm ?_
  refine aw_seq ?_
  refine aw_seq ?_
  refine aw_region ?_
  refine st_p (mv rfl) rfl ?_
  refine st_p (mv rfl) rfl ?_
  refine st_pg rfl rfl rfl (mv rfl) rfl ?_
  refine st_pg rfl rfl rfl (OpP.conv (op_ne rfl rfl) (yes (by first | assumption | omega))) rfl ?_
  refine st_pg rfl rfl rfl (mv rfl) rfl ?_
  refine st_pg rfl rfl rfl (mv rfl) rfl ?_
  refine st_pg rfl rfl rfl (OpP.conv (op_ne rfl rfl) (yes (by first | assumption | omega))) rfl ?_
  refine st_pg rfl rfl rfl (pkT rfl rfl) rfl ?_
  refine st_p (pkF rfl rfl) rfl ?_
  refine al_nil ?_
  refine nm ?_
  -- IF t32
  refine aw_yes (rfl) ?_
  refine aw_seq ?_
  refine aw_region ?_
  refine st_p (mv rfl) rfl ?_
  refine st_p (mva rfl) rfl ?_
  refine al_nil ?_
  refine nm ?_
  refine aw_ret ?_
  refine rs ?_
  exact ret_a ⟨[(8, .nils)], [], 0⟩ (le_to [] rfl rfl rfl rfl rfl ⟨rfl, trivial⟩ trivial) (res1 Try.results35) (.inr ⟨rfl, rfl⟩) ⟨rfl, rfl, rfl⟩

theorem insA_nts (l : List NT) (i : Nat) (x : NT) : insA (nts l) i (ntA x) = nts (insN l i x) := by
  unfold insA nts insN
  simp

/-- One more, behind some. -/
theorem bits_Add (l : List NT) (p s b : Int) (hl : l.length ≤ 90000) (h0 : 0 < l.length) (hr : RisN l) :
    AC Try.prog 35 [.sl 3 (nts l), .int .i64 p, .int .i64 s, .int .i64 b] [] 0 false (fun v h nx => v = .own 0 0 (addN l p s b).length ∧ h = [(0, .cells 3 (nts (addN l p s b)))] ∧ nx = 1) := by
  have hf := find_notes l p s (by omega) hr
  have hc := clone_notes l (by omega) h0
  have hnl := nts_len l
  have hcl := cntN_le l p s
  cases hg : hasN l p s with
  | true =>
    rw [addN_same (.inl hg)]
    rw [hg] at hf
    refine ac_fn Try.func35 rfl rfl rfl rfl (fun w0 S0 r0 => ?_)
    refine aw_seq ?_
    refine aw_region ?_
    refine st_p (mva rfl) rfl ?_
    refine al_nil ?_
    refine nm ?_
    refine aw_seq ?_
    refine aw_region ?_
    refine st_p (mv rfl) rfl ?_
    refine st_p (mkf rfl rfl) rfl ?_
    refine st_p (mva rfl) rfl ?_
    refine al_nil ?_
    refine nm ?_
    refine aw_seq ?_
    refine aw_region ?_
    refine st_p (mv rfl) rfl ?_
    refine st_p (mv rfl) rfl ?_
    refine st_p (mv rfl) rfl ?_
    -- STOP: call t16(t17, t18) -> 19
    refine st_o ((op_callq (hf) Try.func72 ⟨rfl, rfl⟩ rfl rfl (fun nx => (.cons (.same (by rfl)) (.cons (.same (by rfl)) (.cons (.same (by rfl)) .nil)))) (by rintro _ _ _ ⟨rfl, rfl, rfl⟩; exact .same rfl)).ok) rfl ?_
    refine st_p (mv rfl) rfl ?_
    refine st_p (op_extract rfl rfl) rfl ?_
    refine st_p (op_extract rfl rfl) rfl ?_
    refine st_p (mva rfl) rfl ?_
    refine st_p (mva rfl) rfl ?_
    refine al_nil ?_
    refine nm ?_
    refine aw_seq ?_
    refine aw_region ?_
    refine st_p (mv rfl) rfl ?_
    -- STOP: call slices.Clone[[]diwan/bits.Note,diwan/bits.Note](t22) -> 23
    refine st_o (op_callg [] 0 false [] [] (hc) Try.func76 ⟨rfl, rfl⟩ rfl rfl rfl rfl (by omega) (by intro p hp; cases hp) rfl (.cons (.same (by rfl)) .nil) rfl rfl rfl) rfl ?_
    refine st_p (mva rfl) rfl ?_
    refine al_nil ?_
    refine nm ?_
    refine aw_seq ?_
    refine aw_seq ?_
    refine aw_region ?_
    refine st_p (mv rfl) rfl ?_
    refine st_p (mv rfl) rfl ?_
    refine st_s rfl rfl rfl rfl rfl ?_
    refine st_s rfl rfl rfl rfl rfl ?_
    refine st_s rfl rfl rfl rfl rfl ?_
    refine st_s rfl rfl rfl rfl rfl ?_
    refine st_s rfl rfl rfl rfl rfl ?_
    refine st_s rfl rfl rfl rfl rfl ?_
    refine st_p (pkT rfl rfl) rfl ?_
    refine al_nil ?_
    refine nm ?_
    -- IF t32
    refine aw_yes (rfl) ?_
    refine aw_seq ?_
    refine aw_region ?_
    refine st_p (mv rfl) rfl ?_
    refine st_p (mva rfl) rfl ?_
    refine al_nil ?_
    refine nm ?_
    refine aw_ret ?_
    refine rs ?_
    exact ret_a ⟨[(8, .own 0 0 l.length)], [(0, .cells 3 (nts l))], 1⟩ (le_to [] rfl rfl rfl rfl rfl ⟨rfl, trivial⟩ ⟨by simp only [Blk.ren, ren_nts, List.map_cons, List.map_nil]; rfl, trivial⟩) (res1 Try.results35) (.inr ⟨rfl, by simp only [List.all_cons, List.all_nil, nts_nosl, Bool.and_true]⟩) ⟨rfl, rfl, rfl⟩
  | false =>
    rw [hg] at hf
    by_cases hb : b ≠ 1 ∧ b ≠ 2
    · rw [addN_same (.inr hb)]
      obtain ⟨h1, h2⟩ := hb
      refine ac_fn Try.func35 rfl rfl rfl rfl (fun w0 S0 r0 => ?_)
      refine aw_seq ?_
      refine aw_region ?_
      refine st_p (mva rfl) rfl ?_
      refine al_nil ?_
      refine nm ?_
      refine aw_seq ?_
      refine aw_region ?_
      refine st_p (mv rfl) rfl ?_
      refine st_p (mkf rfl rfl) rfl ?_
      refine st_p (mva rfl) rfl ?_
      refine al_nil ?_
      refine nm ?_
      refine aw_seq ?_
      refine aw_region ?_
      refine st_p (mv rfl) rfl ?_
      refine st_p (mv rfl) rfl ?_
      refine st_p (mv rfl) rfl ?_
      -- STOP: call t16(t17, t18) -> 19
      refine st_o ((op_callq (hf) Try.func72 ⟨rfl, rfl⟩ rfl rfl (fun nx => (.cons (.same (by rfl)) (.cons (.same (by rfl)) (.cons (.same (by rfl)) .nil)))) (by rintro _ _ _ ⟨rfl, rfl, rfl⟩; exact .same rfl)).ok) rfl ?_
      refine st_p (mv rfl) rfl ?_
      refine st_p (op_extract rfl rfl) rfl ?_
      refine st_p (op_extract rfl rfl) rfl ?_
      refine st_p (mva rfl) rfl ?_
      refine st_p (mva rfl) rfl ?_
      refine al_nil ?_
      refine nm ?_
      refine aw_seq ?_
      refine aw_region ?_
      refine st_p (mv rfl) rfl ?_
      -- STOP: call slices.Clone[[]diwan/bits.Note,diwan/bits.Note](t22) -> 23
      refine st_o (op_callg [] 0 false [] [] (hc) Try.func76 ⟨rfl, rfl⟩ rfl rfl rfl rfl (by omega) (by intro p hp; cases hp) rfl (.cons (.same (by rfl)) .nil) rfl rfl rfl) rfl ?_
      refine st_p (mva rfl) rfl ?_
      refine al_nil ?_
      refine nm ?_
      refine aw_seq ?_
      refine aw_seq ?_
      refine aw_region ?_
      refine st_p (mv rfl) rfl ?_
      refine st_p (mv rfl) rfl ?_
      refine st_pg rfl rfl rfl (mv rfl) rfl ?_
      refine st_pg rfl rfl rfl (OpP.conv (op_ne rfl rfl) (yes (by first | assumption | omega))) rfl ?_
      refine st_pg rfl rfl rfl (mv rfl) rfl ?_
      refine st_pg rfl rfl rfl (mv rfl) rfl ?_
      refine st_pg rfl rfl rfl (OpP.conv (op_ne rfl rfl) (yes (by first | assumption | omega))) rfl ?_
      refine st_pg rfl rfl rfl (pkT rfl rfl) rfl ?_
      refine st_p (pkF rfl rfl) rfl ?_
      refine al_nil ?_
      refine nm ?_
      -- IF t32
      refine aw_yes (rfl) ?_
      refine aw_seq ?_
      refine aw_region ?_
      refine st_p (mv rfl) rfl ?_
      refine st_p (mva rfl) rfl ?_
      refine al_nil ?_
      refine nm ?_
      refine aw_ret ?_
      refine rs ?_
      exact ret_a ⟨[(8, .own 0 0 l.length)], [(0, .cells 3 (nts l))], 1⟩ (le_to [] rfl rfl rfl rfl rfl ⟨rfl, trivial⟩ ⟨by simp only [Blk.ren, ren_nts, List.map_cons, List.map_nil]; rfl, trivial⟩) (res1 Try.results35) (.inr ⟨rfl, by simp only [List.all_cons, List.all_nil, nts_nosl, Bool.and_true]⟩) ⟨rfl, rfl, rfl⟩
    · rw [addN_more hg hb]
      have hi := insert_note (nts l) (ntA ⟨p, s, b⟩) (cntN l p s) 0 false (by omega) (by omega) (nts_sz l) (fun z hz => by rw [List.mem_singleton.1 hz]; rfl) (fun σ _ => by rw [insA_nts, ren_nts]) (.inr (by rw [insA_nts, nts_nosl]))
      rw [insA_nts, hnl] at hi
      have hil : (insN l (cntN l p s) ⟨p, s, b⟩).length = l.length + 1 := by
        unfold insN
        simp only [List.length_append, List.length_cons, List.length_take, List.length_drop]
        omega
      generalize insN l (cntN l p s) ⟨p, s, b⟩ = m at hi hil ⊢
      rw [← hil] at hi
      by_cases h1 : b = 1
      · skip
        refine ac_fn Try.func35 rfl rfl rfl rfl (fun w0 S0 r0 => ?_)
        refine aw_seq ?_
        refine aw_region ?_
        refine st_p (mva rfl) rfl ?_
        refine al_nil ?_
        refine nm ?_
        refine aw_seq ?_
        refine aw_region ?_
        refine st_p (mv rfl) rfl ?_
        refine st_p (mkf rfl rfl) rfl ?_
        refine st_p (mva rfl) rfl ?_
        refine al_nil ?_
        refine nm ?_
        refine aw_seq ?_
        refine aw_region ?_
        refine st_p (mv rfl) rfl ?_
        refine st_p (mv rfl) rfl ?_
        refine st_p (mv rfl) rfl ?_
        -- STOP: call t16(t17, t18) -> 19
        refine st_o ((op_callq (hf) Try.func72 ⟨rfl, rfl⟩ rfl rfl (fun nx => (.cons (.same (by rfl)) (.cons (.same (by rfl)) (.cons (.same (by rfl)) .nil)))) (by rintro _ _ _ ⟨rfl, rfl, rfl⟩; exact .same rfl)).ok) rfl ?_
        refine st_p (mv rfl) rfl ?_
        refine st_p (op_extract rfl rfl) rfl ?_
        refine st_p (op_extract rfl rfl) rfl ?_
        refine st_p (mva rfl) rfl ?_
        refine st_p (mva rfl) rfl ?_
        refine al_nil ?_
        refine nm ?_
        refine aw_seq ?_
        refine aw_region ?_
        refine st_p (mv rfl) rfl ?_
        -- STOP: call slices.Clone[[]diwan/bits.Note,diwan/bits.Note](t22) -> 23
        refine st_o (op_callg [] 0 false [] [] (hc) Try.func76 ⟨rfl, rfl⟩ rfl rfl rfl rfl (by omega) (by intro p hp; cases hp) rfl (.cons (.same (by rfl)) .nil) rfl rfl rfl) rfl ?_
        refine st_p (mva rfl) rfl ?_
        refine al_nil ?_
        refine nm ?_
        refine aw_seq ?_
        refine aw_seq ?_
        refine aw_region ?_
        refine st_p (mv rfl) rfl ?_
        refine st_p (mv rfl) rfl ?_
        refine st_pg rfl rfl rfl (mv rfl) rfl ?_
        refine st_pg rfl rfl rfl (OpP.conv (op_ne rfl rfl) (no (by first | assumption | omega))) rfl ?_
        refine st_pg rfl rfl rfl (mv rfl) rfl ?_
        refine st_s rfl rfl rfl rfl rfl ?_
        refine st_s rfl rfl rfl rfl rfl ?_
        refine st_pg rfl rfl rfl (pkF rfl rfl) rfl ?_
        refine st_p (pkF rfl rfl) rfl ?_
        refine al_nil ?_
        refine nm ?_
        -- IF t32
        refine aw_no (rfl) ?_
        refine aw_skip ?_
        refine nm ?_
        refine aw_seq ?_
        refine aw_region ?_
        refine st_p (mv rfl) rfl ?_
        refine st_p (mv rfl) rfl ?_
        refine st_p (mv rfl) rfl ?_
        refine st_p (mv rfl) rfl ?_
        refine st_p (mv rfl) rfl ?_
        refine st_p (op_build Try.underlying49 a49 rfl rfl (by intro f hf; simp only [List.mem_cons, List.not_mem_nil, or_false] at hf; rcases hf with rfl | rfl | rfl <;> exact ⟨_, by first | exact z3⟩) (pcons rfl rfl z3 rfl (pcons rfl rfl z3 rfl (pcons rfl rfl z3 rfl .nil))) rfl) rfl ?_
        refine st_o (bsl Try.underlying44 i49 o49 (by decide) rfl rfl rfl (by decide)) rfl ?_
        -- STOP: call slices.Insert[[]diwan/bits.Note,diwan/bits.Note](t34, t35, t40) -> 41
        refine st_o (op_callg [(0, 0), (1, 1)] 2 false [(0, .cells 3 (nts l)), (1, .cells 3 [ntA ⟨p, s, b⟩])] [0, 1] (hi) Try.func77 ⟨rfl, rfl⟩ rfl rfl rfl rfl (by omega) (by intro p hp; simp only [List.mem_cons, List.not_mem_nil, or_false] at hp; rcases hp with rfl | rfl | rfl <;> exact ⟨by first | rfl | ((simp [hget, swp, Blk.ren, AV.ren, ints, Function.comp_def, ren_nts]) <;> rfl), rfl⟩) rfl (.cons (.same (by rfl)) (.cons (.same (by rfl)) (.cons (.same (by rfl)) .nil))) rfl rfl rfl) rfl ?_
        refine st_p (mva rfl) rfl ?_
        refine al_nil ?_
        refine nm ?_
        refine aw_ret ?_
        exact ret_a ⟨[(8, .own 0 0 m.length)], [(0, .cells 3 (nts m))], 1⟩ (le_to [(0, 4)] rfl rfl rfl rfl rfl ⟨rfl, trivial⟩ ⟨by simp only [Blk.ren, ren_nts, List.map_cons, List.map_nil]; rfl, trivial⟩) (res1 Try.results35) (.inr ⟨rfl, by simp only [List.all_cons, List.all_nil, nts_nosl, Bool.and_true]⟩) ⟨rfl, rfl, rfl⟩
      · have h2 : b = 2 := Decidable.byContradiction fun h2 => hb ⟨h1, h2⟩
        refine ac_fn Try.func35 rfl rfl rfl rfl (fun w0 S0 r0 => ?_)
        refine aw_seq ?_
        refine aw_region ?_
        refine st_p (mva rfl) rfl ?_
        refine al_nil ?_
        refine nm ?_
        refine aw_seq ?_
        refine aw_region ?_
        refine st_p (mv rfl) rfl ?_
        refine st_p (mkf rfl rfl) rfl ?_
        refine st_p (mva rfl) rfl ?_
        refine al_nil ?_
        refine nm ?_
        refine aw_seq ?_
        refine aw_region ?_
        refine st_p (mv rfl) rfl ?_
        refine st_p (mv rfl) rfl ?_
        refine st_p (mv rfl) rfl ?_
        -- STOP: call t16(t17, t18) -> 19
        refine st_o ((op_callq (hf) Try.func72 ⟨rfl, rfl⟩ rfl rfl (fun nx => (.cons (.same (by rfl)) (.cons (.same (by rfl)) (.cons (.same (by rfl)) .nil)))) (by rintro _ _ _ ⟨rfl, rfl, rfl⟩; exact .same rfl)).ok) rfl ?_
        refine st_p (mv rfl) rfl ?_
        refine st_p (op_extract rfl rfl) rfl ?_
        refine st_p (op_extract rfl rfl) rfl ?_
        refine st_p (mva rfl) rfl ?_
        refine st_p (mva rfl) rfl ?_
        refine al_nil ?_
        refine nm ?_
        refine aw_seq ?_
        refine aw_region ?_
        refine st_p (mv rfl) rfl ?_
        -- STOP: call slices.Clone[[]diwan/bits.Note,diwan/bits.Note](t22) -> 23
        refine st_o (op_callg [] 0 false [] [] (hc) Try.func76 ⟨rfl, rfl⟩ rfl rfl rfl rfl (by omega) (by intro p hp; cases hp) rfl (.cons (.same (by rfl)) .nil) rfl rfl rfl) rfl ?_
        refine st_p (mva rfl) rfl ?_
        refine al_nil ?_
        refine nm ?_
        refine aw_seq ?_
        refine aw_seq ?_
        refine aw_region ?_
        refine st_p (mv rfl) rfl ?_
        refine st_p (mv rfl) rfl ?_
        refine st_pg rfl rfl rfl (mv rfl) rfl ?_
        refine st_pg rfl rfl rfl (OpP.conv (op_ne rfl rfl) (yes (by first | assumption | omega))) rfl ?_
        refine st_pg rfl rfl rfl (mv rfl) rfl ?_
        refine st_pg rfl rfl rfl (mv rfl) rfl ?_
        refine st_pg rfl rfl rfl (OpP.conv (op_ne rfl rfl) (no (by first | assumption | omega))) rfl ?_
        refine st_pg rfl rfl rfl (pkT rfl rfl) rfl ?_
        refine st_p (pkF rfl rfl) rfl ?_
        refine al_nil ?_
        refine nm ?_
        -- IF t32
        refine aw_no (rfl) ?_
        refine aw_skip ?_
        refine nm ?_
        refine aw_seq ?_
        refine aw_region ?_
        refine st_p (mv rfl) rfl ?_
        refine st_p (mv rfl) rfl ?_
        refine st_p (mv rfl) rfl ?_
        refine st_p (mv rfl) rfl ?_
        refine st_p (mv rfl) rfl ?_
        refine st_p (op_build Try.underlying49 a49 rfl rfl (by intro f hf; simp only [List.mem_cons, List.not_mem_nil, or_false] at hf; rcases hf with rfl | rfl | rfl <;> exact ⟨_, by first | exact z3⟩) (pcons rfl rfl z3 rfl (pcons rfl rfl z3 rfl (pcons rfl rfl z3 rfl .nil))) rfl) rfl ?_
        refine st_o (bsl Try.underlying44 i49 o49 (by decide) rfl rfl rfl (by decide)) rfl ?_
        -- STOP: call slices.Insert[[]diwan/bits.Note,diwan/bits.Note](t34, t35, t40) -> 41
        refine st_o (op_callg [(0, 0), (1, 1)] 2 false [(0, .cells 3 (nts l)), (1, .cells 3 [ntA ⟨p, s, b⟩])] [0, 1] (hi) Try.func77 ⟨rfl, rfl⟩ rfl rfl rfl rfl (by omega) (by intro p hp; simp only [List.mem_cons, List.not_mem_nil, or_false] at hp; rcases hp with rfl | rfl | rfl <;> exact ⟨by first | rfl | ((simp [hget, swp, Blk.ren, AV.ren, ints, Function.comp_def, ren_nts]) <;> rfl), rfl⟩) rfl (.cons (.same (by rfl)) (.cons (.same (by rfl)) (.cons (.same (by rfl)) .nil))) rfl rfl rfl) rfl ?_
        refine st_p (mva rfl) rfl ?_
        refine al_nil ?_
        refine nm ?_
        refine aw_ret ?_
        exact ret_a ⟨[(8, .own 0 0 m.length)], [(0, .cells 3 (nts m))], 1⟩ (le_to [(0, 4)] rfl rfl rfl rfl rfl ⟨rfl, trivial⟩ ⟨by simp only [Blk.ren, ren_nts, List.map_cons, List.map_nil]; rfl, trivial⟩) (res1 Try.results35) (.inr ⟨rfl, by simp only [List.all_cons, List.all_nil, nts_nosl, Bool.and_true]⟩) ⟨rfl, rfl, rfl⟩

end Go.Proofs.Ytpggknkhldecaaa.Abs
end
section
/-
  What all say of a position, and who has not said so far.
-/
namespace Go.Proofs.Ytpggknkhldecaaa.Abs

/-- What one is said to say in a row. -/
def saidI (row : List Int) (s : Int) : Int := match row[s.toNat]? with
  | some b => if b = 1 ∨ b = 2 then b else 0
  | none => 0
def verdL (row : List Int) : List Int → Int → Int
  | [], out => out
  | s :: t, out => if saidI row s = 2 then 2 else if saidI row s = 0 then verdL row t 0 else verdL row t out
def verdI (row ss : List Int) : Int := verdL row ss 1
def openB (row : List Int) (s : Int) : Bool := decide (saidI row s = 0)
def missI (row ss : List Int) : List Int := if verdI row ss = 0 then ss.filter (openB row) else []

theorem adjL_len : ∀ (l : List Int), (adjL l).length ≤ l.length
  | [] => Nat.le_refl _
  | [a] => Nat.le_refl _
  | a :: b :: t => by
    have ih := adjL_len (b :: t)
    simp only [adjL]
    split
    · simp only [List.length_cons] at ih ⊢; omega
    · simp only [List.length_cons] at ih ⊢; omega
theorem readsL_le (ks : List (List UInt8)) (n : Int) : (readsL ks n).length ≤ ks.length := by
  have := adjL_len (sortL (shardsL ks n) ((shardsL ks n).length - 1))
  rw [sortL_len, shardsL_len] at this
  unfold readsL
  rw [shardsL_len]
  exact this

theorem ints_get {row : List Int} {k : Nat} {b : Int} (h : row[k]? = some b) : (ints row)[k]? = some (.int .i64 b) := by rw [ints, List.getElem?_map, h]; rfl

theorem bits_said (row : List Int) (s : Int) (h0 : 0 ≤ s) :
    AC Try.prog 73 [.sl 1 (ints row), .int .i64 s] [] 0 false (fun v h nx => v = .int .i64 (saidI row s) ∧ h = [] ∧ nx = 0) := by
  have hil := ints_len row
  unfold saidI
  by_cases hlt : s < row.length
  · obtain ⟨b, hb⟩ : ∃ b, row[s.toNat]? = some b := ⟨_, List.getElem?_eq_getElem (by omega)⟩
    have hxb := ints_get hb
    rw [hb]
    dsimp only
    by_cases h1 : b = 1
    · rw [if_pos (.inl h1)]
      refine ac_fn Try.func73 rfl rfl rfl rfl (fun w0 S0 r0 => ?_)
      refine aw_seq ?_
      refine aw_region ?_
      refine st_p (mva rfl) rfl ?_
      refine al_nil ?_
      refine nm ?_
      refine aw_seq ?_
      refine aw_seq ?_
      refine aw_region ?_
      refine st_p (mv rfl) rfl ?_
      refine st_p (mv rfl) rfl ?_
      refine st_p (op_len Try.underlying35 rfl) rfl ?_
      refine st_p (OpP.conv (op_lt rfl rfl) (yes (by first | assumption | omega))) rfl ?_
      refine st_p (mv rfl) rfl ?_
      refine st_pg rfl rfl rfl (mv rfl) rfl ?_
      refine st_pg rfl rfl rfl (mv rfl) rfl ?_
      refine st_pg rfl rfl rfl (op_indexAddrL Try.underlying35 z3 rfl rfl (by omega) (by first | assumption | rfl)) rfl ?_
      refine st_pg rfl rfl rfl (op_load1L Try.underlying3 rfl rfl rfl) rfl ?_
      refine st_pg rfl rfl rfl (OpP.conv (op_eq rfl rfl) (yes (by first | assumption | omega))) rfl ?_
      refine st_pg rfl rfl rfl (mv rfl) rfl ?_
      refine st_s rfl rfl rfl rfl rfl ?_
      refine st_s rfl rfl rfl rfl rfl ?_
      refine st_s rfl rfl rfl rfl rfl ?_
      refine st_s rfl rfl rfl rfl rfl ?_
      refine st_s rfl rfl rfl rfl rfl ?_
      refine st_pg rfl rfl rfl (pkT rfl rfl) rfl ?_
      refine st_p (pkT rfl rfl) rfl ?_
      refine al_nil ?_
      refine nm ?_
      -- IF t22
      refine aw_yes (rfl) ?_
      refine aw_seq ?_
      refine aw_region ?_
      refine st_p (mv rfl) rfl ?_
      refine st_p (mv rfl) rfl ?_
      refine st_p (op_indexAddrL Try.underlying35 z3 rfl rfl (by omega) (by first | assumption | rfl)) rfl ?_
      refine st_p (op_load1L Try.underlying3 rfl rfl rfl) rfl ?_
      refine st_p (mva rfl) rfl ?_
      refine al_nil ?_
      refine nm ?_
      refine aw_ret ?_
      refine rs ?_
      exact ret_v (res1 Try.results73) (.inr ⟨rfl, rfl⟩) ⟨rfl, rfl, rfl⟩
    · by_cases h2 : b = 2
      · rw [if_pos (.inr h2)]
        refine ac_fn Try.func73 rfl rfl rfl rfl (fun w0 S0 r0 => ?_)
        refine aw_seq ?_
        refine aw_region ?_
        refine st_p (mva rfl) rfl ?_
        refine al_nil ?_
        refine nm ?_
        refine aw_seq ?_
        refine aw_seq ?_
        refine aw_region ?_
        refine st_p (mv rfl) rfl ?_
        refine st_p (mv rfl) rfl ?_
        refine st_p (op_len Try.underlying35 rfl) rfl ?_
        refine st_p (OpP.conv (op_lt rfl rfl) (yes (by first | assumption | omega))) rfl ?_
        refine st_p (mv rfl) rfl ?_
        refine st_pg rfl rfl rfl (mv rfl) rfl ?_
        refine st_pg rfl rfl rfl (mv rfl) rfl ?_
        refine st_pg rfl rfl rfl (op_indexAddrL Try.underlying35 z3 rfl rfl (by omega) (by first | assumption | rfl)) rfl ?_
        refine st_pg rfl rfl rfl (op_load1L Try.underlying3 rfl rfl rfl) rfl ?_
        refine st_pg rfl rfl rfl (OpP.conv (op_eq rfl rfl) (no (by first | assumption | omega))) rfl ?_
        refine st_pg rfl rfl rfl (mv rfl) rfl ?_
        refine st_pg rfl rfl rfl (mv rfl) rfl ?_
        refine st_pg rfl rfl rfl (mv rfl) rfl ?_
        refine st_pg rfl rfl rfl (op_indexAddrL Try.underlying35 z3 rfl rfl (by omega) (by first | assumption | rfl)) rfl ?_
        refine st_pg rfl rfl rfl (op_load1L Try.underlying3 rfl rfl rfl) rfl ?_
        refine st_pg rfl rfl rfl (OpP.conv (op_eq rfl rfl) (yes (by first | assumption | omega))) rfl ?_
        refine st_pg rfl rfl rfl (pkF rfl rfl) rfl ?_
        refine st_p (pkT rfl rfl) rfl ?_
        refine al_nil ?_
        refine nm ?_
        -- IF t22
        refine aw_yes (rfl) ?_
        refine aw_seq ?_
        refine aw_region ?_
        refine st_p (mv rfl) rfl ?_
        refine st_p (mv rfl) rfl ?_
        refine st_p (op_indexAddrL Try.underlying35 z3 rfl rfl (by omega) (by first | assumption | rfl)) rfl ?_
        refine st_p (op_load1L Try.underlying3 rfl rfl rfl) rfl ?_
        refine st_p (mva rfl) rfl ?_
        refine al_nil ?_
        refine nm ?_
        refine aw_ret ?_
        refine rs ?_
        exact ret_v (res1 Try.results73) (.inr ⟨rfl, rfl⟩) ⟨rfl, rfl, rfl⟩
      · rw [if_neg (fun h => h.elim h1 h2)]
        refine ac_fn Try.func73 rfl rfl rfl rfl (fun w0 S0 r0 => ?_)
        refine aw_seq ?_
        refine aw_region ?_
        refine st_p (mva rfl) rfl ?_
        refine al_nil ?_
        refine nm ?_
        refine aw_seq ?_
        refine aw_seq ?_
        refine aw_region ?_
        refine st_p (mv rfl) rfl ?_
        refine st_p (mv rfl) rfl ?_
        refine st_p (op_len Try.underlying35 rfl) rfl ?_
        refine st_p (OpP.conv (op_lt rfl rfl) (yes (by first | assumption | omega))) rfl ?_
        refine st_p (mv rfl) rfl ?_
        refine st_pg rfl rfl rfl (mv rfl) rfl ?_
        refine st_pg rfl rfl rfl (mv rfl) rfl ?_
        refine st_pg rfl rfl rfl (op_indexAddrL Try.underlying35 z3 rfl rfl (by omega) (by first | assumption | rfl)) rfl ?_
        refine st_pg rfl rfl rfl (op_load1L Try.underlying3 rfl rfl rfl) rfl ?_
        refine st_pg rfl rfl rfl (OpP.conv (op_eq rfl rfl) (no (by first | assumption | omega))) rfl ?_
        refine st_pg rfl rfl rfl (mv rfl) rfl ?_
        refine st_pg rfl rfl rfl (mv rfl) rfl ?_
        refine st_pg rfl rfl rfl (mv rfl) rfl ?_
        refine st_pg rfl rfl rfl (op_indexAddrL Try.underlying35 z3 rfl rfl (by omega) (by first | assumption | rfl)) rfl ?_
        refine st_pg rfl rfl rfl (op_load1L Try.underlying3 rfl rfl rfl) rfl ?_
        refine st_pg rfl rfl rfl (OpP.conv (op_eq rfl rfl) (no (by first | assumption | omega))) rfl ?_
        refine st_pg rfl rfl rfl (pkF rfl rfl) rfl ?_
        refine st_p (pkT rfl rfl) rfl ?_
        refine al_nil ?_
        refine nm ?_
        -- IF t22
        refine aw_no (rfl) ?_
        refine aw_skip ?_
        refine nm ?_
        refine aw_seq ?_
        refine aw_region ?_
        refine st_p (mva rfl) rfl ?_
        refine al_nil ?_
        refine nm ?_
        refine aw_ret ?_
        exact ret_v (res1 Try.results73) (.inr ⟨rfl, rfl⟩) ⟨rfl, rfl, rfl⟩
  · rw [List.getElem?_eq_none (by omega)]
    refine ac_fn Try.func73 rfl rfl rfl rfl (fun w0 S0 r0 => ?_)
    refine aw_seq ?_
    refine aw_region ?_
    refine st_p (mva rfl) rfl ?_
    refine al_nil ?_
    refine nm ?_
    refine aw_seq ?_
    refine aw_seq ?_
    refine aw_region ?_
    refine st_p (mv rfl) rfl ?_
    refine st_p (mv rfl) rfl ?_
    refine st_p (op_len Try.underlying35 rfl) rfl ?_
    refine st_p (OpP.conv (op_lt rfl rfl) (no (by first | assumption | omega))) rfl ?_
    refine st_p (mv rfl) rfl ?_
    refine st_s rfl rfl rfl rfl rfl ?_
    refine st_s rfl rfl rfl rfl rfl ?_
    refine st_s rfl rfl rfl rfl rfl ?_
    refine st_s rfl rfl rfl rfl rfl ?_
    refine st_s rfl rfl rfl rfl rfl ?_
    refine st_s rfl rfl rfl rfl rfl ?_
    refine st_s rfl rfl rfl rfl rfl ?_
    refine st_s rfl rfl rfl rfl rfl ?_
    refine st_s rfl rfl rfl rfl rfl ?_
    refine st_s rfl rfl rfl rfl rfl ?_
    refine st_s rfl rfl rfl rfl rfl ?_
    refine st_s rfl rfl rfl rfl rfl ?_
    refine st_p (pkF rfl rfl) rfl ?_
    refine al_nil ?_
    refine nm ?_
    -- IF t22
    refine aw_no (rfl) ?_
    refine aw_skip ?_
    refine nm ?_
    refine aw_seq ?_
    refine aw_region ?_
    refine st_p (mva rfl) rfl ?_
    refine al_nil ?_
    refine nm ?_
    refine aw_ret ?_
    exact ret_v (res1 Try.results73) (.inr ⟨rfl, rfl⟩) ⟨rfl, rfl, rfl⟩

theorem miss_1 (row : List Int) (s : Int) (h0 : 0 ≤ s) :
    AC Try.prog 75 [.int .i64 s, .ptr 0 0 0] [(0, .cells 1 [.sl 1 (ints row)])] 1 true (fun v h nx => v = .bool (!openB row s) ∧ h = [(0, .cells 1 [.sl 1 (ints row)])] ∧ nx = 1) := by
  have hs := bits_said row s h0
  unfold openB
  by_cases hz : saidI row s = 0
  · rw [decide_eq_true hz]
    refine ac_fn Try.func75 rfl rfl rfl rfl (fun w0 S0 r0 => ?_)
    refine aw_seq ?_
    refine aw_region ?_
    refine st_p (mva rfl) rfl ?_
    refine al_nil ?_
    refine nm ?_
    refine aw_seq ?_
    refine aw_region ?_
    refine st_p (op_load1 Try.underlying35 rfl rfl rfl rfl rfl) rfl ?_
    refine st_p (mv rfl) rfl ?_
    -- STOP: call diwan/bits.said(t4, t5) -> 6
    refine st_o ((op_callq (hs) Try.func73 ⟨rfl, rfl⟩ rfl rfl (fun nx => (.cons (.same (by rfl)) (.cons (.same (by rfl)) .nil))) (by rintro _ _ _ ⟨rfl, rfl, rfl⟩; exact .same rfl)).ok) rfl ?_
    refine st_p (OpP.conv (op_ne rfl rfl) (no (by first | assumption | omega))) rfl ?_
    refine st_p (mva rfl) rfl ?_
    refine al_nil ?_
    refine nm ?_
    refine aw_ret ?_
    exact ret_v (res1 Try.results75) (.inl rfl) ⟨rfl, rfl, rfl⟩
  · rw [decide_eq_false hz]
    refine ac_fn Try.func75 rfl rfl rfl rfl (fun w0 S0 r0 => ?_)
    refine aw_seq ?_
    refine aw_region ?_
    refine st_p (mva rfl) rfl ?_
    refine al_nil ?_
    refine nm ?_
    refine aw_seq ?_
    refine aw_region ?_
    refine st_p (op_load1 Try.underlying35 rfl rfl rfl rfl rfl) rfl ?_
    refine st_p (mv rfl) rfl ?_
    -- STOP: call diwan/bits.said(t4, t5) -> 6
    refine st_o ((op_callq (hs) Try.func73 ⟨rfl, rfl⟩ rfl rfl (fun nx => (.cons (.same (by rfl)) (.cons (.same (by rfl)) .nil))) (by rintro _ _ _ ⟨rfl, rfl, rfl⟩; exact .same rfl)).ok) rfl ?_
    refine st_p (OpP.conv (op_ne rfl rfl) (yes (by first | assumption | omega))) rfl ?_
    refine st_p (mva rfl) rfl ?_
    refine al_nil ?_
    refine nm ?_
    refine aw_ret ?_
    exact ret_v (res1 Try.results75) (.inl rfl) ⟨rfl, rfl, rfl⟩

theorem bits_Verdict (t : TX) (n : Int) (row : List Int) (hr : t.reads.length ≤ 12) (hw : t.writes.length ≤ 1000000) (hkr : ∀ r ∈ t.reads, r.key.length ≤ 281474976710656) (hn : n ≤ 9223372036854775807) (hn1 : 1 ≤ n) :
    AC Try.prog 31 [txA t, .int .i64 n, .sl 1 (ints row)] [] 0 false (fun v h nx => v = .int .i64 (verdI row (readsL (t.reads.map RD.key) n)) ∧ h = [] ∧ nx = 0) := by
  have hR := txn_Reads t n hr hw hkr hn
  have hil := ints_len (readsL (t.reads.map RD.key) n)
  have hip : (ints (readsL (t.reads.map RD.key) n)).all AV.plain = true := by simp [AV.plain, ints]
  have hge : ∀ x ∈ readsL (t.reads.map RD.key) n, 0 ≤ x := fun x hx => by
    obtain ⟨k, _, rfl⟩ := (readsL_mem _ _ _).1 hx
    exact (shardI_range k n hn1).1
  have hRL := readsL_le (t.reads.map RD.key) n
  rw [List.length_map] at hRL
  unfold verdI
  generalize readsL (t.reads.map RD.key) n = RL at hR hil hip hge hRL ⊢
  obtain ⟨ses, seq, rl, wl⟩ := t
  dsimp only [txA] at hR hRL hr ⊢
  refine ac_fn Try.func31 rfl rfl rfl rfl (fun w0 S0 r0 => ?_)
  refine aw_seq ?_
  refine aw_region ?_
  refine st_o (bx rfl rfl) rfl ?_
  refine st_p (mva rfl) rfl ?_
  refine al_nil ?_
  refine nm ?_
  refine aw_seq ?_
  refine aw_region ?_
  refine st_p (mva rfl) rfl ?_
  refine al_nil ?_
  refine nm ?_
  refine aw_seq ?_
  refine aw_seq ?_
  refine aw_region ?_
  refine st_p (op_loadA Try.underlying26 rfl z26 rfl rfl rfl rfl) rfl ?_
  refine st_p (mv rfl) rfl ?_
  -- STOP: call diwan/txn.Reads(t10, t11) -> 12
  refine st_o ((op_callq (hR) Try.func16 ⟨rfl, rfl⟩ rfl rfl (fun nx => (.cons (.same (by rfl)) (.cons (.same (by rfl)) .nil))) (by rintro _ _ _ ⟨rfl, rfl, rfl⟩; exact (.whole rfl hil.symm hip))).ok) rfl ?_
  refine st_p (op_len Try.underlying35 rfl) rfl ?_
  refine st_p (mv rfl) rfl ?_
  refine al_nil ?_
  refine nm ?_
  refine aw_block ?_
  -- LOOP
  refine aw_loop (fun p : {p : Nat × Int // p.1 ≤ RL.length ∧ verdL row (RL.drop p.1) p.2 = verdL row RL 1} => ⟨[(2, .sl 1 (ints row)), (7, .int .i64 p.1.2), (12, .sl 1 (ints RL)), (13, .int .i64 RL.length), (14, .int .i64 p.1.1)], [], 0⟩) (fun p => RL.length - p.1.1) ⟨(0, 1), Nat.zero_le _, rfl⟩ ?_ ?_
  · exact le_to [] rfl rfl rfl rfl rfl ⟨rfl, rfl, rfl, congrArg (fun k : Nat => AV.int .i64 (k : Int)) hil, rfl, trivial⟩ trivial
  · rintro ⟨⟨i, out⟩, h1, h2⟩
    dsimp only at h1 h2 ⊢
    by_cases hlt : i < RL.length
    · obtain ⟨x, hx⟩ : ∃ x, RL[i]? = some x := ⟨_, List.getElem?_eq_getElem hlt⟩
      have hxb : (ints RL)[((i : Nat) : Int).toNat]? = some (.int .i64 x) := by rw [Int.toNat_natCast]; exact ints_get hx
      have hd : RL.drop i = x :: RL.drop (i + 1) := by
        rw [List.drop_eq_getElem_cons hlt]; rw [List.getElem?_eq_getElem hlt] at hx; rw [Option.some.inj hx]
      rw [hd, verdL] at h2
      have hs := bits_said row x (hge x (List.mem_of_getElem? hx))
      by_cases hq : saidI row x = 2
      · rw [if_pos hq] at h2
        refine aw_seq ?_
        refine aw_region ?_
        refine st_p (OpP.conv (op_lt rfl rfl) (yes (by first | assumption | omega))) rfl ?_
        refine al_nil ?_
        refine nm ?_
        refine aw_seq ?_
        -- IF t15
        refine aw_yes (rfl) ?_
        refine aw_skip ?_
        refine nm ?_
        refine aw_seq ?_
        refine aw_block ?_
        refine aw_seq ?_
        refine aw_region ?_
        refine st_p (op_indexAddrL Try.underlying35 z3 rfl rfl (by omega) (by first | assumption | rfl)) rfl ?_
        refine st_p (op_load1L Try.underlying3 rfl rfl rfl) rfl ?_
        refine st_p (mva rfl) rfl ?_
        refine al_nil ?_
        refine nm ?_
        refine aw_seq ?_
        refine aw_region ?_
        refine st_p (mv rfl) rfl ?_
        refine st_p (mv rfl) rfl ?_
        -- STOP: call diwan/bits.said(t18, t19) -> 20
        refine st_o ((op_callq (hs) Try.func73 ⟨rfl, rfl⟩ rfl rfl (fun nx => (.cons (.same (by rfl)) (.cons (.same (by rfl)) .nil))) (by rintro _ _ _ ⟨rfl, rfl, rfl⟩; exact .same rfl)).ok) rfl ?_
        refine al_nil ?_
        refine nm ?_
        refine aw_block ?_
        refine aw_seq ?_
        refine aw_region ?_
        refine st_p (OpP.conv (op_eq rfl rfl) (yes (by first | assumption | omega))) rfl ?_
        refine st_p (mva rfl) rfl ?_
        refine al_nil ?_
        refine nm ?_
        -- IF t21
        refine aw_yes (rfl) ?_
        refine aw_seq ?_
        refine aw_region ?_
        refine st_p (mva rfl) rfl ?_
        refine al_nil ?_
        refine nm ?_
        refine aw_ret ?_
        refine rb ?_
        refine rb ?_
        refine rs ?_
        refine rs ?_
        refine rb ?_
        refine rs ?_
        exact ret_a ⟨[(6, .int .i64 2)], [], 0⟩ (le_to [] rfl rfl rfl rfl rfl ⟨rfl, trivial⟩ trivial) (res1 Try.results31) (.inr ⟨rfl, rfl⟩) ⟨by rw [← h2]; rfl, rfl, rfl⟩
      · rw [if_neg hq] at h2
        by_cases hz : saidI row x = 0
        · rw [if_pos hz] at h2
          refine aw_seq ?_
          refine aw_region ?_
          refine st_p (OpP.conv (op_lt rfl rfl) (yes (by first | assumption | omega))) rfl ?_
          refine al_nil ?_
          refine nm ?_
          refine aw_seq ?_
          -- IF t15
          refine aw_yes (rfl) ?_
          refine aw_skip ?_
          refine nm ?_
          refine aw_seq ?_
          refine aw_block ?_
          refine aw_seq ?_
          refine aw_region ?_
          refine st_p (op_indexAddrL Try.underlying35 z3 rfl rfl (by omega) (by first | assumption | rfl)) rfl ?_
          refine st_p (op_load1L Try.underlying3 rfl rfl rfl) rfl ?_
          refine st_p (mva rfl) rfl ?_
          refine al_nil ?_
          refine nm ?_
          refine aw_seq ?_
          refine aw_region ?_
          refine st_p (mv rfl) rfl ?_
          refine st_p (mv rfl) rfl ?_
          -- STOP: call diwan/bits.said(t18, t19) -> 20
          refine st_o ((op_callq (hs) Try.func73 ⟨rfl, rfl⟩ rfl rfl (fun nx => (.cons (.same (by rfl)) (.cons (.same (by rfl)) .nil))) (by rintro _ _ _ ⟨rfl, rfl, rfl⟩; exact .same rfl)).ok) rfl ?_
          refine al_nil ?_
          refine nm ?_
          refine aw_block ?_
          refine aw_seq ?_
          refine aw_region ?_
          refine st_p (OpP.conv (op_eq rfl rfl) (no (by first | assumption | omega))) rfl ?_
          refine st_p (mva rfl) rfl ?_
          refine al_nil ?_
          refine nm ?_
          -- IF t21
          refine aw_no (rfl) ?_
          refine aw_seq ?_
          refine aw_region ?_
          refine st_p (OpP.conv (op_eq rfl rfl) (yes (by first | assumption | omega))) rfl ?_
          refine st_p (mva rfl) rfl ?_
          refine al_nil ?_
          refine nm ?_
          -- IF t23
          refine aw_yes (rfl) ?_
          refine aw_region ?_
          refine st_p (mva rfl) rfl ?_
          refine al_nil ?_
          refine nmb ?_
          refine nmb ?_
          refine nm ?_
          refine aw_region ?_
          refine st_p (op_addi rfl rfl (by omega)) rfl ?_
          refine st_p (mv rfl) rfl ?_
          refine al_nil ?_
          refine nm ?_
          exact ⟨⟨(i + 1, 0), by dsimp only; exact ⟨hlt, h2⟩⟩, by dsimp only; omega, le_to [] rfl rfl rfl rfl rfl ⟨rfl, rfl, rfl, rfl, rfl, trivial⟩ trivial⟩
        · rw [if_neg hz] at h2
          refine aw_seq ?_
          refine aw_region ?_
          refine st_p (OpP.conv (op_lt rfl rfl) (yes (by first | assumption | omega))) rfl ?_
          refine al_nil ?_
          refine nm ?_
          refine aw_seq ?_
          -- IF t15
          refine aw_yes (rfl) ?_
          refine aw_skip ?_
          refine nm ?_
          refine aw_seq ?_
          refine aw_block ?_
          refine aw_seq ?_
          refine aw_region ?_
          refine st_p (op_indexAddrL Try.underlying35 z3 rfl rfl (by omega) (by first | assumption | rfl)) rfl ?_
          refine st_p (op_load1L Try.underlying3 rfl rfl rfl) rfl ?_
          refine st_p (mva rfl) rfl ?_
          refine al_nil ?_
          refine nm ?_
          refine aw_seq ?_
          refine aw_region ?_
          refine st_p (mv rfl) rfl ?_
          refine st_p (mv rfl) rfl ?_
          -- STOP: call diwan/bits.said(t18, t19) -> 20
          refine st_o ((op_callq (hs) Try.func73 ⟨rfl, rfl⟩ rfl rfl (fun nx => (.cons (.same (by rfl)) (.cons (.same (by rfl)) .nil))) (by rintro _ _ _ ⟨rfl, rfl, rfl⟩; exact .same rfl)).ok) rfl ?_
          refine al_nil ?_
          refine nm ?_
          refine aw_block ?_
          refine aw_seq ?_
          refine aw_region ?_
          refine st_p (OpP.conv (op_eq rfl rfl) (no (by first | assumption | omega))) rfl ?_
          refine st_p (mva rfl) rfl ?_
          refine al_nil ?_
          refine nm ?_
          -- IF t21
          refine aw_no (rfl) ?_
          refine aw_seq ?_
          refine aw_region ?_
          refine st_p (OpP.conv (op_eq rfl rfl) (no (by first | assumption | omega))) rfl ?_
          refine st_p (mva rfl) rfl ?_
          refine al_nil ?_
          refine nm ?_
          -- IF t23
          refine aw_no (rfl) ?_
          refine aw_skip ?_
          refine nmb ?_
          refine nmb ?_
          refine nm ?_
          refine aw_region ?_
          refine st_p (op_addi rfl rfl (by omega)) rfl ?_
          refine st_p (mv rfl) rfl ?_
          refine al_nil ?_
          refine nm ?_
          exact ⟨⟨(i + 1, out), by dsimp only; exact ⟨hlt, h2⟩⟩, by dsimp only; omega, le_to [] rfl rfl rfl rfl rfl ⟨rfl, rfl, rfl, rfl, rfl, trivial⟩ trivial⟩
    · rw [List.drop_of_length_le (by omega), verdL] at h2
      refine aw_seq ?_
      refine aw_region ?_
      refine st_p (OpP.conv (op_lt rfl rfl) (no (by first | assumption | omega))) rfl ?_
      refine al_nil ?_
      refine nm ?_
      refine aw_seq ?_
      -- IF t15
      refine aw_no (rfl) ?_
      refine aw_exit ?_
      refine xs ?_
      refine xs ?_
      refine xb ?_
      refine nm ?_
      refine aw_seq ?_
      refine aw_region ?_
      refine st_p (mv rfl) rfl ?_
      refine st_p (mva rfl) rfl ?_
      refine al_nil ?_
      refine nm ?_
      refine aw_ret ?_
      exact ret_a ⟨[(6, .int .i64 out)], [], 0⟩ (le_to [] rfl rfl rfl rfl rfl ⟨rfl, trivial⟩ trivial) (res1 Try.results31) (.inr ⟨rfl, rfl⟩) ⟨by rw [← h2]; rfl, rfl, rfl⟩

theorem index_miss (row l : List Int) (hl : l.length ≤ 1000000) (h0 : ∀ x ∈ l, 0 ≤ x) :
    AC Try.prog 98 [.own 0 0 l.length, .fn (.func 75) [] [.ptr 1 0 0]] [(0, .cells 1 (ints l)), (1, .cells 1 [.sl 1 (ints row)])] 2 true
      (fun v h nx => v = .int .i64 (firstI (fun x => !openB row x) l) ∧ h = [(0, .cells 1 (ints l)), (1, .cells 1 [.sl 1 (ints row)])] ∧ nx = 2) := by
  have hil := ints_len l
  refine ac_fn Try.func98 rfl rfl rfl rfl (fun w0 S0 r0 => ?_)
  refine aw_seq ?_
  refine aw_region ?_
  refine st_p (mva rfl) rfl ?_
  refine al_nil ?_
  refine nm ?_
  refine aw_seq ?_
  refine aw_seq ?_
  refine aw_region ?_
  refine st_p (mv rfl) rfl ?_
  refine st_p (op_leno Try.underlying35 rfl) rfl ?_
  refine st_p (mv rfl) rfl ?_
  refine al_nil ?_
  refine nm ?_
  refine aw_block ?_
  -- LOOP
  refine aw_loop (fun i : {i : Nat // i ≤ l.length ∧ ∀ (j : Nat) (x : Int), j < i → l[j]? = some x → openB row x = true} => ⟨[(0, .own 0 0 l.length), (1, .fn (.func 75) [] [.ptr 1 0 0]), (7, .int .i64 l.length), (8, .int .i64 i.1)], [(0, .cells 1 (ints l)), (1, .cells 1 [.sl 1 (ints row)])], 2⟩) (fun i => l.length - i.1) ⟨0, Nat.zero_le _, fun j x hj => absurd hj (Nat.not_lt_zero _)⟩ ?_ ?_
  · exact le_to [] rfl rfl rfl rfl rfl ⟨rfl, rfl, rfl, rfl, trivial⟩ ⟨by rw [ren_intsB]; rfl, by simp only [Blk.ren, AV.ren, List.map_cons, List.map_nil]; rfl, trivial⟩
  · rintro ⟨i, hi, ha⟩
    dsimp only
    by_cases hlt : i < l.length
    · obtain ⟨x, hx⟩ : ∃ x, l[i]? = some x := ⟨_, List.getElem?_eq_getElem hlt⟩
      have hxb : (ints l)[0 + ((i : Nat) : Int).toNat]? = some (.int .i64 x) := by rw [Nat.zero_add, Int.toNat_natCast]; exact ints_get hx
      have hc := miss_1 row x (h0 x (List.mem_of_getElem? hx))
      cases hp : openB row x with
      | false =>
        rw [hp] at hc
        refine aw_seq ?_
        refine aw_region ?_
        refine st_p (OpP.conv (op_lt rfl rfl) (yes (by first | assumption | omega))) rfl ?_
        refine al_nil ?_
        refine nm ?_
        refine aw_seq ?_
        -- IF t9
        refine aw_yes (rfl) ?_
        refine aw_skip ?_
        refine nm ?_
        refine aw_seq ?_
        refine aw_block ?_
        refine aw_seq ?_
        refine aw_region ?_
        refine st_p (mv rfl) rfl ?_
        refine st_p (mva rfl) rfl ?_
        refine al_nil ?_
        refine nm ?_
        refine aw_seq ?_
        refine aw_region ?_
        refine st_p (mv rfl) rfl ?_
        refine st_p (mv rfl) rfl ?_
        refine st_p (mv rfl) rfl ?_
        refine st_p (op_indexAddr Try.underlying35 z3 rfl rfl rfl (by omega) (by omega)) rfl ?_
        refine st_p (op_load1 Try.underlying3 rfl rfl rfl (by assumption) rfl) rfl ?_
        -- STOP: call t11(t15) -> 16
        refine st_o (op_callg [(0, 1)] 1 true [(0, .cells 1 [.sl 1 (ints row)])] [1] (hc) Try.func75 ⟨rfl, rfl⟩ rfl rfl rfl rfl (by omega) (by intro p hp; simp only [List.mem_cons, List.not_mem_nil, or_false] at hp; rcases hp with rfl | rfl <;> exact ⟨by first | rfl | ((simp [hget, swp, Blk.ren, AV.ren, ints, Function.comp_def]) <;> rfl), rfl⟩) rfl (.cons (.same (by rfl)) (.cons (.same (by rfl)) .nil)) rfl rfl rfl) rfl ?_
        refine al_nil ?_
        refine nm ?_
        -- IF t16
        refine aw_yes (rfl) ?_
        refine aw_seq ?_
        refine aw_region ?_
        refine st_p (mv rfl) rfl ?_
        refine st_p (mva rfl) rfl ?_
        refine al_nil ?_
        refine nm ?_
        refine aw_ret ?_
        refine rb ?_
        refine rs ?_
        refine rs ?_
        refine rb ?_
        refine rs ?_
        exact ret_a ⟨[(4, .int .i64 i)], [(0, .cells 1 (ints l)), (1, .cells 1 [.sl 1 (ints row)])], 2⟩ (le_to [] rfl rfl rfl rfl rfl ⟨rfl, trivial⟩ ⟨by rw [ren_intsB]; rfl, rfl, trivial⟩) (res1 Try.results98) (.inl rfl) ⟨by rw [firstI_at hx (by rw [hp]; rfl) (fun j y hj hy => by rw [ha j y hj hy]; rfl)]; rfl, rfl, rfl⟩
      | true =>
        rw [hp] at hc
        refine aw_seq ?_
        refine aw_region ?_
        refine st_p (OpP.conv (op_lt rfl rfl) (yes (by first | assumption | omega))) rfl ?_
        refine al_nil ?_
        refine nm ?_
        refine aw_seq ?_
        -- IF t9
        refine aw_yes (rfl) ?_
        refine aw_skip ?_
        refine nm ?_
        refine aw_seq ?_
        refine aw_block ?_
        refine aw_seq ?_
        refine aw_region ?_
        refine st_p (mv rfl) rfl ?_
        refine st_p (mva rfl) rfl ?_
        refine al_nil ?_
        refine nm ?_
        refine aw_seq ?_
        refine aw_region ?_
        refine st_p (mv rfl) rfl ?_
        refine st_p (mv rfl) rfl ?_
        refine st_p (mv rfl) rfl ?_
        refine st_p (op_indexAddr Try.underlying35 z3 rfl rfl rfl (by omega) (by omega)) rfl ?_
        refine st_p (op_load1 Try.underlying3 rfl rfl rfl (by assumption) rfl) rfl ?_
        -- STOP: call t11(t15) -> 16
        refine st_o (op_callg [(0, 1)] 1 true [(0, .cells 1 [.sl 1 (ints row)])] [1] (hc) Try.func75 ⟨rfl, rfl⟩ rfl rfl rfl rfl (by omega) (by intro p hp; simp only [List.mem_cons, List.not_mem_nil, or_false] at hp; rcases hp with rfl | rfl <;> exact ⟨by first | rfl | ((simp [hget, swp, Blk.ren, AV.ren, ints, Function.comp_def]) <;> rfl), rfl⟩) rfl (.cons (.same (by rfl)) (.cons (.same (by rfl)) .nil)) rfl rfl rfl) rfl ?_
        refine al_nil ?_
        refine nm ?_
        -- IF t16
        refine aw_no (rfl) ?_
        refine aw_skip ?_
        refine nmb ?_
        refine nm ?_
        refine aw_region ?_
        refine st_p (op_addi rfl rfl (by omega)) rfl ?_
        refine st_p (mv rfl) rfl ?_
        refine al_nil ?_
        refine nm ?_
        exact ⟨⟨i + 1, hlt, fun j y hj hy => by
          rcases Nat.lt_succ_iff_lt_or_eq.1 hj with h | rfl
          · exact ha j y h hy
          · rw [hx] at hy; obtain rfl := Option.some.inj hy; exact hp⟩, by dsimp only; omega, le_to [] rfl rfl rfl rfl rfl ⟨rfl, rfl, rfl, rfl, trivial⟩ ⟨by rw [ren_intsB]; rfl, rfl, trivial⟩⟩
    · skip
      refine aw_seq ?_
      refine aw_region ?_
      refine st_p (OpP.conv (op_lt rfl rfl) (no (by first | assumption | omega))) rfl ?_
      refine al_nil ?_
      refine nm ?_
      refine aw_seq ?_
      -- IF t9
      refine aw_no (rfl) ?_
      refine aw_exit ?_
      refine xs ?_
      refine xs ?_
      refine xb ?_
      refine nm ?_
      refine aw_seq ?_
      refine aw_region ?_
      refine st_p (mva rfl) rfl ?_
      refine al_nil ?_
      refine nm ?_
      refine aw_ret ?_
      exact ret_a ⟨[(4, .int .i64 (-1))], [(0, .cells 1 (ints l)), (1, .cells 1 [.sl 1 (ints row)])], 2⟩ (le_to [] rfl rfl rfl rfl rfl ⟨rfl, trivial⟩ ⟨by rw [ren_intsB]; rfl, rfl, trivial⟩) (res1 Try.results98) (.inl rfl) ⟨by rw [firstI_none (fun j y hy => by rw [ha j y (by have := (List.getElem?_eq_some_iff.1 hy).1; omega) hy]; rfl)]; rfl, rfl, rfl⟩

theorem filter_take {α : Type} (p : α → Bool) (l : List α) (j : Nat) (x : α) (hx : l[j]? = some x) : (l.take (j + 1)).filter p = (l.take j).filter p ++ (if p x then [x] else []) := by
  rw [List.take_add_one, hx, List.filter_append]
  cases h : p x <;> simp [h]

theorem delete_miss (row l : List Int) (hl : l.length ≤ 1000000) (h0 : ∀ x ∈ l, 0 ≤ x) :
    AC Try.prog 74 [.own 0 0 l.length, .fn (.func 75) [] [.ptr 1 0 0]] [(0, .cells 1 (ints l)), (1, .cells 1 [.sl 1 (ints row)])] 2 true
      (fun v h nx => v = .own 0 0 (l.filter (openB row)).length ∧ h = [(0, .cells 1 (ints (l.filter (openB row)))), (1, .cells 1 [.sl 1 (ints row)])] ∧ nx = 2) := by
  have hil := ints_len l
  have hi := index_miss row l hl h0
  cases hf : l.findIdx? (fun x => !openB row x) with
  | none =>
    have hff : firstI (fun x => !openB row x) l = -1 := by unfold firstI; rw [hf]
    have hall : l.filter (openB row) = l := by
      rw [List.filter_eq_self]
      intro x hx
      have := List.findIdx?_eq_none_iff.1 hf x hx
      simpa using this
    rw [hff] at hi
    rw [hall]
    refine ac_fn Try.func74 rfl rfl rfl rfl (fun w0 S0 r0 => ?_)
    refine aw_seq ?_
    refine aw_region ?_
    refine st_p (mva rfl) rfl ?_
    refine al_nil ?_
    refine nm ?_
    refine aw_seq ?_
    refine aw_region ?_
    refine st_p (mv rfl) rfl ?_
    refine st_p (mv rfl) rfl ?_
    -- STOP: call slices.IndexFunc[[]int,int](t8, t9) -> 10
    refine st_o (op_callg [(0, 0), (1, 1)] 2 true [(0, .cells 1 (ints l)), (1, .cells 1 [.sl 1 (ints row)])] [0, 1] (hi) Try.func98 ⟨rfl, rfl⟩ rfl rfl rfl rfl (by omega) (by intro p hp; simp only [List.mem_cons, List.not_mem_nil, or_false] at hp; rcases hp with rfl | rfl | rfl | rfl <;> exact ⟨by first | rfl | ((simp [hget, swp, Blk.ren, AV.ren, ints, Function.comp_def]) <;> rfl), rfl⟩) rfl (.cons (.same (by rfl)) (.cons (.same (by rfl)) .nil)) rfl rfl rfl) rfl ?_
    refine st_p (mva rfl) rfl ?_
    refine al_nil ?_
    refine nm ?_
    refine aw_seq ?_
    refine aw_seq ?_
    refine aw_region ?_
    refine st_p (mv rfl) rfl ?_
    refine st_p (OpP.conv (op_eq rfl rfl) (yes (by first | assumption | omega))) rfl ?_
    refine al_nil ?_
    refine nm ?_
    -- IF t12
    refine aw_yes (rfl) ?_
    refine aw_seq ?_
    refine aw_region ?_
    refine st_p (mv rfl) rfl ?_
    refine st_p (mva rfl) rfl ?_
    refine al_nil ?_
    refine nm ?_
    refine aw_ret ?_
    refine rs ?_
    exact ret_a ⟨[(4, .own 0 0 l.length)], [(0, .cells 1 (ints l)), (1, .cells 1 [.sl 1 (ints row)])], 2⟩ (le_to [] rfl rfl rfl rfl rfl ⟨rfl, trivial⟩ ⟨by rw [ren_intsB]; simp only [List.map_cons, List.map_nil, ren_intsB]; rfl, rfl, trivial⟩) (res1 Try.results74) (.inl rfl) ⟨rfl, rfl, rfl⟩
  | some a =>
    have hff : firstI (fun x => !openB row x) l = (a : Nat) := by unfold firstI; rw [hf]
    obtain ⟨hal, hax, hab⟩ := List.findIdx?_eq_some_iff_getElem.1 hf
    have hneg : ¬ ((a : Nat) : Int) = -1 := by omega
    have hta : l.take a = (l.take (a + 1)).filter (openB row) := by
      rw [filter_take (openB row) l a _ (List.getElem?_eq_getElem hal), if_neg (by simpa using hax), List.append_nil]
      symm
      rw [List.filter_eq_self]
      intro x hx
      obtain ⟨j, hj, rfl⟩ := List.mem_iff_getElem.1 hx
      rw [List.length_take] at hj
      have := hab j (by omega)
      rw [List.getElem_take]
      simpa using this
    rw [hff] at hi
    refine ac_fn Try.func74 rfl rfl rfl rfl (fun w0 S0 r0 => ?_)
    refine aw_seq ?_
    refine aw_region ?_
    refine st_p (mva rfl) rfl ?_
    refine al_nil ?_
    refine nm ?_
    refine aw_seq ?_
    refine aw_region ?_
    refine st_p (mv rfl) rfl ?_
    refine st_p (mv rfl) rfl ?_
    -- STOP: call slices.IndexFunc[[]int,int](t8, t9) -> 10
    refine st_o (op_callg [(0, 0), (1, 1)] 2 true [(0, .cells 1 (ints l)), (1, .cells 1 [.sl 1 (ints row)])] [0, 1] (hi) Try.func98 ⟨rfl, rfl⟩ rfl rfl rfl rfl (by omega) (by intro p hp; simp only [List.mem_cons, List.not_mem_nil, or_false] at hp; rcases hp with rfl | rfl | rfl | rfl <;> exact ⟨by first | rfl | ((simp [hget, swp, Blk.ren, AV.ren, ints, Function.comp_def]) <;> rfl), rfl⟩) rfl (.cons (.same (by rfl)) (.cons (.same (by rfl)) .nil)) rfl rfl rfl) rfl ?_
    refine st_p (mva rfl) rfl ?_
    refine al_nil ?_
    refine nm ?_
    refine aw_seq ?_
    refine aw_seq ?_
    refine aw_region ?_
    refine st_p (mv rfl) rfl ?_
    refine st_p (OpP.conv (op_eq rfl rfl) (no (by first | assumption | omega))) rfl ?_
    refine al_nil ?_
    refine nm ?_
    -- IF t12
    refine aw_no (rfl) ?_
    refine aw_skip ?_
    refine nm ?_
    refine aw_seq ?_
    refine aw_seq ?_
    refine aw_region ?_
    refine st_p (mv rfl) rfl ?_
    refine st_p (op_addi rfl rfl (by omega)) rfl ?_
    refine st_p (mva rfl) rfl ?_
    refine al_nil ?_
    refine nm ?_
    refine aw_block ?_
    -- LOOP
    refine aw_loop (fun p : {p : Nat × List Int × Nat // p.1 < p.2.2 ∧ p.2.2 ≤ l.length ∧ p.2.1.length = l.length ∧ (∀ k, p.2.2 ≤ k → p.2.1[k]? = l[k]?) ∧ p.2.1.take p.1 = (l.take p.2.2).filter (openB row)} => ⟨[(0, .own 0 0 l.length), (1, .fn (.func 75) [] [.ptr 1 0 0]), (5, .int .i64 p.1.1), (6, .int .i64 p.1.2.2)], [(0, .cells 1 (ints p.1.2.1)), (1, .cells 1 [.sl 1 (ints row)])], 2⟩) (fun p => l.length - p.1.2.2) ⟨(a, l, a + 1), Nat.lt_succ_self _, hal, rfl, fun _ _ => rfl, hta⟩ ?_ ?_
    · exact le_to [] rfl rfl rfl rfl rfl ⟨rfl, rfl, rfl, rfl, trivial⟩ ⟨by rw [ren_intsB]; simp only [List.map_cons, List.map_nil, ren_intsB]; rfl, rfl, trivial⟩
    · rintro ⟨⟨i, d, j⟩, q1, q2, q3, q4, q5⟩
      dsimp only at q1 q2 q3 q4 q5 ⊢
      have hdl := ints_len d
      by_cases hlt : j < l.length
      · obtain ⟨x, hx⟩ : ∃ x, l[j]? = some x := ⟨_, List.getElem?_eq_getElem hlt⟩
        have hxb : (ints d)[0 + ((j : Nat) : Int).toNat]? = some (.int .i64 x) := by rw [Nat.zero_add, Int.toNat_natCast]; exact ints_get ((q4 j (Nat.le_refl _)).trans hx)
        have hib : (ints d)[0 + ((i : Nat) : Int).toNat]? = some (.int .i64 (d.getD i 0)) := by rw [Nat.zero_add, Int.toNat_natCast]; exact getD_some d _ (by omega)
        have hc := miss_1 row x (h0 x (List.mem_of_getElem? hx))
        have hft := filter_take (openB row) l j x hx
        cases hp : openB row x with
        | false =>
          rw [hp] at hc hft
          rw [if_neg (by decide), List.append_nil] at hft
          refine aw_seq ?_
          refine aw_seq ?_
          refine aw_region ?_
          refine st_p (mv rfl) rfl ?_
          refine st_p (mv rfl) rfl ?_
          refine st_p (op_leno Try.underlying35 rfl) rfl ?_
          refine st_p (OpP.conv (op_lt rfl rfl) (yes (by first | assumption | omega))) rfl ?_
          refine al_nil ?_
          refine nm ?_
          -- IF t19
          refine aw_yes (rfl) ?_
          refine aw_skip ?_
          refine nm ?_
          refine aw_seq ?_
          refine aw_block ?_
          refine aw_seq ?_
          refine aw_region ?_
          refine st_p (mv rfl) rfl ?_
          refine st_p (mv rfl) rfl ?_
          refine st_p (op_indexAddr Try.underlying35 z3 rfl rfl rfl (by omega) (by omega)) rfl ?_
          refine st_p (op_load1 Try.underlying3 rfl rfl rfl (by assumption) rfl) rfl ?_
          refine st_p (mva rfl) rfl ?_
          refine al_nil ?_
          refine nm ?_
          refine aw_seq ?_
          refine aw_region ?_
          refine st_p (mv rfl) rfl ?_
          refine st_p (mv rfl) rfl ?_
          -- STOP: call t26(t27) -> 28
          refine st_o (op_callg [(0, 1)] 1 true [(0, .cells 1 [.sl 1 (ints row)])] [1] (hc) Try.func75 ⟨rfl, rfl⟩ rfl rfl rfl rfl (by omega) (by intro p hp; simp only [List.mem_cons, List.not_mem_nil, or_false] at hp; rcases hp with rfl | rfl <;> exact ⟨by first | rfl | ((simp [hget, swp, Blk.ren, AV.ren, ints, Function.comp_def]) <;> rfl), rfl⟩) rfl (.cons (.same (by rfl)) (.cons (.same (by rfl)) .nil)) rfl rfl rfl) rfl ?_
          refine st_p (op_notT rfl) rfl ?_
          refine al_nil ?_
          refine nm ?_
          -- IF t29
          refine aw_no (rfl) ?_
          refine aw_skip ?_
          refine nmb ?_
          refine nm ?_
          refine aw_region ?_
          refine st_p (mv rfl) rfl ?_
          refine st_p (op_addi rfl rfl (by omega)) rfl ?_
          refine st_p (mva rfl) rfl ?_
          refine al_nil ?_
          refine nm ?_
          exact ⟨⟨(i, d, j + 1), by dsimp only; exact ⟨by omega, hlt, q3, fun k hk => q4 k (by omega), by rw [hft]; exact q5⟩⟩, by dsimp only; omega, le_to [] rfl rfl rfl rfl rfl ⟨rfl, rfl, rfl, rfl, trivial⟩ ⟨by rw [ren_intsB]; rfl, rfl, trivial⟩⟩
        | true =>
          rw [hp] at hc hft
          rw [if_pos rfl] at hft
          refine aw_seq ?_
          refine aw_seq ?_
          refine aw_region ?_
          refine st_p (mv rfl) rfl ?_
          refine st_p (mv rfl) rfl ?_
          refine st_p (op_leno Try.underlying35 rfl) rfl ?_
          refine st_p (OpP.conv (op_lt rfl rfl) (yes (by first | assumption | omega))) rfl ?_
          refine al_nil ?_
          refine nm ?_
          -- IF t19
          refine aw_yes (rfl) ?_
          refine aw_skip ?_
          refine nm ?_
          refine aw_seq ?_
          refine aw_block ?_
          refine aw_seq ?_
          refine aw_region ?_
          refine st_p (mv rfl) rfl ?_
          refine st_p (mv rfl) rfl ?_
          refine st_p (op_indexAddr Try.underlying35 z3 rfl rfl rfl (by omega) (by omega)) rfl ?_
          refine st_p (op_load1 Try.underlying3 rfl rfl rfl (by assumption) rfl) rfl ?_
          refine st_p (mva rfl) rfl ?_
          refine al_nil ?_
          refine nm ?_
          refine aw_seq ?_
          refine aw_region ?_
          refine st_p (mv rfl) rfl ?_
          refine st_p (mv rfl) rfl ?_
          -- STOP: call t26(t27) -> 28
          refine st_o (op_callg [(0, 1)] 1 true [(0, .cells 1 [.sl 1 (ints row)])] [1] (hc) Try.func75 ⟨rfl, rfl⟩ rfl rfl rfl rfl (by omega) (by intro p hp; simp only [List.mem_cons, List.not_mem_nil, or_false] at hp; rcases hp with rfl | rfl <;> exact ⟨by first | rfl | ((simp [hget, swp, Blk.ren, AV.ren, ints, Function.comp_def]) <;> rfl), rfl⟩) rfl (.cons (.same (by rfl)) (.cons (.same (by rfl)) .nil)) rfl rfl rfl) rfl ?_
          refine st_p (op_notF rfl) rfl ?_
          refine al_nil ?_
          refine nm ?_
          -- IF t29
          refine aw_yes (rfl) ?_
          refine aw_seq ?_
          refine aw_region ?_
          refine st_p (mv rfl) rfl ?_
          refine st_p (mv rfl) rfl ?_
          refine st_p (mv rfl) rfl ?_
          refine st_p (op_indexAddr Try.underlying35 z3 rfl rfl rfl (by omega) (by omega)) rfl ?_
          refine st_n (st1s z3 rfl rfl rfl (by assumption) rfl rfl rfl) ?_
          refine al_nil ?_
          refine nm ?_
          refine aw_region ?_
          refine st_p (mv rfl) rfl ?_
          refine st_p (op_addi rfl rfl (by omega)) rfl ?_
          refine st_p (mva rfl) rfl ?_
          refine al_nil ?_
          refine nmb ?_
          refine nm ?_
          refine aw_region ?_
          refine st_p (mv rfl) rfl ?_
          refine st_p (op_addi rfl rfl (by omega)) rfl ?_
          refine st_p (mva rfl) rfl ?_
          refine al_nil ?_
          refine nm ?_
          have hA : ∀ k, j + 1 ≤ k → (d.set i x)[k]? = l[k]? := fun k hk => by
            rw [List.getElem?_set_ne (by omega)]
            exact q4 k (by omega)
          have hB : (d.set i x).take (i + 1) = (l.take (j + 1)).filter (openB row) := by
            rw [hft, ← q5, List.take_add_one, List.getElem?_set_self (by omega), List.take_set_of_le (Nat.le_refl _)]
            rfl
          refine ⟨⟨(i + 1, d.set i x, j + 1), by dsimp only; exact ⟨by omega, hlt, by rw [List.length_set]; exact q3, hA, hB⟩⟩, by dsimp only; omega, le_to [] rfl rfl rfl rfl rfl ⟨rfl, rfl, rfl, rfl, trivial⟩ ⟨?_, rfl, trivial⟩⟩
          rw [ren_intsB, ← ints_set]
          show some (Blk.cells 1 ((ints d).set (0 + ((i : Nat) : Int).toNat) _)) = _
          rw [Nat.zero_add, Int.toNat_natCast]
      · rw [show j = l.length by omega, List.take_length] at q5
        have hml : (l.filter (openB row)).length = i := by rw [← q5, List.length_take]; omega
        refine aw_seq ?_
        refine aw_seq ?_
        refine aw_region ?_
        refine st_p (mv rfl) rfl ?_
        refine st_p (mv rfl) rfl ?_
        refine st_p (op_leno Try.underlying35 rfl) rfl ?_
        refine st_p (OpP.conv (op_lt rfl rfl) (no (by first | assumption | omega))) rfl ?_
        refine al_nil ?_
        refine nm ?_
        -- IF t19
        refine aw_no (rfl) ?_
        refine aw_exit ?_
        refine xs ?_
        refine xs ?_
        refine xb ?_
        refine nm ?_
        refine aw_seq ?_
        refine aw_region ?_
        refine st_p (mv rfl) rfl ?_
        refine st_p (mv rfl) rfl ?_
        refine st_p (op_slice Try.underlying35 z3 rfl rfl (by exact ⟨_, rfl⟩) (by exact rfl) (by first | omega | (simp only [bl_len, List.length_map, List.length_append, List.length_take, List.length_drop]; omega)) (by first | omega | (simp only [bl_len, List.length_map, List.length_append, List.length_take, List.length_drop]; omega)) (by first | omega | (simp only [bl_len, List.length_map, List.length_append, List.length_take, List.length_drop]; omega))) rfl ?_
        refine st_n (op_clearP Try.underlying35 i3 o3 rfl (by omega) rfl (by omega) rfl) ?_
        refine al_nil ?_
        refine nm ?_
        refine aw_seq ?_
        refine aw_region ?_
        refine st_p (mv rfl) rfl ?_
        refine st_p (mv rfl) rfl ?_
        refine st_p (op_slice Try.underlying35 z3 rfl rfl (by exact rfl) (by exact ⟨_, rfl⟩) (by first | omega | (simp only [bl_len, List.length_map, List.length_append, List.length_take, List.length_drop]; omega)) (by first | omega | (simp only [bl_len, List.length_map, List.length_append, List.length_take, List.length_drop]; omega)) (by first | omega | (simp only [bl_len, List.length_map, List.length_append, List.length_take, List.length_drop]; omega))) rfl ?_
        refine st_p (mva rfl) rfl ?_
        refine al_nil ?_
        refine nm ?_
        refine aw_ret ?_
        refine ret_a ⟨[(4, .own 0 0 (l.filter (openB row)).length)], [(0, .cells 1 (ints (l.filter (openB row)))), (1, .cells 1 [.sl 1 (ints row)])], 2⟩ (le_to [] rfl rfl rfl rfl rfl ⟨?_, trivial⟩ ⟨?_, rfl, trivial⟩) (res1 Try.results74) (.inl rfl) ⟨rfl, rfl, rfl⟩
        · show AV.own 0 (0 + Int.toNat 0) (((i : Nat) : Int).toNat - Int.toNat 0) = AV.own 0 0 (l.filter (openB row)).length
          rw [hml]; simp
        · rw [ren_intsB]
          show some (Blk.cells 1 ((ints d).take (0 + ((i : Nat) : Int).toNat))) = _
          rw [Nat.zero_add, Int.toNat_natCast, ints_take, q5]

theorem bits_Missing_no (t : TX) (n : Int) (row : List Int) (hr : t.reads.length ≤ 12) (hw : t.writes.length ≤ 1000000) (hkr : ∀ r ∈ t.reads, r.key.length ≤ 281474976710656) (hn : n ≤ 9223372036854775807) (hn1 : 1 ≤ n)
    (hv : ¬ verdI row (readsL (t.reads.map RD.key) n) = 0) :
    AC Try.prog 33 [txA t, .int .i64 n, .sl 1 (ints row)] [] 0 false (fun v h nx => v = .nils ∧ h = [] ∧ nx = 0) := by
  have hV := bits_Verdict t n row hr hw hkr hn hn1
  generalize verdI row (readsL (t.reads.map RD.key) n) = V at hV hv
  obtain ⟨ses, seq, rl, wl⟩ := t
  dsimp only [txA] at hV ⊢
  refine ac_fn Try.func33 rfl rfl rfl rfl (fun w0 S0 r0 => ?_)
  refine aw_seq ?_
  refine aw_region ?_
  refine st_o (bx rfl rfl) rfl ?_
  refine st_o (bx rfl rfl) rfl ?_
  refine st_p (mva rfl) rfl ?_
  refine al_nil ?_
  refine nm ?_
  refine aw_seq ?_
  refine aw_seq ?_
  refine aw_region ?_
  refine st_p (op_loadA Try.underlying26 rfl z26 rfl rfl rfl rfl) rfl ?_
  refine st_p (mv rfl) rfl ?_
  refine st_p (op_load1 Try.underlying35 rfl rfl rfl rfl rfl) rfl ?_
  -- STOP: call diwan/bits.Verdict(t7, t8, t9) -> 10
  refine st_o ((op_callq (hV) Try.func31 ⟨rfl, rfl⟩ rfl rfl (fun nx => (.cons (.same (by rfl)) (.cons (.same (by rfl)) (.cons (.same (by rfl)) .nil)))) (by rintro _ _ _ ⟨rfl, rfl, rfl⟩; exact .same rfl)).ok) rfl ?_
  refine st_p (OpP.conv (op_ne rfl rfl) (yes (by first | assumption | omega))) rfl ?_
  refine al_nil ?_
  refine nm ?_
  -- IF t11
  refine aw_yes (rfl) ?_
  refine aw_seq ?_
  refine aw_region ?_
  refine st_p (mva rfl) rfl ?_
  refine al_nil ?_
  refine nm ?_
  refine aw_ret ?_
  refine rs ?_
  exact ret_a ⟨[(6, .nils)], [], 0⟩ (le_to [] rfl rfl rfl rfl rfl ⟨rfl, trivial⟩ trivial) (res1 Try.results33) (.inr ⟨rfl, rfl⟩) ⟨rfl, rfl, rfl⟩

theorem bits_Missing (t : TX) (n : Int) (row : List Int) (hr : t.reads.length ≤ 12) (hw : t.writes.length ≤ 1000000) (hkr : ∀ r ∈ t.reads, r.key.length ≤ 281474976710656) (hn : n ≤ 9223372036854775807) (hn1 : 1 ≤ n)
    (hv : verdI row (readsL (t.reads.map RD.key) n) = 0) :
    AC Try.prog 33 [txA t, .int .i64 n, .sl 1 (ints row)] [] 0 false (fun v h nx => v = .own 0 0 (missI row (readsL (t.reads.map RD.key) n)).length ∧ h = [(0, .cells 1 (ints (missI row (readsL (t.reads.map RD.key) n))))] ∧ nx = 1) := by
  have hV := bits_Verdict t n row hr hw hkr hn hn1
  have hR := txn_Reads t n hr hw hkr hn
  have hge : ∀ x ∈ readsL (t.reads.map RD.key) n, 0 ≤ x := fun x hx => by
    obtain ⟨k, _, rfl⟩ := (readsL_mem _ _ _).1 hx
    exact (shardI_range k n hn1).1
  have hRL := readsL_le (t.reads.map RD.key) n
  rw [List.length_map] at hRL
  unfold missI
  rw [if_pos hv]
  generalize verdI row (readsL (t.reads.map RD.key) n) = V at hV hv
  subst hv
  generalize readsL (t.reads.map RD.key) n = RL at hR hge hRL ⊢
  have hD := delete_miss row RL (by omega) hge
  have hns : ∀ m : List Int, (Blk.cells 1 (ints m)).nosl = true := fun m => by simp [Blk.nosl, AV.nosl, ints]
  obtain ⟨ses, seq, rl, wl⟩ := t
  dsimp only [txA] at hV hR hr hRL ⊢
  refine ac_fn Try.func33 rfl rfl rfl rfl (fun w0 S0 r0 => ?_)
  refine aw_seq ?_
  refine aw_region ?_
  refine st_o (bx rfl rfl) rfl ?_
  refine st_o (bx rfl rfl) rfl ?_
  refine st_p (mva rfl) rfl ?_
  refine al_nil ?_
  refine nm ?_
  refine aw_seq ?_
  refine aw_seq ?_
  refine aw_region ?_
  refine st_p (op_loadA Try.underlying26 rfl z26 rfl rfl rfl rfl) rfl ?_
  refine st_p (mv rfl) rfl ?_
  refine st_p (op_load1 Try.underlying35 rfl rfl rfl rfl rfl) rfl ?_
  -- STOP: call diwan/bits.Verdict(t7, t8, t9) -> 10
  refine st_o ((op_callq (hV) Try.func31 ⟨rfl, rfl⟩ rfl rfl (fun nx => (.cons (.same (by rfl)) (.cons (.same (by rfl)) (.cons (.same (by rfl)) .nil)))) (by rintro _ _ _ ⟨rfl, rfl, rfl⟩; exact .same rfl)).ok) rfl ?_
  refine st_p (OpP.conv (op_ne rfl rfl) (no (by first | assumption | omega))) rfl ?_
  refine al_nil ?_
  refine nm ?_
  -- IF t11
  refine aw_no (rfl) ?_
  refine aw_skip ?_
  refine nm ?_
  refine aw_seq ?_
  refine aw_region ?_
  refine st_p (op_loadA Try.underlying26 rfl z26 rfl rfl rfl rfl) rfl ?_
  refine st_p (mv rfl) rfl ?_
  -- STOP: call diwan/txn.Reads(t12, t13) -> 14
  refine st_o (op_callg [] 0 false [] [] (hR) Try.func16 ⟨rfl, rfl⟩ rfl rfl rfl rfl (by omega) (by intro p hp; cases hp) rfl (.cons (.same (by rfl)) (.cons (.same (by rfl)) .nil)) rfl rfl rfl) rfl ?_
  refine st_p (mkf rfl rfl) rfl ?_
  -- STOP: call slices.DeleteFunc[[]int,int](t14, t15) -> 16
  refine st_o (op_callg [(0, 2), (1, 1)] 2 true [(0, .cells 1 (ints RL)), (1, .cells 1 [.sl 1 (ints row)])] [2, 1] (hD) Try.func74 ⟨rfl, rfl⟩ rfl rfl rfl rfl (by omega) (by intro p hp; simp only [List.mem_cons, List.not_mem_nil, or_false] at hp; rcases hp with rfl | rfl | rfl | rfl <;> exact ⟨by first | rfl | ((simp [hget, swp, Blk.ren, AV.ren, ints, Function.comp_def]) <;> rfl), rfl⟩) rfl (.cons (.same (by rfl)) (.cons (.same (by rfl)) .nil)) rfl rfl rfl) rfl ?_
  refine st_p (mva rfl) rfl ?_
  refine al_nil ?_
  refine nm ?_
  refine aw_ret ?_
  exact ret_a ⟨[(6, .own 0 0 (RL.filter (openB row)).length)], [(0, .cells 1 (ints (RL.filter (openB row))))], 1⟩ (le_to [(0, 2)] rfl rfl rfl rfl rfl ⟨rfl, trivial⟩ ⟨by rw [ren_intsB]; simp only [List.map_cons, List.map_nil, ren_intsB]; rfl, trivial⟩) (res1 Try.results33) (.inr ⟨rfl, by simp only [List.all_cons, List.all_nil, hns, Bool.and_true]⟩) ⟨rfl, rfl, rfl⟩

end Go.Proofs.Ytpggknkhldecaaa.Abs
end
section
/-
  What shards say of a position, as a row.
-/
namespace Go.Proofs.Ytpggknkhldecaaa.Abs

def rowN (l : List NT) (p : Int) (n : Nat) : List Int := (List.range n).map fun s => ofN l p (s : Nat)
theorem rowN_len (l : List NT) (p : Int) (n : Nat) : (rowN l p n).length = n := by simp [rowN]
theorem rowN_snoc (l : List NT) (p : Int) (n : Nat) : rowN l p (n + 1) = rowN l p n ++ [ofN l p (n : Nat)] := by
  unfold rowN
  rw [List.range_succ, List.map_append]; rfl

theorem bits_Row (l : List NT) (p : Int) (n : Nat) (hl : l.length ≤ 90000) (hr : RisN l) (hn : n ≤ 1000) :
    AC Try.prog 28 [.sl 3 (nts l), .int .i64 p, .int .i64 n] [] 0 false (fun v h nx => v = .own 0 0 n ∧ h = [(0, .cells 1 (ints (rowN l p n)))] ∧ nx = 1) := by
  have ho := fun s : Int => bits_Of l p s (by omega) hr
  have hmm : min (max (n : Int) 0) 1024 = (n : Int) := by omega
  have hns : ∀ m : List Int, (Blk.cells 1 (ints m)).nosl = true := fun m => by simp [Blk.nosl, AV.nosl, ints]
  refine ac_fn Try.func28 rfl rfl rfl rfl (fun w0 S0 r0 => ?_)
  refine aw_seq ?_
  refine aw_region ?_
  refine st_p (mva rfl) rfl ?_
  refine al_nil ?_
  refine nm ?_
  refine aw_seq ?_
  refine aw_seq ?_
  refine aw_region ?_
  refine st_p (mv rfl) rfl ?_
  refine st_p (op_max rfl rfl) rfl ?_
  refine st_p (op_min rfl rfl) rfl ?_
  refine st_p (mv rfl) rfl ?_
  refine al_nil ?_
  refine nm ?_
  refine aw_block ?_
  -- LOOP
  refine aw_virt 6 1 rfl ?_
  refine aw_loop (fun i : {i : Nat // i ≤ n} => ⟨[(0, .sl 3 (nts l)), (1, .int .i64 p), (6, .own 0 0 i.1), (10, .int .i64 n), (11, .int .i64 i.1)], [(0, .cells 1 (ints (rowN l p i.1)))], 1⟩) (fun i => n - i.1) ⟨0, Nat.zero_le _⟩ ?_ ?_
  · exact le_to [] rfl rfl rfl rfl rfl ⟨rfl, rfl, rfl, congrArg (AV.int .i64) hmm, rfl, trivial⟩ ⟨rfl, trivial⟩
  · rintro ⟨i, hi⟩
    dsimp only
    have hil : (ints (rowN l p i)).length = i := by rw [ints_len, rowN_len]
    by_cases hlt : i < n
    · have hoi := ho (i : Nat)
      refine aw_seq ?_
      refine aw_region ?_
      refine st_p (OpP.conv (op_lt rfl rfl) (yes (by first | assumption | omega))) rfl ?_
      refine al_nil ?_
      refine nm ?_
      refine aw_seq ?_
      -- IF t12
      refine aw_yes (rfl) ?_
      refine aw_skip ?_
      refine nm ?_
      refine aw_seq ?_
      refine aw_block ?_
      refine aw_seq ?_
      refine aw_region ?_
      refine st_p (mv rfl) rfl ?_
      refine st_p (mva rfl) rfl ?_
      refine al_nil ?_
      refine nm ?_
      refine aw_region ?_
      refine st_p (mv rfl) rfl ?_
      refine st_p (mv rfl) rfl ?_
      refine st_p (mv rfl) rfl ?_
      refine st_p (mv rfl) rfl ?_
      -- STOP: call diwan/bits.Of(t15, t16, t17) -> 18
      refine st_o ((op_callq (hoi) Try.func29 ⟨rfl, rfl⟩ rfl rfl (fun nx => (.cons (.same (by rfl)) (.cons (.same (by rfl)) (.cons (.same (by rfl)) .nil)))) (by rintro _ _ _ ⟨rfl, rfl, rfl⟩; exact .same rfl)).ok) rfl ?_
      refine st_o (bsl Try.underlying35 i3 o3 (by decide) rfl rfl rfl (by decide)) rfl ?_
      refine st_o (op_app Try.underlying35 Try.underlying35 (.inl ⟨_, rfl⟩) i3 o3 rfl rfl rfl (by first | rfl | omega | (simp; done) | (simp; omega)) ((SrcA.whole rfl (by first | rfl | simp)).ok rfl (by first | assumption | intro z hz; simp only [List.mem_singleton, List.drop_zero, List.take_succ_cons, List.take_zero, List.mem_cons, List.not_mem_nil, or_false, List.mem_map] at hz; first | (subst hz; rfl) | (obtain ⟨_, _, rfl⟩ := hz; rfl) | (rcases hz with rfl | rfl <;> rfl))) (by first | omega | (simp; try omega)) rfl) rfl ?_
      refine st_p (mva rfl) rfl ?_
      refine al_nil ?_
      refine nmb ?_
      refine nm ?_
      refine aw_region ?_
      refine st_p (op_addi rfl rfl (by omega)) rfl ?_
      refine st_p (mv rfl) rfl ?_
      refine al_nil ?_
      refine nm ?_
      refine ⟨⟨i + 1, hlt⟩, by dsimp only; omega, le_to [(0, 2)] rfl rfl rfl rfl rfl ⟨rfl, rfl, ?_, rfl, rfl, trivial⟩ ⟨?_, trivial⟩⟩
      · simp only [tget, AV.ren, swp]
        simp [hil]
      · rw [ren_intsB, rowN_snoc]
        simp [hget, swp, ints]
    · have hin : i = n := by omega
      subst hin
      refine aw_seq ?_
      refine aw_region ?_
      refine st_p (OpP.conv (op_lt rfl rfl) (no (by first | assumption | omega))) rfl ?_
      refine al_nil ?_
      refine nm ?_
      refine aw_seq ?_
      -- IF t12
      refine aw_no (rfl) ?_
      refine aw_exit ?_
      refine xs ?_
      refine xs ?_
      refine xb ?_
      refine nm ?_
      refine aw_seq ?_
      refine aw_region ?_
      refine st_p (mv rfl) rfl ?_
      refine st_p (mva rfl) rfl ?_
      refine al_nil ?_
      refine nm ?_
      refine aw_ret ?_
      exact ret_a ⟨[(6, .own 0 0 i)], [(0, .cells 1 (ints (rowN l p i)))], 1⟩ (le_to [] rfl rfl rfl rfl rfl ⟨rfl, trivial⟩ ⟨by rw [ren_intsB]; rfl, trivial⟩) (res1 Try.results28) (.inr ⟨rfl, by simp only [List.all_cons, List.all_nil, hns, Bool.and_true]⟩) ⟨rfl, rfl, rfl⟩

end Go.Proofs.Ytpggknkhldecaaa.Abs
end
section
/-
  Notes out of a row of numbers, and what was noted first, in a row of 27.
-/
namespace Go.Proofs.Ytpggknkhldecaaa.Abs

theorem addN_len (l : List NT) (p s b : Int) : (addN l p s b).length ≤ l.length + 1 := by
  unfold addN insN
  split
  · omega
  · simp only [List.length_append, List.length_cons, List.length_take, List.length_drop]; omega
theorem addN_nil {p s b : Int} : addN [] p s b = if b ≠ 1 ∧ b ≠ 2 then [] else [⟨p, s, b⟩] := by
  unfold addN
  have : hasN [] p s = false := rfl
  rw [this]
  by_cases h : b ≠ 1 ∧ b ≠ 2
  · rw [if_pos (.inr h), if_pos h]
  · rw [if_neg (fun q => q.elim (fun e => by cases e) h), if_neg h]; rfl
theorem addN_ne {l : List NT} {p s b : Int} (h : l ≠ []) : addN l p s b ≠ [] := by
  unfold addN insN
  split
  · exact h
  · simp

/-- A number below m, of a byte. -/
theorem u8_rem {a : Int} {m : Nat} (h : (Lit.int .u8 a).wf = true) (h0 : 0 < m) (h1 : m ≤ 256) : ∃ k : Nat, IntKind.i64.wrap (a.tmod (m : Int)) = (k : Int) ∧ k < m := by
  have hg : 0 ≤ a := by
    simp only [Lit.wf, Bool.and_eq_true, decide_eq_true_eq] at h
    have : IntKind.u8.min = 0 := rfl
    omega
  have h2 : 0 ≤ a.tmod (m : Int) := Int.tmod_nonneg _ hg
  have h3 : a.tmod (m : Int) < m := Int.tmod_lt_of_pos _ (by omega)
  refine ⟨(a.tmod (m : Int)).toNat, ?_, by omega⟩
  rw [wrap_i64 (by omega) (by omega)]
  omega

def triA (p : Int × Int × Int) : AV := .agg [.int .u8 p.1, .int .u8 p.2.1, .int .u8 p.2.2]
def noteS (l : List NT) (q : Int × Int × Int) : List NT := addN l (IntKind.i64.wrap (q.1.tmod 9)) (IntKind.i64.wrap (q.2.1.tmod 3)) (IntKind.i64.wrap (q.2.2.tmod 4))
def noteL (l : List (Int × Int × Int)) : List NT := l.foldl noteS []
theorem noteL_step {l : List (Int × Int × Int)} {i : Nat} {q : Int × Int × Int} (h : l[i]? = some q) : noteL (l.take (i + 1)) = noteS (noteL (l.take i)) q := by
  unfold noteL
  rw [List.take_add_one, h, List.foldl_append]; rfl
theorem risN_nil : RisN [] := List.Pairwise.nil
theorem okN_nil : OkN [] := fun x h => absurd h List.not_mem_nil
theorem foldN_ok : ∀ (l : List (Int × Int × Int)) (m : List NT), RisN m → OkN m → RisN (l.foldl noteS m) ∧ OkN (l.foldl noteS m) ∧ (l.foldl noteS m).length ≤ m.length + l.length
  | [], m, h1, h2 => ⟨h1, h2, Nat.le_refl _⟩
  | q :: l, m, h1, h2 => by
    obtain ⟨k1, k2, k3⟩ := foldN_ok l (noteS m q) (addN_rises h1) (addN_ok h2)
    have := addN_len m (IntKind.i64.wrap (q.1.tmod 9)) (IntKind.i64.wrap (q.2.1.tmod 3)) (IntKind.i64.wrap (q.2.2.tmod 4))
    refine ⟨k1, k2, ?_⟩
    have e : noteS m q = addN m (IntKind.i64.wrap (q.1.tmod 9)) (IntKind.i64.wrap (q.2.1.tmod 3)) (IntKind.i64.wrap (q.2.2.tmod 4)) := rfl
    rw [e] at k3
    rw [List.foldl_cons, List.length_cons]
    rw [e]
    omega
theorem noteL_ok (l : List (Int × Int × Int)) : RisN (noteL l) ∧ OkN (noteL l) ∧ (noteL l).length ≤ l.length := by
  obtain ⟨h1, h2, h3⟩ := foldN_ok l [] risN_nil okN_nil
  exact ⟨h1, h2, by rw [List.length_nil, Nat.zero_add] at h3; exact h3⟩

end Go.Proofs.Ytpggknkhldecaaa.Abs
end
section
/-
  Arrays that are read alone, and arrays among what a statement is given. It holds of any program.
-/
namespace Go.Proofs.Ytpggknkhldecaaa.Abs

section
variable {P : Program} {tm : List (Nat × AV)} {h : Heap} {nx : Nat}

theorem op_indexAddrAL {t e : TypeId} {x y : Operand} {len sz : Nat} {cs : List AV} {k : IntKind} {q : Int} (hu : P.underlying t = some (.array len e)) (hz : (P.info? e).map (·.size) = some sz) (hx : oev tm x = .lp cs) (hy : oev tm y = .int k q)
    (h0 : 0 ≤ q) (h1 : q < len) : OpP P (.indexAddr t x y) tm h (.lp (cs.drop (q.toNat * sz))) := fun c n nx ρ S a w hr => by
  have hh := ev_vr hr hx
  have hi := ev_int hr hy
  generalize he : a.eval x = u at hh
  cases hh with
  | @lp _ _ blk off vs q1 q2 q3 q4 =>
    refine ⟨.pointer (some ⟨blk, off + q.toNat * sz, none⟩), fun oo ho => ?_, ?_⟩
    · unfold execOp; rw [ho]
      simp [he, hi, Instr.indexAt, Instr.sureAddr, run_underlying hu, asIntOf, h0, h1, run_sizeOf hz, Addr.add_lit]
    · refine .lp (vs.drop (q.toNat * sz)) q1 (by simp [q2]) (fun i u hu => ?_) (fun i x u hx hu => ?_)
      · rw [List.getElem?_drop] at hu
        have := q3 _ u hu
        rwa [Nat.add_assoc]
      · rw [List.getElem?_drop] at hx hu
        exact q4 _ x u hx hu

/-- An empty row that is written out: a row of one's own without a block, called b. -/
theorem op_bsl0 {t e : TypeId} {sz bytes : Nat} {z : Value} (b : Nat) (hu : P.underlying t = some (.slice e)) (hi : (P.info? e).map (fun i => (i.zero, i.size, i.bytes)) = some (some z, sz, bytes)) (hzs : z.cells.size = sz ∧ ∀ (i : Nat) (u : Value), z.cells[i]? = some u → u.oneCell' = true)
    (hs : 0 < sz) : OpQ P (.buildSlice t 0 #[]) tm h (.own b 0 0) := by
  intro nx c n ρ S a w hr o ho
  obtain ⟨us, u2, husz, hvl, hrun⟩ := bsl_raw (vs := []) (len := 0) (parts := #[]) hu hi hzs.1 hzs.2 hs rfl rfl (fun v hv => by cases hv) (by omega) hr
  unfold Does
  rw [hrun o ho]
  have hsame := Same.alloc w (.cells us e)
  have hnew := heap_alloc_new w (.cells us e)
  have hsz : (w.alloc (.cells us e)).heap.size = w.heap.size + 1 := by simp
  refine ⟨ρ, fun b => S b ∨ b = w.heap.size, hr.grow (fun b hb => .inl hb) (fun b hb => hb.imp id (fun h => Nat.le_of_eq h.symm)) (fun b hb => ?_) hsame, ?_, fun _ _ h => h, fun b hb => ⟨.inl hb, hsame.block b (hr.sim.lt b hb)⟩⟩
  · rw [hsz]
    rcases hb with h | h
    · exact Nat.lt_succ_of_lt (hr.sim.lt b h)
    · omega
  · exact .own0

theorem aw_ghost {c : Ctx} {n : Nat} {Q : Exit → St → Prop} {code : Code} (sz : Nat) (k : AW P c n code Q ⟨tm, (nx, .cells sz []) :: h, nx + 1⟩) : AW P c n code Q ⟨tm, h, nx⟩ := fun ρ S a w hr => k ρ S a w (hr.virt sz)
end

section
variable {P : Program} {w : World} {t : TypeId} {α : Type}

theorem rda_array {n : Nat} {e : TypeId} {l : List (Nat × TypeId)} {sz : Nat} {F : α → List AV} {g : α → Prop} (ht : P.underlying t = some (.array n e)) (hl : (List.range n).map (fun i => (i * P.cellsOf e, e)) = l) (hsz : P.cellsOf t = sz) (h : RdF P w l 0 sz F g) : RdA P w t sz (fun a => .agg (F a)) g := by
  intro H enc base spare held fuel cs x hx hz
  obtain ⟨xs, m, rfl, hxe, hcl, hxl, hel⟩ := DataW.trod_array ht hx
  obtain ⟨a, h1, h2, h3⟩ := h H enc base spare held m cs (by omega) (fun p hp => by
    rw [← hl] at hp
    obtain ⟨i, hi, rfl⟩ := List.mem_map.1 hp
    rw [List.mem_range] at hi
    have hxi : i < xs.length := by omega
    have := hel i hi
    rw [List.getElem?_eq_getElem hxi] at this
    refine ⟨xs[i], by simpa using this, fun q hq => hz q ?_⟩
    rw [hxe]
    simp only [DataW.weights, ht]
    exact sz_all hq (List.mem_map.2 ⟨xs[i], List.getElem_mem _, rfl⟩))
  exact ⟨a, h1, by omega, h2, h3⟩
end
theorem le_nilT {c : Ctx} {n : Nat} {tm : List (Nat × AV)} {h : Heap} {nx : Nat} (i sz : Nat) (hi : tget tm i = .nils) : Le c n ⟨tm, h, nx⟩ ⟨(i, .sl sz []) :: tm, h, nx⟩ := fun ρ S a w hv => by
  refine ⟨ρ, ⟨hv.size, hv.defers, fun j => ?_, hv.sim, hv.post, hv.fresh, hv.le, hv.dom⟩⟩
  by_cases e : i = j
  · subst e
    simp only [tget, if_true]
    have := hv.tmps i
    rw [show tget (St.mk tm h nx).tm i = .nils from hi] at this
    generalize a.tmps.getD i undef = u at this
    cases this
    exact .sl0
  · simp only [tget, e, if_false]; exact hv.tmps j
theorem Le.trans {c : Ctx} {n : Nat} {s1 s2 s3 : St} (h1 : Le c n s1 s2) (h2 : Le c n s2 s3) : Le c n s1 s3 := fun ρ S a w hr => by
  obtain ⟨ρ2, hr2⟩ := h1 ρ S a w hr
  exact h2 ρ2 S a w hr2

end Go.Proofs.Ytpggknkhldecaaa.Abs
end
section
/-
  The document's notes: one more, what is said, which shards are read, what all say, and who has not said.
-/
namespace Go.Proofs.Ytpggknkhldecaaa.Abs

theorem cntN_at {l : List NT} {p s : Int} {k : Nat} (h1 : ∀ (j : Nat) (x : NT), j < k → l[j]? = some x → ltN x p s = true) (h2 : k = l.length ∨ ∃ x, l[k]? = some x ∧ ltN x p s = false) (hk : k ≤ l.length) : cntN l p s = k := by
  unfold cntN
  have e : l.takeWhile (fun x => ltN x p s) = l.take k := by
    rcases h2 with h | ⟨x, hx, hf⟩
    · subst h
      have hall : ∀ x ∈ l, ltN x p s = true := fun x hx => by
        obtain ⟨j, hj⟩ := List.getElem?_of_mem hx
        exact h1 j x (List.getElem?_eq_some_iff.1 hj).1 hj
      have := List.takeWhile_append_of_pos (l₂ := []) hall
      rw [List.append_nil, List.takeWhile_nil, List.append_nil] at this
      rw [List.take_length, this]
    · have hl : l = l.take k ++ x :: l.drop (k + 1) := by
        have := (List.getElem?_eq_some_iff.1 hx)
        obtain ⟨hlt, hxe⟩ := this
        rw [← hxe, ← List.drop_eq_getElem_cons hlt, List.take_append_drop]
      have hall : ∀ y ∈ l.take k, ltN y p s = true := fun y hy => by
        obtain ⟨j, hj⟩ := List.getElem?_of_mem hy
        have hjk : j < k := by have := (List.getElem?_eq_some_iff.1 hj).1; rw [List.length_take] at this; omega
        rw [List.getElem?_take_of_lt hjk] at hj
        exact h1 j y hjk hj
      conv => lhs; rw [hl]
      rw [List.takeWhile_append_of_pos hall, List.takeWhile_cons_of_neg (by rw [hf]; decide), List.append_nil]
  rw [e, List.length_take]
  omega

theorem ofN_first {l : List NT} {p s : Int} {k : Nat} {x : NT} (hx : l[k]? = some x) (he : eqN x p s = true) (h : ∀ (j : Nat) (y : NT), j < k → l[j]? = some y → eqN y p s = false) : ofN l p s = x.bit := by
  unfold ofN
  have : l.find? (fun y => eqN y p s) = some x := by
    rw [List.find?_eq_some_iff_getElem]
    refine ⟨he, k, (List.getElem?_eq_some_iff.1 hx).1, (List.getElem?_eq_some_iff.1 hx).2, fun j hj => ?_⟩
    have hjl : j < l.length := Nat.lt_trans hj (List.getElem?_eq_some_iff.1 hx).1
    rw [h j l[j] hj (List.getElem?_eq_getElem hjl)]; rfl
  rw [this]
theorem ofN_nowhere {l : List NT} {p s : Int} (h : ∀ (j : Nat) (y : NT), l[j]? = some y → eqN y p s = false) : ofN l p s = 0 := by
  refine ofN_none ?_
  rw [Bool.eq_false_iff]
  intro hh
  obtain ⟨x, hx, he⟩ := List.any_eq_true.1 hh
  obtain ⟨j, hj⟩ := List.getElem?_of_mem hx
  rw [h j x hj] at he
  cases he

theorem ref_NoteOf (l : List NT) (p s : Int) (hl : l.length ≤ 100000) :
    AC Try.prog 30 [.sl 3 (nts l), .int .i64 p, .int .i64 s] [] 0 false (fun v h nx => v = .int .i64 (ofN l p s) ∧ h = [] ∧ nx = 0) := by
  have hnl := nts_len l
  refine ac_fn Try.func30 rfl rfl rfl rfl (fun w0 S0 r0 => ?_)
  refine aw_seq ?_
  refine aw_region ?_
  refine st_p (mva rfl) rfl ?_
  refine al_nil ?_
  refine nm ?_
  refine aw_seq ?_
  refine aw_seq ?_
  refine aw_region ?_
  refine st_p (mva rfl) rfl ?_
  refine al_nil ?_
  refine nm ?_
  refine aw_block ?_
  -- LOOP
  refine aw_loop (fun i : {i : Nat // i ≤ l.length ∧ ∀ (j : Nat) (x : NT), j < i → l[j]? = some x → eqN x p s = false} => ⟨[(0, .sl 3 (nts l)), (1, .int .i64 p), (2, .int .i64 s), (7, .int .i64 i.1)], [], 0⟩) (fun i => l.length - i.1) ⟨0, Nat.zero_le _, fun j x hj => absurd hj (Nat.not_lt_zero _)⟩ ?_ ?_
  · exact le_to [] rfl rfl rfl rfl rfl ⟨rfl, rfl, rfl, rfl, trivial⟩ trivial
  · rintro ⟨i, hi, ha⟩
    dsimp only
    by_cases hlt : i < l.length
    · obtain ⟨x, hx⟩ : ∃ x, l[i]? = some x := ⟨_, List.getElem?_eq_getElem hlt⟩
      have hxb : (nts l)[((i : Nat) : Int).toNat]? = some (.agg [.int .i64 x.pos, .int .i64 x.shard, .int .i64 x.bit]) := by rw [Int.toNat_natCast]; exact nts_get hx
      have hstep : eqN x p s = false → ∀ (j : Nat) (y : NT), j < i + 1 → l[j]? = some y → eqN y p s = false := fun he j y hj hy => by
        rcases Nat.lt_succ_iff_lt_or_eq.1 hj with h | rfl
        · exact ha j y h hy
        · rw [hx] at hy; obtain rfl := Option.some.inj hy; exact he
      by_cases h1 : x.pos = p
      · by_cases h2 : x.shard = s
        · have ho := ofN_first hx (by simp [eqN, h1, h2]) ha
          refine aw_seq ?_
          refine aw_seq ?_
          refine aw_region ?_
          refine st_p (mv rfl) rfl ?_
          refine st_p (mv rfl) rfl ?_
          refine st_p (op_len Try.underlying45 rfl) rfl ?_
          refine st_p (OpP.conv (op_lt rfl rfl) (yes (by first | assumption | omega))) rfl ?_
          refine al_nil ?_
          refine nm ?_
          -- IF t11
          refine aw_yes (rfl) ?_
          refine aw_skip ?_
          refine nm ?_
          refine aw_seq ?_
          refine aw_block ?_
          refine aw_seq ?_
          refine aw_region ?_
          refine st_p (mv rfl) rfl ?_
          refine st_p (mv rfl) rfl ?_
          refine st_p (op_indexAddrL Try.underlying45 z50 rfl rfl (by omega) (by first | assumption | rfl)) rfl ?_
          refine st_p (op_fieldAddrL Try.underlying50 rfl z3 (by decide) rfl) rfl ?_
          refine st_p (op_load1L Try.underlying3 rfl rfl rfl) rfl ?_
          refine st_p (mv rfl) rfl ?_
          refine st_p (OpP.conv (op_eq rfl rfl) (yes (by first | assumption | omega))) rfl ?_
          refine st_p (mv rfl) rfl ?_
          refine st_pg rfl rfl rfl (mv rfl) rfl ?_
          refine st_pg rfl rfl rfl (mv rfl) rfl ?_
          refine st_pg rfl rfl rfl (op_indexAddrL Try.underlying45 z50 rfl rfl (by omega) (by first | assumption | rfl)) rfl ?_
          refine st_pg rfl rfl rfl (op_fieldAddrL Try.underlying50 rfl z3 (by decide) rfl) rfl ?_
          refine st_pg rfl rfl rfl (op_load1L Try.underlying3 rfl rfl rfl) rfl ?_
          refine st_pg rfl rfl rfl (mv rfl) rfl ?_
          refine st_pg rfl rfl rfl (OpP.conv (op_eq rfl rfl) (yes (by first | assumption | omega))) rfl ?_
          refine st_p (pkT rfl rfl) rfl ?_
          refine al_nil ?_
          refine nm ?_
          -- IF t29
          refine aw_yes (rfl) ?_
          refine aw_seq ?_
          refine aw_region ?_
          refine st_p (mv rfl) rfl ?_
          refine st_p (mv rfl) rfl ?_
          refine st_p (op_indexAddrL Try.underlying45 z50 rfl rfl (by omega) (by first | assumption | rfl)) rfl ?_
          refine st_p (op_fieldAddrL Try.underlying50 rfl z3 (by decide) rfl) rfl ?_
          refine st_p (op_load1L Try.underlying3 rfl rfl rfl) rfl ?_
          refine st_p (mva rfl) rfl ?_
          refine al_nil ?_
          refine nm ?_
          refine aw_ret ?_
          refine rb ?_
          refine rs ?_
          refine rs ?_
          refine rb ?_
          refine rs ?_
          exact ret_a ⟨[(6, .int .i64 x.bit)], [], 0⟩ (le_to [] rfl rfl rfl rfl rfl ⟨rfl, trivial⟩ trivial) (res1 Try.results30) (.inr ⟨rfl, rfl⟩) ⟨by rw [ho]; rfl, rfl, rfl⟩
        · skip
          refine aw_seq ?_
          refine aw_seq ?_
          refine aw_region ?_
          refine st_p (mv rfl) rfl ?_
          refine st_p (mv rfl) rfl ?_
          refine st_p (op_len Try.underlying45 rfl) rfl ?_
          refine st_p (OpP.conv (op_lt rfl rfl) (yes (by first | assumption | omega))) rfl ?_
          refine al_nil ?_
          refine nm ?_
          -- IF t11
          refine aw_yes (rfl) ?_
          refine aw_skip ?_
          refine nm ?_
          refine aw_seq ?_
          refine aw_block ?_
          refine aw_seq ?_
          refine aw_region ?_
          refine st_p (mv rfl) rfl ?_
          refine st_p (mv rfl) rfl ?_
          refine st_p (op_indexAddrL Try.underlying45 z50 rfl rfl (by omega) (by first | assumption | rfl)) rfl ?_
          refine st_p (op_fieldAddrL Try.underlying50 rfl z3 (by decide) rfl) rfl ?_
          refine st_p (op_load1L Try.underlying3 rfl rfl rfl) rfl ?_
          refine st_p (mv rfl) rfl ?_
          refine st_p (OpP.conv (op_eq rfl rfl) (yes (by first | assumption | omega))) rfl ?_
          refine st_p (mv rfl) rfl ?_
          refine st_pg rfl rfl rfl (mv rfl) rfl ?_
          refine st_pg rfl rfl rfl (mv rfl) rfl ?_
          refine st_pg rfl rfl rfl (op_indexAddrL Try.underlying45 z50 rfl rfl (by omega) (by first | assumption | rfl)) rfl ?_
          refine st_pg rfl rfl rfl (op_fieldAddrL Try.underlying50 rfl z3 (by decide) rfl) rfl ?_
          refine st_pg rfl rfl rfl (op_load1L Try.underlying3 rfl rfl rfl) rfl ?_
          refine st_pg rfl rfl rfl (mv rfl) rfl ?_
          refine st_pg rfl rfl rfl (OpP.conv (op_eq rfl rfl) (no (by first | assumption | omega))) rfl ?_
          refine st_p (pkT rfl rfl) rfl ?_
          refine al_nil ?_
          refine nm ?_
          -- IF t29
          refine aw_no (rfl) ?_
          refine aw_skip ?_
          refine nmb ?_
          refine nm ?_
          refine aw_region ?_
          refine st_p (mv rfl) rfl ?_
          refine st_p (op_addi rfl rfl (by omega)) rfl ?_
          refine st_p (mva rfl) rfl ?_
          refine al_nil ?_
          refine nm ?_
          exact ⟨⟨i + 1, hlt, hstep (by simp [eqN, h2])⟩, by dsimp only; omega, le_to [] rfl rfl rfl rfl rfl ⟨rfl, rfl, rfl, rfl, trivial⟩ trivial⟩
      · skip
        refine aw_seq ?_
        refine aw_seq ?_
        refine aw_region ?_
        refine st_p (mv rfl) rfl ?_
        refine st_p (mv rfl) rfl ?_
        refine st_p (op_len Try.underlying45 rfl) rfl ?_
        refine st_p (OpP.conv (op_lt rfl rfl) (yes (by first | assumption | omega))) rfl ?_
        refine al_nil ?_
        refine nm ?_
        -- IF t11
        refine aw_yes (rfl) ?_
        refine aw_skip ?_
        refine nm ?_
        refine aw_seq ?_
        refine aw_block ?_
        refine aw_seq ?_
        refine aw_region ?_
        refine st_p (mv rfl) rfl ?_
        refine st_p (mv rfl) rfl ?_
        refine st_p (op_indexAddrL Try.underlying45 z50 rfl rfl (by omega) (by first | assumption | rfl)) rfl ?_
        refine st_p (op_fieldAddrL Try.underlying50 rfl z3 (by decide) rfl) rfl ?_
        refine st_p (op_load1L Try.underlying3 rfl rfl rfl) rfl ?_
        refine st_p (mv rfl) rfl ?_
        refine st_p (OpP.conv (op_eq rfl rfl) (no (by first | assumption | omega))) rfl ?_
        refine st_p (mv rfl) rfl ?_
        refine st_s rfl rfl rfl rfl rfl ?_
        refine st_s rfl rfl rfl rfl rfl ?_
        refine st_s rfl rfl rfl rfl rfl ?_
        refine st_s rfl rfl rfl rfl rfl ?_
        refine st_s rfl rfl rfl rfl rfl ?_
        refine st_s rfl rfl rfl rfl rfl ?_
        refine st_s rfl rfl rfl rfl rfl ?_
        refine st_p (pkF rfl rfl) rfl ?_
        refine al_nil ?_
        refine nm ?_
        -- IF t29
        refine aw_no (rfl) ?_
        refine aw_skip ?_
        refine nmb ?_
        refine nm ?_
        refine aw_region ?_
        refine st_p (mv rfl) rfl ?_
        refine st_p (op_addi rfl rfl (by omega)) rfl ?_
        refine st_p (mva rfl) rfl ?_
        refine al_nil ?_
        refine nm ?_
        exact ⟨⟨i + 1, hlt, hstep (by simp [eqN, h1])⟩, by dsimp only; omega, le_to [] rfl rfl rfl rfl rfl ⟨rfl, rfl, rfl, rfl, trivial⟩ trivial⟩
    · have ho := ofN_nowhere (l := l) (p := p) (s := s) fun j y hy => ha j y (by have := (List.getElem?_eq_some_iff.1 hy).1; omega) hy
      refine aw_seq ?_
      refine aw_seq ?_
      refine aw_region ?_
      refine st_p (mv rfl) rfl ?_
      refine st_p (mv rfl) rfl ?_
      refine st_p (op_len Try.underlying45 rfl) rfl ?_
      refine st_p (OpP.conv (op_lt rfl rfl) (no (by first | assumption | omega))) rfl ?_
      refine al_nil ?_
      refine nm ?_
      -- IF t11
      refine aw_no (rfl) ?_
      refine aw_exit ?_
      refine xs ?_
      refine xs ?_
      refine xb ?_
      refine nm ?_
      refine aw_seq ?_
      refine aw_region ?_
      refine st_p (mva rfl) rfl ?_
      refine al_nil ?_
      refine nm ?_
      refine aw_ret ?_
      exact ret_a ⟨[(6, .int .i64 0)], [], 0⟩ (le_to [] rfl rfl rfl rfl rfl ⟨rfl, trivial⟩ trivial) (res1 Try.results30) (.inr ⟨rfl, rfl⟩) ⟨by rw [ho]; rfl, rfl, rfl⟩

theorem ref_Row (l : List NT) (p : Int) (n : Nat) (hl : l.length ≤ 90000) (hn : n ≤ 1000) :
    AC Try.prog 26 [.sl 3 (nts l), .int .i64 p, .int .i64 n] [] 0 false (fun v h nx => v = .own 0 0 n ∧ h = [(0, .cells 1 (ints (rowN l p n)))] ∧ nx = 1) := by
  have ho := fun s : Int => ref_NoteOf l p s (by omega)
  have hns : ∀ m : List Int, (Blk.cells 1 (ints m)).nosl = true := fun m => by simp [Blk.nosl, AV.nosl, ints]
  refine ac_fn Try.func26 rfl rfl rfl rfl (fun w0 S0 r0 => ?_)
  refine aw_seq ?_
  refine aw_region ?_
  refine st_p (mva rfl) rfl ?_
  refine al_nil ?_
  refine nm ?_
  refine aw_seq ?_
  refine aw_region ?_
  refine st_p (mva rfl) rfl ?_
  refine al_nil ?_
  refine nm ?_
  refine aw_seq ?_
  refine aw_seq ?_
  refine aw_region ?_
  refine st_p (mva rfl) rfl ?_
  refine al_nil ?_
  refine nm ?_
  refine aw_block ?_
  -- LOOP
  refine aw_virt 7 1 rfl ?_
  refine aw_loop (fun i : {i : Nat // i ≤ n} => ⟨[(0, .sl 3 (nts l)), (1, .int .i64 p), (2, .int .i64 n), (7, .own 0 0 i.1), (8, .int .i64 i.1)], [(0, .cells 1 (ints (rowN l p i.1)))], 1⟩) (fun i => n - i.1) ⟨0, Nat.zero_le _⟩ ?_ ?_
  · exact le_to [] rfl rfl rfl rfl rfl ⟨rfl, rfl, rfl, rfl, rfl, trivial⟩ ⟨rfl, trivial⟩
  · rintro ⟨i, hi⟩
    dsimp only
    have hil : (ints (rowN l p i)).length = i := by rw [ints_len, rowN_len]
    by_cases hlt : i < n
    · have hoi := ho (i : Nat)
      refine aw_seq ?_
      refine aw_seq ?_
      refine aw_region ?_
      refine st_p (mv rfl) rfl ?_
      refine st_p (mv rfl) rfl ?_
      refine st_p (OpP.conv (op_lt rfl rfl) (yes (by first | assumption | omega))) rfl ?_
      refine al_nil ?_
      refine nm ?_
      -- IF t11
      refine aw_yes (rfl) ?_
      refine aw_skip ?_
      refine nm ?_
      refine aw_seq ?_
      refine aw_block ?_
      refine aw_region ?_
      refine st_p (mv rfl) rfl ?_
      refine st_p (mv rfl) rfl ?_
      refine st_p (mv rfl) rfl ?_
      refine st_p (mv rfl) rfl ?_
      -- STOP: call diwan/diwanref13.NoteOf(t15, t16, t17) -> 18
      refine st_o ((op_callq (hoi) Try.func30 ⟨rfl, rfl⟩ rfl rfl (fun nx => (.cons (.same (by rfl)) (.cons (.same (by rfl)) (.cons (.same (by rfl)) .nil)))) (by rintro _ _ _ ⟨rfl, rfl, rfl⟩; exact .same rfl)).ok) rfl ?_
      refine st_o (bsl Try.underlying35 i3 o3 (by decide) rfl rfl rfl (by decide)) rfl ?_
      refine st_o (op_app Try.underlying35 Try.underlying35 (.inl ⟨_, rfl⟩) i3 o3 rfl rfl rfl (by first | rfl | omega | (simp; done) | (simp; omega)) ((SrcA.whole rfl (by first | rfl | (simp; done))).ok rfl (by first | assumption | intro z hz; simp only [List.mem_singleton, List.drop_zero, List.take_succ_cons, List.take_zero, List.mem_cons, List.not_mem_nil, or_false, List.mem_map] at hz; first | (subst hz; rfl) | (obtain ⟨_, _, rfl⟩ := hz; rfl) | (rcases hz with rfl | rfl <;> rfl))) (by first | omega | (simp; try omega)) rfl) rfl ?_
      refine st_p (mva rfl) rfl ?_
      refine al_nil ?_
      refine nmb ?_
      refine nm ?_
      refine aw_region ?_
      refine st_p (mv rfl) rfl ?_
      refine st_p (op_addi rfl rfl (by omega)) rfl ?_
      refine st_p (mva rfl) rfl ?_
      refine al_nil ?_
      refine nm ?_
      refine ⟨⟨i + 1, hlt⟩, by dsimp only; omega, le_to [(0, 2)] rfl rfl rfl rfl rfl ⟨rfl, rfl, rfl, ?_, rfl, trivial⟩ ⟨?_, trivial⟩⟩
      · simp only [tget, AV.ren, swp]
        simp [hil]
      · rw [ren_intsB, rowN_snoc]
        simp [hget, swp, ints]
    · have hin : i = n := by omega
      subst hin
      refine aw_seq ?_
      refine aw_seq ?_
      refine aw_region ?_
      refine st_p (mv rfl) rfl ?_
      refine st_p (mv rfl) rfl ?_
      refine st_p (OpP.conv (op_lt rfl rfl) (no (by first | assumption | omega))) rfl ?_
      refine al_nil ?_
      refine nm ?_
      -- IF t11
      refine aw_no (rfl) ?_
      refine aw_exit ?_
      refine xs ?_
      refine xs ?_
      refine xb ?_
      refine nm ?_
      refine aw_seq ?_
      refine aw_region ?_
      refine st_p (mv rfl) rfl ?_
      refine st_p (mva rfl) rfl ?_
      refine al_nil ?_
      refine nm ?_
      refine aw_ret ?_
      exact ret_a ⟨[(6, .own 0 0 i)], [(0, .cells 1 (ints (rowN l p i)))], 1⟩ (le_to [] rfl rfl rfl rfl rfl ⟨rfl, trivial⟩ ⟨by rw [ren_intsB]; rfl, trivial⟩) (res1 Try.results26) (.inr ⟨rfl, by simp only [List.all_cons, List.all_nil, hns, Bool.and_true]⟩) ⟨rfl, rfl, rfl⟩

theorem ref_SameInts (r : List Int) (hr : r.length ≤ 100000) :
    AC Try.prog 27 [.sl 1 (ints r), .sl 1 (ints r)] [] 0 false (fun v h nx => v = .bool true ∧ h = [] ∧ nx = 0) := by
  have hil := ints_len r
  refine ac_fn Try.func27 rfl rfl rfl rfl (fun w0 S0 r0 => ?_)
  refine aw_seq ?_
  refine aw_region ?_
  refine st_p (mva rfl) rfl ?_
  refine al_nil ?_
  refine nm ?_
  refine aw_seq ?_
  refine aw_seq ?_
  refine aw_region ?_
  refine st_p (mv rfl) rfl ?_
  refine st_p (op_len Try.underlying35 rfl) rfl ?_
  refine st_p (mv rfl) rfl ?_
  refine st_p (op_len Try.underlying35 rfl) rfl ?_
  refine st_p (OpP.conv (op_ne rfl rfl) (no (by first | assumption | omega))) rfl ?_
  refine al_nil ?_
  refine nm ?_
  -- IF t10
  refine aw_no (rfl) ?_
  refine aw_skip ?_
  refine nm ?_
  refine aw_seq ?_
  refine aw_seq ?_
  refine aw_region ?_
  refine st_p (mva rfl) rfl ?_
  refine al_nil ?_
  refine nm ?_
  refine aw_block ?_
  -- LOOP
  refine aw_loop (fun i : {i : Nat // i ≤ r.length} => ⟨[(0, .sl 1 (ints r)), (1, .sl 1 (ints r)), (5, .int .i64 i.1)], [], 0⟩) (fun i => r.length - i.1) ⟨0, Nat.zero_le _⟩ ?_ ?_
  · exact le_to [] rfl rfl rfl rfl rfl ⟨rfl, rfl, rfl, trivial⟩ trivial
  · rintro ⟨i, hi⟩
    dsimp only
    by_cases hlt : i < r.length
    · obtain ⟨x, hx⟩ : ∃ x, r[i]? = some x := ⟨_, List.getElem?_eq_getElem hlt⟩
      have hxb : (ints r)[((i : Nat) : Int).toNat]? = some (.int .i64 x) := by rw [Int.toNat_natCast]; exact ints_get hx
      refine aw_seq ?_
      refine aw_seq ?_
      refine aw_region ?_
      refine st_p (mv rfl) rfl ?_
      refine st_p (mv rfl) rfl ?_
      refine st_p (op_len Try.underlying35 rfl) rfl ?_
      refine st_p (OpP.conv (op_lt rfl rfl) (yes (by first | assumption | omega))) rfl ?_
      refine al_nil ?_
      refine nm ?_
      -- IF t14
      refine aw_yes (rfl) ?_
      refine aw_skip ?_
      refine nm ?_
      refine aw_seq ?_
      refine aw_block ?_
      refine aw_seq ?_
      refine dr_go ?_
      refine dr_f 0 0 [0] rfl (fun H => mv rfl) ?_
      refine dr_f 0 0 [5] rfl (fun H => mv rfl) ?_
      refine dr_q 0 0 [17, 18] rfl (op_indexAddrL Try.underlying35 z3 rfl rfl (by omega) (by first | assumption | rfl)) ?_
      refine dr_q 0 0 [19] rfl (op_load1L Try.underlying3 rfl rfl rfl) ?_
      refine dr_f 0 0 [1] rfl (fun H => mv rfl) ?_
      refine dr_f 0 0 [5] rfl (fun H => mv rfl) ?_
      refine dr_q 0 0 [21, 22] rfl (op_indexAddrL Try.underlying35 z3 rfl rfl (by omega) (by first | assumption | rfl)) ?_
      refine dr_q 0 0 [23] rfl (op_load1L Try.underlying3 rfl rfl rfl) ?_
      refine dr_f 0 0 [20, 24] rfl (fun H => OpP.conv (op_ne rfl rfl) (no (by first | assumption | omega))) ?_
      refine dr_end [] (by kernel_rfl) (by kernel_rfl) (by kernel_rfl) (by kernel_rfl) trivial ?_
      refine nm ?_
      -- IF t25
      refine aw_no (rfl) ?_
      refine aw_skip ?_
      refine nmb ?_
      refine nm ?_
      refine aw_region ?_
      refine st_p (mv rfl) rfl ?_
      refine st_p (op_addi rfl rfl (by omega)) rfl ?_
      refine st_p (mva rfl) rfl ?_
      refine al_nil ?_
      refine nm ?_
      exact ⟨⟨i + 1, hlt⟩, by dsimp only; omega, le_to [] rfl rfl rfl rfl rfl ⟨rfl, rfl, rfl, trivial⟩ trivial⟩
    · skip
      refine aw_seq ?_
      refine aw_seq ?_
      refine aw_region ?_
      refine st_p (mv rfl) rfl ?_
      refine st_p (mv rfl) rfl ?_
      refine st_p (op_len Try.underlying35 rfl) rfl ?_
      refine st_p (OpP.conv (op_lt rfl rfl) (no (by first | assumption | omega))) rfl ?_
      refine al_nil ?_
      refine nm ?_
      -- IF t14
      refine aw_no (rfl) ?_
      refine aw_exit ?_
      refine xs ?_
      refine xs ?_
      refine xb ?_
      refine nm ?_
      refine aw_seq ?_
      refine aw_region ?_
      refine st_p (mva rfl) rfl ?_
      refine al_nil ?_
      refine nm ?_
      refine aw_ret ?_
      exact ret_a ⟨[(4, .bool true)], [], 0⟩ (le_to [] rfl rfl rfl rfl rfl ⟨rfl, trivial⟩ trivial) (res1 Try.results27) (.inr ⟨rfl, rfl⟩) ⟨rfl, rfl, rfl⟩

end Go.Proofs.Ytpggknkhldecaaa.Abs
end
section
/-
  The document's shards that are read, what all say, and who has not said.
-/
namespace Go.Proofs.Ytpggknkhldecaaa.Abs

def upL (ks : List (List UInt8)) (n : Int) (k : Nat) : List Int := ((List.range k).map fun s : Nat => (s : Int)).filter fun s => ks.any fun x => decide (shardI x n = s)
theorem upL_snoc (ks : List (List UInt8)) (n : Int) (k : Nat) : upL ks n (k + 1) = upL ks n k ++ (if ks.any (fun x => decide (shardI x n = (k : Int))) then [(k : Int)] else []) := by
  unfold upL
  rw [List.range_succ, List.map_append, List.filter_append]
  cases h : ks.any (fun x => decide (shardI x n = (k : Int))) <;> simp [h]
theorem upL_len (ks : List (List UInt8)) (n : Int) (k : Nat) : (upL ks n k).length ≤ k := by
  unfold upL
  refine Nat.le_trans (List.length_filter_le _ _) ?_
  simp
theorem range_up : ∀ k : Nat, ((List.range k).map fun s : Nat => (s : Int)).Pairwise (· < ·)
  | 0 => List.Pairwise.nil
  | k + 1 => by
    rw [List.range_succ, List.map_append, List.pairwise_append]
    refine ⟨range_up k, by simp, fun x hx y hy => ?_⟩
    obtain ⟨i, hi, rfl⟩ := List.mem_map.1 hx
    simp only [List.map_cons, List.map_nil, List.mem_singleton] at hy
    subst hy
    have := List.mem_range.1 hi
    omega
theorem upL_reads (ks : List (List UInt8)) (n : Nat) (hn : 1 ≤ n) : upL ks (n : Int) n = readsL ks (n : Int) := by
  refine rise_ext ((range_up n).sublist List.filter_sublist) (readsL_up ks n) fun x => ?_
  rw [readsL_mem]
  unfold upL
  rw [List.mem_filter, List.any_eq_true]
  constructor
  · rintro ⟨_, k, hk, h⟩
    exact ⟨k, hk, of_decide_eq_true h⟩
  · rintro ⟨k, hk, rfl⟩
    have := shardI_range k (n : Int) (by omega)
    exact ⟨List.mem_map.2 ⟨(shardI k n).toNat, List.mem_range.2 (by omega), by omega⟩, k, hk, decide_eq_true rfl⟩
theorem any_snoc {α : Type} (f : α → Bool) (l : List α) (i : Nat) (x : α) (h : l[i]? = some x) : (l.take (i + 1)).any f = ((l.take i).any f || f x) := by
  rw [List.take_add_one, h, List.any_append]
  simp

theorem ref_ReadShards (t : TX) (n : Nat) (hn1 : 1 ≤ n) (hn : n ≤ 1000) (hr : t.reads.length ≤ 1000) (hkr : ∀ r ∈ t.reads, r.key.length ≤ 281474976710656) :
    AC Try.prog 17 [txA t, .int .i64 n] [] 0 false (fun v h nx => v = .own 0 0 (readsL (t.reads.map RD.key) n).length ∧ h = [(0, .cells 1 (ints (readsL (t.reads.map RD.key) n)))] ∧ nx = 1) := by
  have hsh : ∀ r ∈ t.reads, _ := fun r hm => ref_ShardOf r.key (n : Int) (hkr r hm) (by omega)
  have hns : ∀ m : List Int, (Blk.cells 1 (ints m)).nosl = true := fun m => by simp [Blk.nosl, AV.nosl, ints]
  rw [← upL_reads _ n hn1]
  obtain ⟨ses, seq, rl, wl⟩ := t
  dsimp only [txA] at hr hsh ⊢
  have hram : (rl.map rdA).length = rl.length := List.length_map _
  have hmx : max (n : Int) 1 = (n : Int) := by omega
  refine ac_fn Try.func17 rfl rfl rfl rfl (fun w0 S0 r0 => ?_)
  refine aw_seq ?_
  refine aw_region ?_
  refine st_o (bx rfl rfl) rfl ?_
  refine st_p (mva rfl) rfl ?_
  refine al_nil ?_
  refine nm ?_
  refine aw_seq ?_
  refine aw_region ?_
  refine st_p (mva rfl) rfl ?_
  refine al_nil ?_
  refine nm ?_
  refine aw_seq ?_
  refine aw_seq ?_
  refine aw_region ?_
  refine st_p (mva rfl) rfl ?_
  refine al_nil ?_
  refine nm ?_
  refine aw_block ?_
  -- LOOP
  refine aw_virt 5 1 rfl ?_
  refine aw_loop (fun k : {k : Nat // k ≤ n} => ⟨[(1, .int .i64 n), (2, .ptr 0 0 0), (5, .own 1 0 (upL (rl.map RD.key) n k.1).length), (6, .int .i64 k.1)], [(0, .cells 4 [.agg [.int .i64 ses, .int .i64 seq, .sl 4 (rl.map rdA), .sl 3 (wl.map wrA)]]), (1, .cells 1 (ints (upL (rl.map RD.key) n k.1)))], 2⟩) (fun k => n - k.1) ⟨0, Nat.zero_le _⟩ ?_ ?_
  · exact le_to [] rfl rfl rfl rfl rfl ⟨rfl, rfl, rfl, rfl, trivial⟩ ⟨rfl, rfl, trivial⟩
  · rintro ⟨k, hk⟩
    dsimp only
    have hil := ints_len (upL (rl.map RD.key) n k)
    by_cases hlt : k < n
    · have hsn := upL_snoc (rl.map RD.key) (n : Int) k
      have hul := upL_len (rl.map RD.key) (n : Int) k
      generalize upL (rl.map RD.key) n k = U at hil hsn hul ⊢
      refine aw_seq ?_
      refine aw_seq ?_
      refine aw_region ?_
      refine st_p (mv rfl) rfl ?_
      refine st_p (mv rfl) rfl ?_
      refine st_p (op_max rfl rfl) rfl ?_
      refine st_p (OpP.conv (op_lt rfl rfl) (yes (by first | assumption | omega))) rfl ?_
      refine al_nil ?_
      refine nm ?_
      -- IF t12
      refine aw_yes (rfl) ?_
      refine aw_skip ?_
      refine nm ?_
      refine aw_seq ?_
      refine aw_block ?_
      refine aw_seq ?_
      refine aw_region ?_
      refine st_p (mva rfl) rfl ?_
      refine al_nil ?_
      refine nm ?_
      refine aw_seq ?_
      refine aw_seq ?_
      refine aw_region ?_
      refine st_p (mva rfl) rfl ?_
      refine al_nil ?_
      refine nm ?_
      refine aw_block ?_
      -- LOOP
      refine aw_loop (fun i : {i : Nat // i ≤ rl.length} => ⟨[(1, .int .i64 n), (2, .ptr 0 0 0), (5, .own 1 0 U.length), (6, .int .i64 k), (7, .bool (((rl.map RD.key).take i.1).any fun x => decide (shardI x n = (k : Int)))), (8, .int .i64 i.1)], [(0, .cells 4 [.agg [.int .i64 ses, .int .i64 seq, .sl 4 (rl.map rdA), .sl 3 (wl.map wrA)]]), (1, .cells 1 (ints U))], 2⟩) (fun i => rl.length - i.1) ⟨0, Nat.zero_le _⟩ ?_ ?_
      · exact le_to [] rfl rfl rfl rfl rfl ⟨rfl, rfl, rfl, rfl, rfl, rfl, trivial⟩ ⟨rfl, by rw [ren_intsB]; rfl, trivial⟩
      · rintro ⟨i, hi⟩
        dsimp only
        by_cases hir : i < rl.length
        · obtain ⟨x, hx⟩ : ∃ x, rl[i]? = some x := ⟨_, List.getElem?_eq_getElem hir⟩
          have hxb : (rl.map rdA)[((i : Nat) : Int).toNat]? = some (.agg [sb x.key, .int .i64 x.ver, sb x.val, .bool x.there]) := by rw [Int.toNat_natCast, List.getElem?_map, hx]; rfl
          have hs := hsh x (List.mem_of_getElem? hx)
          have han := any_snoc (fun x => decide (shardI x n = (k : Int))) (rl.map RD.key) i x.key (by rw [List.getElem?_map, hx]; rfl)
          cases hB : ((rl.map RD.key).take i).any fun x => decide (shardI x n = (k : Int)) with
          | true =>
            rw [hB, Bool.true_or] at han
            refine aw_seq ?_
            refine aw_seq ?_
            refine aw_region ?_
            refine st_p (mv rfl) rfl ?_
            refine st_p (op_fieldAddr Try.underlying26 rfl z23 (by decide) rfl) rfl ?_
            refine st_p (op_load1 Try.underlying23 rfl rfl rfl rfl rfl) rfl ?_
            refine st_p (op_len Try.underlying23 rfl) rfl ?_
            refine st_p (OpP.conv (op_lt rfl rfl) (yes (by first | assumption | omega))) rfl ?_
            refine al_nil ?_
            refine nm ?_
            -- IF t19
            refine aw_yes (rfl) ?_
            refine aw_skip ?_
            refine nm ?_
            refine aw_seq ?_
            refine aw_block ?_
            refine aw_region ?_
            refine st_p (mv rfl) rfl ?_
            refine st_p (mv rfl) rfl ?_
            refine st_s rfl rfl rfl rfl rfl ?_
            refine st_s rfl rfl rfl rfl rfl ?_
            refine st_s rfl rfl rfl rfl rfl ?_
            refine st_s rfl rfl rfl rfl rfl ?_
            refine st_s rfl rfl rfl rfl rfl ?_
            refine st_s rfl rfl rfl rfl rfl ?_
            refine st_s rfl rfl rfl rfl rfl ?_
            -- STOP: call diwan/diwanref1.ShardOf(t29, t30) -> 31
            refine st_s rfl rfl rfl rfl rfl ?_
            refine st_s rfl rfl rfl rfl rfl ?_
            refine st_s rfl rfl rfl rfl rfl ?_
            refine st_p (pkT rfl rfl) rfl ?_
            refine st_p (mva rfl) rfl ?_
            refine al_nil ?_
            refine nmb ?_
            refine nm ?_
            refine aw_region ?_
            refine st_p (mv rfl) rfl ?_
            refine st_p (op_addi rfl rfl (by omega)) rfl ?_
            refine st_p (mva rfl) rfl ?_
            refine al_nil ?_
            refine nm ?_
            exact ⟨⟨i + 1, hir⟩, by dsimp only; omega, le_to [] rfl rfl rfl rfl rfl ⟨rfl, rfl, rfl, rfl, by rw [han]; rfl, rfl, trivial⟩ ⟨rfl, by rw [ren_intsB]; rfl, trivial⟩⟩
          | false =>
            rw [hB, Bool.false_or] at han
            refine aw_seq ?_
            refine aw_seq ?_
            refine aw_region ?_
            refine st_p (mv rfl) rfl ?_
            refine st_p (op_fieldAddr Try.underlying26 rfl z23 (by decide) rfl) rfl ?_
            refine st_p (op_load1 Try.underlying23 rfl rfl rfl rfl rfl) rfl ?_
            refine st_p (op_len Try.underlying23 rfl) rfl ?_
            refine st_p (OpP.conv (op_lt rfl rfl) (yes (by first | assumption | omega))) rfl ?_
            refine al_nil ?_
            refine nm ?_
            -- IF t19
            refine aw_yes (rfl) ?_
            refine aw_skip ?_
            refine nm ?_
            refine aw_seq ?_
            refine aw_block ?_
            refine aw_region ?_
            refine st_p (mv rfl) rfl ?_
            refine st_p (mv rfl) rfl ?_
            refine st_pg rfl rfl rfl (op_fieldAddr Try.underlying26 rfl z23 (by decide) rfl) rfl ?_
            refine st_pg rfl rfl rfl (op_load1 Try.underlying23 rfl rfl rfl rfl rfl) rfl ?_
            refine st_pg rfl rfl rfl (mv rfl) rfl ?_
            refine st_pg rfl rfl rfl (op_indexAddrL Try.underlying23 z67 rfl rfl (by omega) (by first | assumption | rfl)) rfl ?_
            refine st_pg rfl rfl rfl (op_fieldAddrL Try.underlying67 rfl z9 (by decide) rfl) rfl ?_
            refine st_pg rfl rfl rfl (op_load1L Try.underlying9 rfl rfl rfl) rfl ?_
            refine st_pg rfl rfl rfl (mv rfl) rfl ?_
            -- STOP: call diwan/diwanref1.ShardOf(t29, t30) -> 31
            refine st_og rfl rfl rfl ((op_callq (hs) Try.func61 ⟨rfl, rfl⟩ rfl rfl (fun nx => (.cons (.same (by rfl)) (.cons (.same (by rfl)) .nil))) (by rintro _ _ _ ⟨rfl, rfl, rfl⟩; exact .same rfl)).ok) rfl ?_
            refine st_pg rfl rfl rfl (mv rfl) rfl ?_
            refine st_pg rfl rfl rfl (op_eq rfl rfl) rfl ?_
            refine st_p (pkF rfl rfl) rfl ?_
            refine st_p (mva rfl) rfl ?_
            refine al_nil ?_
            refine nmb ?_
            refine nm ?_
            refine aw_region ?_
            refine st_p (mv rfl) rfl ?_
            refine st_p (op_addi rfl rfl (by omega)) rfl ?_
            refine st_p (mva rfl) rfl ?_
            refine al_nil ?_
            refine nm ?_
            exact ⟨⟨i + 1, hir⟩, by dsimp only; omega, le_to [] rfl rfl rfl rfl rfl ⟨rfl, rfl, rfl, rfl, by rw [han]; rfl, rfl, trivial⟩ ⟨rfl, by rw [ren_intsB]; rfl, trivial⟩⟩
        · rw [List.take_of_length_le (by rw [List.length_map]; omega)]
          cases hB : (rl.map RD.key).any fun x => decide (shardI x n = (k : Int)) with
          | true =>
            rw [hB, if_pos rfl] at hsn
            refine aw_seq ?_
            refine aw_seq ?_
            refine aw_region ?_
            refine st_p (mv rfl) rfl ?_
            refine st_p (op_fieldAddr Try.underlying26 rfl z23 (by decide) rfl) rfl ?_
            refine st_p (op_load1 Try.underlying23 rfl rfl rfl rfl rfl) rfl ?_
            refine st_p (op_len Try.underlying23 rfl) rfl ?_
            refine st_p (OpP.conv (op_lt rfl rfl) (no (by first | assumption | omega))) rfl ?_
            refine al_nil ?_
            refine nm ?_
            -- IF t19
            refine aw_no (rfl) ?_
            refine aw_exit ?_
            refine xs ?_
            refine xs ?_
            refine xb ?_
            refine nm ?_
            refine aw_seq ?_
            refine aw_region ?_
            refine st_p (mv rfl) rfl ?_
            refine al_nil ?_
            refine nm ?_
            -- IF t35
            refine aw_yes (rfl) ?_
            refine aw_region ?_
            refine st_p (mv rfl) rfl ?_
            refine st_p (mv rfl) rfl ?_
            refine st_o (bsl Try.underlying35 i3 o3 (by decide) rfl rfl rfl (by decide)) rfl ?_
            refine st_o (op_app Try.underlying35 Try.underlying35 (.inl ⟨_, rfl⟩) i3 o3 rfl rfl rfl (by first | rfl | omega | (simp; done) | (simp; omega)) ((SrcA.whole rfl (by first | rfl | (simp; done))).ok rfl (by first | assumption | intro z hz; simp only [List.mem_singleton, List.drop_zero, List.take_succ_cons, List.take_zero, List.mem_cons, List.not_mem_nil, or_false, List.mem_map] at hz; first | (subst hz; rfl) | (obtain ⟨_, _, rfl⟩ := hz; rfl) | (rcases hz with rfl | rfl <;> rfl))) (by first | omega | (simp; try omega)) rfl) rfl ?_
            refine st_p (mva rfl) rfl ?_
            refine al_nil ?_
            refine nmb ?_
            refine nm ?_
            refine aw_region ?_
            refine st_p (mv rfl) rfl ?_
            refine st_p (op_addi rfl rfl (by omega)) rfl ?_
            refine st_p (mva rfl) rfl ?_
            refine al_nil ?_
            refine nm ?_
            refine ⟨⟨k + 1, hlt⟩, by dsimp only; omega, le_to [(1, 3)] rfl rfl rfl rfl rfl ⟨rfl, rfl, ?_, rfl, trivial⟩ ⟨rfl, ?_, trivial⟩⟩
            · simp only [tget, AV.ren, swp]
              simp [hil, hsn]
            · rw [ren_intsB, hsn]
              simp [hget, swp, ints]
          | false =>
            rw [hB, if_neg (by decide), List.append_nil] at hsn
            refine aw_seq ?_
            refine aw_seq ?_
            refine aw_region ?_
            refine st_p (mv rfl) rfl ?_
            refine st_p (op_fieldAddr Try.underlying26 rfl z23 (by decide) rfl) rfl ?_
            refine st_p (op_load1 Try.underlying23 rfl rfl rfl rfl rfl) rfl ?_
            refine st_p (op_len Try.underlying23 rfl) rfl ?_
            refine st_p (OpP.conv (op_lt rfl rfl) (no (by first | assumption | omega))) rfl ?_
            refine al_nil ?_
            refine nm ?_
            -- IF t19
            refine aw_no (rfl) ?_
            refine aw_exit ?_
            refine xs ?_
            refine xs ?_
            refine xb ?_
            refine nm ?_
            refine aw_seq ?_
            refine aw_region ?_
            refine st_p (mv rfl) rfl ?_
            refine al_nil ?_
            refine nm ?_
            -- IF t35
            refine aw_no (rfl) ?_
            refine aw_skip ?_
            refine nmb ?_
            refine nm ?_
            refine aw_region ?_
            refine st_p (mv rfl) rfl ?_
            refine st_p (op_addi rfl rfl (by omega)) rfl ?_
            refine st_p (mva rfl) rfl ?_
            refine al_nil ?_
            refine nm ?_
            exact ⟨⟨k + 1, hlt⟩, by dsimp only; omega, le_to [] rfl rfl rfl rfl rfl ⟨rfl, rfl, by dsimp only; rw [hsn]; rfl, rfl, trivial⟩ ⟨rfl, by rw [ren_intsB, hsn]; rfl, trivial⟩⟩
    · have hin : k = n := by omega
      subst hin
      generalize upL (rl.map RD.key) k k = U at hil ⊢
      refine aw_seq ?_
      refine aw_seq ?_
      refine aw_region ?_
      refine st_p (mv rfl) rfl ?_
      refine st_p (mv rfl) rfl ?_
      refine st_p (op_max rfl rfl) rfl ?_
      refine st_p (OpP.conv (op_lt rfl rfl) (no (by first | assumption | omega))) rfl ?_
      refine al_nil ?_
      refine nm ?_
      -- IF t12
      refine aw_no (rfl) ?_
      refine aw_exit ?_
      refine xs ?_
      refine xs ?_
      refine xb ?_
      refine nm ?_
      refine aw_seq ?_
      refine aw_region ?_
      refine st_p (mv rfl) rfl ?_
      refine st_p (mva rfl) rfl ?_
      refine al_nil ?_
      refine nm ?_
      refine aw_ret ?_
      exact ret_a ⟨[(4, .own 0 0 U.length)], [(0, .cells 1 (ints U))], 1⟩ (le_to [(0, 1)] rfl rfl rfl rfl rfl ⟨rfl, trivial⟩ ⟨by rw [ren_intsB]; rfl, trivial⟩) (res1 Try.results17) (.inr ⟨rfl, by simp only [List.all_cons, List.all_nil, hns, Bool.and_true]⟩) ⟨rfl, rfl, rfl⟩

end Go.Proofs.Ytpggknkhldecaaa.Abs
end
