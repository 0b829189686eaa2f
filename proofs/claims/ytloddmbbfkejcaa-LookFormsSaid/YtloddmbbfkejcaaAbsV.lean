/-
  A machine that runs codes whose inputs are known: its operations do what it says. It holds of any program.
-/
import Derived.Test.YtloddmbbfkejcaaAbsU
namespace Go.Proofs.Ytloddmbbfkejcaa.Abs

theorem bytesOf_spec : ∀ (xs : List AV) (l : List UInt8), bytesOf xs = some l → xs = bl l := by
  intro xs
  induction xs with
  | nil => intro l h; simp only [bytesOf, Option.some.injEq] at h; subst h; rfl
  | cons x xs ih =>
    intro l h
    unfold bytesOf at h
    split at h
    · rename_i h0
      cases h0
    · rename_i t n h0
      simp only [List.cons.injEq] at h0
      obtain ⟨rfl, rfl⟩ := h0
      split at h
      · rename_i m r hr
        split at h
        · rename_i hm
          simp only [Option.some.injEq] at h
          subst h
          have hm : m < 256 := by simpa using hm
          have e := ih r hr
          rw [e]
          have e1 : ((UInt8.ofNat m).toNat : Int) = m := by
            rw [UInt8.toNat_ofNat', Nat.mod_eq_of_lt hm]
          show AV.int .u8 (Int.ofNat m) :: bl r = AV.int .u8 ((UInt8.ofNat m).toNat : Int) :: bl r
          rw [e1]; rfl
        · cases h
      · cases h
    · cases h

section
variable {P : Program} {tm : List (Nat × AV)} {h : Heap} {nx : Nat} {v : AV}

theorem oeO {x : Operand} (h : oeF tm x = some v) : oev tm x = v := oevS_spec (oeF_spec h)
theorem hgO {b : Nat} {B : Blk} (hb : hgetF h b = some B) : hget h b = some B := (hgetF_eq h b).symm.trans hb

theorem sbz (z : ByteArray) : AV.str z = sb z.data.toList := rfl

theorem intBin_ok {b : BinOp} {k : IntKind} {m m' : Int} {t t' : TypeId} {x y : Operand} (hx : oev tm x = .int k m) (hy : oev tm y = .int k m') (he : intBin b k m m' = some v) : OpP P (.binOp b t x y t') tm h v := by
  cases b <;> simp only [intBin, reduceCtorEq] at he
  case quo => split at he; · cases he
              · rename_i h0; obtain rfl := Option.some.inj he; exact op_quo hx hy h0
  case rem => split at he; · cases he
              · rename_i h0; obtain rfl := Option.some.inj he; exact op_rem hx hy h0
  all_goals obtain rfl := Option.some.inj he
  · exact op_add hx hy
  · exact op_sub hx hy
  · exact op_mul hx hy
  · exact op_band hx hy
  · exact op_bor hx hy
  · exact op_bxor hx hy
  · exact op_eq hx hy
  · exact op_ne hx hy
  · exact op_lt hx hy
  · exact op_le hx hy
  · exact op_gt hx hy
  · exact op_ge hx hy

theorem strBin_ok {b : BinOp} {l l' : List UInt8} {t t' : TypeId} {x y : Operand} (hx : oev tm x = sb l) (hy : oev tm y = sb l') (he : strBin b l l' = some v) : OpP P (.binOp b t x y t') tm h v := by
  cases b <;> simp only [strBin, reduceCtorEq] at he
  case add => split at he
              · rename_i h0; obtain rfl := Option.some.inj he; exact op_cats hx hy h0
              · cases he
  all_goals obtain rfl := Option.some.inj he
  · exact op_eqs hx hy
  · exact op_nes hx hy
  · exact op_lts hx hy
  · exact op_les hx hy
  · exact op_gts hx hy
  · exact op_ges hx hy

theorem nilP?_ok {b : Bool} (he : nilP? v = some b) : NilP b v := by
  cases v <;> simp only [nilP?, reduceCtorEq, Option.some.injEq] at he
  · exact he.symm
  · exact he.symm

theorem nilS?_ok {b : Bool} (he : nilS? v = some b) : NilS b v := by
  cases v <;> simp only [nilS?, reduceCtorEq, Option.some.injEq] at he
  case nils => exact he.symm
  case sl sz xs => cases xs <;> simp only [nilS?, reduceCtorEq, Option.some.injEq] at he; exact ⟨by simp, he.symm⟩
  case own b st len => cases len <;> simp only [nilS?, reduceCtorEq, Option.some.injEq] at he; exact ⟨by omega, he.symm⟩

theorem isNilConst_ok {y : Operand} (h : isNilConst y = true) : y = .const (.pointer none) := by
  unfold isNilConst at h
  split at h
  · rfl
  · cases h
theorem isNilsConst_ok {y : Operand} (h : isNilsConst y = true) : y = .const (.slice none 0 0) := by
  unfold isNilsConst at h
  split at h
  · rfl
  · cases h

theorem run_part1 {t : TypeId} {d : TypeDesc} (hu : P.underlying t = some d) (hd : isAggD d = false) {cs : Array Value} {off : Nat} {u : Value} (hc : cs[off]? = some u) (w : World) : (Go.part t cs off).run P w = .ok u w := by
  unfold Go.part
  simp only [Sem.run_bind, run_isAgg hu, Result.andThen_ok, hd, Bool.false_eq_true, if_false, hc, Sem.run_pure]

theorem eqFA_ok {S : Nat → Prop} {w : World} {ρ : Rho} {as bs : List AV} {xs ys : Array Value} (hx : VR S w ρ (.agg as) (.agg xs)) (hy : VR S w ρ (.agg bs) (.agg ys)) (d : Nat) :
    ∀ (fs : List Field) (r : Bool), eqFA P fs as bs = some r → (Op.eqFields (d + 1) xs ys fs).run P w = .ok r w := by
  have get : ∀ {cs : List AV} {zs : Array Value}, VR S w ρ (.agg cs) (.agg zs) → ∀ (i : Nat) (x : AV), cs[i]? = some x → ∃ u, zs[i]? = some u ∧ VR S w ρ x u := fun {cs zs} h i x hi => by
    cases h with
    | agg vs h1 h2 =>
      have hlt : i < zs.size := by rw [← h1]; exact (List.getElem?_eq_some_iff.1 hi).1
      exact ⟨zs[i], by simp [hlt], h2 i x _ hi (by simp [hlt])⟩
  intro fs
  induction fs with
  | nil => intro r h; simp only [eqFA, Option.some.injEq] at h; subst h; simp [Op.eqFields]
  | cons f fs ih =>
    intro r h
    simp only [eqFA] at h
    split at h
    · cases h
    · rename_i hn
      split at h
      · rename_i k0 k m k' m' hu e1 e2
        obtain ⟨u, hu1, hu2⟩ := get hx _ _ e1
        obtain ⟨u', hv1, hv2⟩ := get hy _ _ e2
        obtain rfl := hu2.int_inv
        obtain rfl := hv2.int_inv
        split at h
        · rename_i hk
          subst hk
          simp only [Op.eqFields, hn, ne_eq, not_false_eq_true, if_true, Sem.run_bind, run_part1 hu rfl hu1, run_part1 hu rfl hv1, Result.andThen_ok, run_equalIn_int w d f.type k k0 m m' hu]
          split at h
          · rename_i hm
            subst hm
            simp only [BEq.rfl, Bool.not_true, Bool.false_eq_true, if_false]
            exact ih r h
          · rename_i hm
            obtain rfl := Option.some.inj h
            have : (m == m') = false := by simpa using hm
            simp [this]
        · cases h
      · rename_i p q hu e1 e2
        obtain ⟨u, hu1, hu2⟩ := get hx _ _ e1
        obtain ⟨u', hv1, hv2⟩ := get hy _ _ e2
        obtain rfl := hu2.bool_inv
        obtain rfl := hv2.bool_inv
        simp only [Op.eqFields, hn, ne_eq, not_false_eq_true, if_true, Sem.run_bind, run_part1 hu rfl hu1, run_part1 hu rfl hv1, Result.andThen_ok, run_equalIn_bool' w d f.type p q hu]
        split at h
        · rename_i hm
          simp only [hm, Bool.not_true, Bool.false_eq_true, if_false]
          exact ih r h
        · rename_i hm
          obtain rfl := Option.some.inj h
          simp [hm]
      · rename_i z z' hu e1 e2
        obtain ⟨u, hu1, hu2⟩ := get hx _ _ e1
        obtain ⟨u', hv1, hv2⟩ := get hy _ _ e2
        obtain rfl := hu2.str_inv
        obtain rfl := hv2.str_inv
        have tl : ∀ z : ByteArray, z.toList = z.data.toList := fun z => toList_mk z.data.toList
        simp only [Op.eqFields, hn, ne_eq, not_false_eq_true, if_true, Sem.run_bind, run_part1 hu rfl hu1, run_part1 hu rfl hv1, Result.andThen_ok, run_equalIn_string w d f.type z z' hu, tl]
        split at h
        · rename_i hm
          simp only [hm, BEq.rfl, Bool.not_true, Bool.false_eq_true, if_false]
          exact ih r h
        · rename_i hm
          obtain rfl := Option.some.inj h
          have : (z.data.toList == z'.data.toList) = false := by simpa using hm
          simp [this]
      · cases h

theorem VR.agg_inv {S : Nat → Prop} {w : World} {ρ : Rho} {xs : List AV} {v : Value} (h : VR S w ρ (.agg xs) v) : ∃ vs, v = .agg vs := by
  cases h with
  | agg vs _ _ => exact ⟨vs, rfl⟩

theorem op_eqA {t t' : TypeId} {x y : Operand} {fs : Array Field} {as bs : List AV} {r : Bool} (hu : P.underlying t = some (.struct fs)) (hs : P.stoodInHeld t = false) (hg : P.eqGuardType P.depth t = false) (hx : oev tm x = .agg as) (hy : oev tm y = .agg bs) (he : eqFA P fs.toList as bs = some r) :
    OpP P (.binOp .eql t x y t') tm h (.bool r) ∧ OpP P (.binOp .neq t x y t') tm h (.bool (!r)) := by
  have hf : P.fieldsOf t = fs := by unfold Program.fieldsOf; rw [hu]
  have key : ∀ (c : Ctx) (n nx : Nat) (ρ : Rho) (S : Nat → Prop) (a : Act) (w : World), Rep c n ⟨tm, h, nx⟩ ρ S a w → ∃ xs ys, a.eval x = .agg xs ∧ a.eval y = .agg ys ∧ (Op.equalIn 10000 t (.agg xs) (.agg ys)).run P w = .ok r w := fun c n nx ρ S a w hr => by
    have hxv := ev_vr hr hx
    have hyv := ev_vr hr hy
    obtain ⟨xs, e1⟩ := hxv.agg_inv
    obtain ⟨ys, e2⟩ := hyv.agg_inv
    rw [e1] at hxv
    rw [e2] at hyv
    refine ⟨xs, ys, e1, e2, ?_⟩
    rw [run_equalIn_agg w 9999 t xs ys (by rw [hf]; exact hu) hs, hf]
    exact eqFA_ok hxv hyv 9998 _ _ he
  refine ⟨fun c n nx ρ S a w hr => ?_, fun c n nx ρ S a w hr => ?_⟩
  · obtain ⟨xs, ys, e1, e2, e3⟩ := key c n nx ρ S a w hr
    refine ⟨.bool r, fun o ho => ?_, .bool⟩
    unfold execOp; rw [ho]
    simp only [e1, e2, Sem.run_bind, run_eqGuard_agg w .eql t x y xs ys hg, Result.andThen_ok, run_eql_struct, e3, Sem.run_pure]
  · obtain ⟨xs, ys, e1, e2, e3⟩ := key c n nx ρ S a w hr
    refine ⟨.bool (!r), fun o ho => ?_, .bool⟩
    unfold execOp; rw [ho]
    simp only [e1, e2, Sem.run_bind, run_eqGuard_agg w .neq t x y xs ys hg, Result.andThen_ok, run_neq_struct, e3, Sem.run_pure]

/-- Nothing of nil is nil. -/
theorem op_sliceNb {t e : TypeId} {x : Operand} {lo hi : Option Operand} {sz : Nat} (hu : P.underlying t = some (.slice e)) (hz : (P.info? e).map (·.size) = some sz) (hx : oev tm x = .nils) (h1 : Bd tm lo 0 0) (h2 : Bd tm hi 0 0) : OpP P (.slice t x lo hi none) tm h .nils := fun c n nx ρ S a w hr =>
  ⟨.slice none 0 0, fun o ho => by
    have hv := ev_vr hr hx
    generalize he : a.eval x = v at hv
    cases hv with
    | nils =>
      have b := run_bounds (P := P) (isSlice := true) (len := 0) (cap := 0) (bd_eval hr h1) (bd_eval hr h2) (by omega) (by omega) (by simp) w
      unfold execOp; rw [ho]
      simp only [Instr.sliceAt, Sem.run_bind, run_underlying hu, Result.andThen_ok, Instr.slice, he, Option.map_none, b, run_sizeOf hz, Sem.run_pure]
      rfl, .nils⟩

theorem stepBin_ok {b : BinOp} {t t' : TypeId} {x y : Operand} (he : stepBin P b t x y tm = some v) : OpP P (.binOp b t x y t') tm h v := by
  unfold stepBin at he
  split at he
  · rename_i k m hx
    have hx := oeO hx
    split at he
    · rename_i k' m' hy
      have hy := oeO hy
      have sh : ∀ b', (b' = .shl ∨ b' = .shr) → shBin b' k m m' = some v → OpP P (.binOp b' t x y t') tm h v := fun b' hb' he => by
        unfold shBin at he
        split at he
        · rename_i h0
          rcases hb' with rfl | rfl <;> simp only [Option.some.injEq] at he <;> subst he
          · exact op_shl hx hy h0
          · exact op_shr hx hy h0
        · cases he
      split at he
      · exact sh _ (.inl rfl) he
      · exact sh _ (.inr rfl) he
      · split at he
        · rename_i h0; subst h0; exact intBin_ok hx hy he
        · cases he
    · cases he
  · rename_i s hx
    have hx := oeO hx
    split at he
    · rename_i s' hy
      exact strBin_ok hx (oeO hy) he
    · cases he
  · rename_i p hx
    have hx := oeO hx
    split at he
    · rename_i q hy hu
      have hy := oeO hy
      split at he
      · obtain rfl := Option.some.inj he; exact op_eqb hu hx hy
      · obtain rfl := Option.some.inj he; exact op_neb hu hx hy
      · cases he
    · cases he
  · rename_i u _ _ _ hx
    have hx := oeO hx
    split at he
    · rename_i e hu
      split at he
      · rename_i hn
        obtain rfl := isNilsConst_ok hn
        split at he
        · rename_i _ hr; obtain rfl := Option.some.inj he; exact op_eqn hu hx (nilS?_ok hr)
        · rename_i _ hr; obtain rfl := Option.some.inj he; exact op_nen hu hx (nilS?_ok hr)
        · cases he
      · cases he
    · rename_i e hu
      split at he
      · rename_i hn
        simp only [Bool.and_eq_true] at hn
        obtain rfl := isNilConst_ok hn.1
        have e1 := Nat.eq_of_beq_eq_true hn.2
        subst e1
        split at he
        · rename_i _ hr; obtain rfl := Option.some.inj he; exact op_eqp hu hx (nilP?_ok hr)
        · rename_i _ hr; obtain rfl := Option.some.inj he; exact op_nep hu hx (nilP?_ok hr)
        · cases he
      · cases he
    · rename_i fs hu
      split at he
      · have hy := ‹oeF tm y = some (.agg _)›
        split at he
        · rename_i h0
          simp only [Bool.and_eq_true, Bool.not_eq_true'] at h0
          split at he
          · rename_i _ hr; obtain rfl := Option.some.inj he; exact (op_eqA hu h0.1 h0.2 hx (oeO hy) hr).1
          · rename_i _ hr; obtain rfl := Option.some.inj he; exact (op_eqA hu h0.1 h0.2 hx (oeO hy) hr).2
          · cases he
        · cases he
      · cases he
    · cases he
  · cases he

theorem bound_ok {o : Option Operand} {d m : Nat} (h : bound tm o d = some m) : Bd tm o (d : Int) (m : Int) := by
  unfold bound at h
  split at h
  · obtain rfl := Option.some.inj h; rfl
  · rename_i x
    split at h
    · rename_i k m' hx
      obtain rfl := Option.some.inj h
      exact ⟨k, oeO hx⟩
    · cases h

theorem partsS_ok {fs : Array Field} : ∀ (l : List (Nat × Operand)) (ps : List (Nat × AV)), partsS P tm fs l = some ps → Parts P tm fs l ps := by
  intro l
  induction l with
  | nil => intro ps h; simp only [partsS, Option.some.injEq] at h; subst h; exact .nil
  | cons p l ih =>
    obtain ⟨i, x⟩ := p
    intro ps h
    simp only [partsS] at h
    split at h
    · rename_i f w r hf hx hr
      split at h
      · rename_i m hm
        split at h
        · rename_i h0
          simp only [Bool.and_eq_true] at h0
          obtain rfl := Option.some.inj h
          have e := Nat.eq_of_beq_eq_true h0.2
          subst e
          exact .cons hf (oeO hx) hm h0.1 (ih r hr)
        · cases h
      · cases h
    · cases h

theorem szOf_ok {t : TypeId} {sz : Nat} (h : szOf P t = some sz) : (P.info? t).map (·.size) = some sz := h

theorem op_mkI {t : TypeId} {x : Operand} {v : AV} (hx : oev tm x = v) (hc : P.concrete t = true) : OpP P (.makeInterface t x) tm h (.ifc t v) := fun c n nx ρ S a w hr =>
  ⟨.iface t (a.eval x), fun o ho => by unfold execOp; rw [ho]; simp only [run_makeInterface w t _ hc, Sem.run_bind, Result.andThen_ok, Sem.run_pure], .ifc (ev_vr hr hx)⟩

theorem op_ta {t t0 : TypeId} {x : Operand} {v : AV} {fs : Array Field} {ok : Bool} (hx : oev tm x = .ifc t v) (hu : P.underlying t = some (.struct fs)) : OpP P (.typeAssert x t0 t ok) tm h (if ok then .tup [v, .bool true] else v) := fun c n nx ρ S a w hr => by
  have hv := ev_vr hr hx
  generalize he : a.eval x = u at hv
  cases hv with
  | @ifc ρ t x' u' hv =>
    cases ok with
    | false => exact ⟨u', fun o ho => by unfold execOp; rw [ho]; simp [Instr.typeAssert, run_underlying hu, he], hv⟩
    | true => exact ⟨.tuple #[u', .bool true], fun o ho => by unfold execOp; rw [ho]; simp [Instr.typeAssert, run_underlying hu, he], .tup _ rfl (fun i x u hx hu => by
        match i, hx, hu with
        | 0, hx, hu => simp at hx hu; subst hx; subst hu; exact hv
        | 1, hx, hu => simp at hx hu; subst hx; subst hu; exact .bool
        | i + 2, hx, hu => simp at hx)⟩

theorem op_field1 {t : TypeId} {x : Operand} {k : Nat} {fs : Array Field} {f : Field} {d : TypeDesc} {cs : List AV} {v : AV} (hu : P.underlying t = some (.struct fs)) (hf : fs[k]? = some f) (hx : oev tm x = .agg cs) (hd : P.underlying f.type = some d) (ha : isAggD d = false) (hv : cs[f.offset]? = some v) :
    OpP P (.field t x k) tm h v := fun c n nx ρ S a w hr => by
  have hxv := ev_vr hr hx
  generalize he : a.eval x = u at hxv
  cases hxv with
  | agg vs h1 h2 =>
    have hlt : f.offset < vs.size := by rw [← h1]; exact (List.getElem?_eq_some_iff.1 hv).1
    have hg : vs[f.offset]? = some vs[f.offset] := by simp [hlt]
    refine ⟨vs[f.offset], fun o ho => ?_, h2 _ _ _ hv hg⟩
    unfold execOp; rw [ho]
    simp only [Instr.field, Sem.run_bind, run_underlying hu, Result.andThen_ok, hf, he, asAgg, Sem.run_pure, run_part1 hd ha hg]

theorem op_fieldA {t : TypeId} {x : Operand} {k m : Nat} {fs : Array Field} {f : Field} {d : TypeDesc} {cs ds : List AV} (hu : P.underlying t = some (.struct fs)) (hf : fs[k]? = some f) (hx : oev tm x = .agg cs) (hd : P.underlying f.type = some d) (ha : isAggD d = true) (hz : (P.info? f.type).map (·.size) = some m) (hp : part cs f.offset m = some ds) :
    OpP P (.field t x k) tm h (.agg ds) := fun c n nx ρ S a w hr => by
  have hxv := ev_vr hr hx
  generalize he : a.eval x = u at hxv
  cases hxv with
  | agg vs h1 h2 =>
    obtain ⟨p1, p2, p3⟩ := part_spec cs f.offset m ds hp
    refine ⟨.agg (vs.extract f.offset (f.offset + m)), fun o ho => ?_, .agg _ (by rw [p1, Array.size_extract]; omega) (fun i y z hy hz' => ?_)⟩
    · unfold execOp; rw [ho]
      simp only [Instr.field, Sem.run_bind, run_underlying hu, Result.andThen_ok, hf, he, asAgg, Sem.run_pure, Go.part, run_isAgg hd, ha, if_true, run_sizeOf hz]
    · have hi : i < m := by rw [← p1]; exact (List.getElem?_eq_some_iff.1 hy).1
      rw [p3 i hi] at hy
      rw [Array.getElem?_extract, if_pos (by omega)] at hz'
      exact h2 _ y z hy hz'

theorem stepV_ok {op : Op} (he : stepV P op tm = some v) : OpP P op tm h v := by
  unfold stepV at he
  split at he
  · unfold stepVc at he
    split at he
    · rename_i fs cs hu hx
      split at he
      · rename_i f hf
        split at he
        · rename_i d hd
          split at he
          · rename_i ha
            split at he
            · rename_i m hz
              split at he
              · rename_i ds hp; obtain rfl := Option.some.inj he; exact op_fieldA hu hf (oeO hx) hd ha hz hp
              · cases he
            · cases he
          · rename_i ha
            exact op_field1 hu hf (oeO hx) hd (by simpa using ha) he
        · cases he
      · cases he
    · cases he
  · unfold stepVa at he
    split at he
    · rename_i hx
      split at he
      · rename_i hc; obtain rfl := Option.some.inj he; exact op_mkI (oeO hx) hc
      · cases he
    · cases he
  · unfold stepVb at he
    split at he
    · rename_i hx hu
      split at he
      · rename_i h0; subst h0; obtain rfl := Option.some.inj he; exact op_ta (oeO hx) hu
      · cases he
    · cases he
  · unfold stepV0 at he
    exact op_move (oeO he)
  · unfold stepV1 at he
    exact op_assign (oeO he)
  · unfold stepV2 at he
    split at he
    · rename_i hq; exact op_pickT (oeO hq) (oeO he)
    · rename_i hq; exact op_pickF (oeO hq) (oeO he)
    · cases he
  · unfold stepV3 at he
    split at he
    · rename_i hx; obtain rfl := Option.some.inj he; exact op_nilCheck (oeO hx) trivial
    · rename_i hx; obtain rfl := Option.some.inj he; exact op_nilCheck (oeO hx) trivial
    · rename_i hx; obtain rfl := Option.some.inj he; exact op_nilCheck (oeO hx) trivial
    · cases he
  · unfold stepV4 at he
    split at he
    · rename_i hx; obtain rfl := Option.some.inj he; exact op_not (oeO hx)
    · cases he
  · unfold stepV5 at he
    exact stepBin_ok he
  · unfold stepV6 at he
    split at he
    · rename_i k m k0 k' hx hs hd; obtain rfl := Option.some.inj he; exact op_conv (by rw [hs]; rfl) hd (oeO hx)
    · rename_i z hx hs hd; obtain rfl := Option.some.inj he; exact op_convS hs hd (oeO hx)
    · rename_i xs e hx hs hd
      split at he
      · rename_i l hu hl
        obtain rfl := Option.some.inj he
        exact op_toStr hs hu hd (oeO hx) (.sl (.inr trivial)) (bytesOf_spec _ _ hl)
      · cases he
    · rename_i e hx hs hd
      split at he
      · rename_i hu
        obtain rfl := Option.some.inj he
        exact op_toStr hs hu hd (oeO hx) .nils rfl
      · cases he
    · cases he
  · unfold stepV7 at he
    split at he
    · rename_i fs i hu hi
      split at he
      · rename_i z hz
        split at he
        · rename_i h0
          simp only [Bool.and_eq_true] at h0
          split at he
          · rename_i ps hps
            split at he
            · rename_i cs hcs
              obtain rfl := Option.some.inj he
              exact op_build hu (by rw [hi, Option.map_some, hz]) rfl h0.1 (fun f hf => Option.isSome_iff_exists.1 (List.all_eq_true.1 h0.2 f hf)) (partsS_ok _ _ hps) hcs
            · cases he
          · cases he
        · cases he
      · cases he
    · cases he
  · unfold stepV8 at he
    split at he
    · rename_i xs ys h1 h2; obtain rfl := Option.some.inj he; exact mkf (oesF_spec h1) (oesF_spec h2)
    · cases he
  · unfold stepV9 at he
    split at he
    · rename_i vs hx; exact op_extract (oeO hx) he
    · cases he
  · unfold stepV10 at he
    split at he
    · rename_i s k m hu hx hy
      split at he
      · rename_i b hb
        obtain rfl := Option.some.inj he
        exact op_index hu (oeO hx) (oeO hy) (by simp) (by simpa using hb)
      · cases he
    · cases he
  · unfold stepV11 at he
    split at he
    · rename_i fs hu
      split at he
      · rename_i f hf
        split at he
        · rename_i sz hz
          split at he
          · rename_i hx; obtain rfl := Option.some.inj he; exact op_fieldAddr hu hf hz (by omega) (oeO hx)
          · rename_i hx; obtain rfl := Option.some.inj he; exact op_fieldAddrL hu hf hz (by omega) (oeO hx)
          · cases he
        · cases he
      · cases he
    · cases he
  · unfold stepV12 at he
    split at he
    · rename_i e hu
      split at he
      · rename_i sz xs k m sz' hx hy hz
        split at he
        · rename_i h0
          subst h0
          split at he
          · rename_i w hw
            obtain rfl := Option.some.inj he
            exact op_indexAddrL hu hz (oeO hx) (oeO hy) (by simp) (by simpa using hw)
          · cases he
        · cases he
      · cases he
    · cases he
  · unfold stepV13 at he
    split at he
    · rename_i cs d hx hu
      split at he
      · rename_i hd
        split at he
        · rename_i m hz
          split at he
          · rename_i ds hp; obtain rfl := Option.some.inj he; exact op_loadAL hu hd hz (oeO hx) hp
          · cases he
        · cases he
      · rename_i hd
        exact op_load1L hu (by simpa using hd) (oeO hx) he
    · cases he
  · unfold stepV14 at he
    split at he
    · rename_i s hx hu
      split at he
      · rename_i l m hl hm
        split at he
        · rename_i h0
          simp only [Bool.and_eq_true] at h0
          obtain rfl := Option.some.inj he
          have h1 := Nat.le_of_ble_eq_true h0.1
          have h2 := Nat.le_of_ble_eq_true h0.2
          exact op_sliceS hu (oeO hx) (bound_ok hl) (bound_ok hm) (by omega) (by omega) (by exact Int.ofNat_le.2 h2)
        · cases he
      · cases he
    · rename_i sz xs e hx hu
      split at he
      · rename_i l m sz' hl hm hz
        split at he
        · rename_i h0
          obtain ⟨rfl, h0⟩ := h0
          simp only [Bool.and_eq_true] at h0
          obtain rfl := Option.some.inj he
          have h1 := Nat.le_of_ble_eq_true h0.1
          have h2 := Nat.le_of_ble_eq_true h0.2
          exact op_sliceL hu hz (oeO hx) (bound_ok hl) (bound_ok hm) (by omega) (by omega) (by omega)
        · cases he
      · cases he
    · rename_i e hx hu
      split at he
      · rename_i sz hl hm hz
        obtain rfl := Option.some.inj he
        exact op_sliceNb hu hz (oeO hx) (bound_ok hl) (bound_ok hm)
      · cases he
    · cases he
  · unfold stepV15 at he
    split at he
    · rename_i hx hu; obtain rfl := Option.some.inj he; exact op_len hu (oeO hx)
    · rename_i hx hu; obtain rfl := Option.some.inj he; exact op_leno hu (oeO hx)
    · rename_i hx hu; obtain rfl := Option.some.inj he; exact op_lenn hu (oeO hx)
    · rename_i hx hu; obtain rfl := Option.some.inj he; exact op_lens hu (oeO hx)
    · cases he
  · unfold stepV16 at he
    split at he
    · rename_i hx hu; obtain rfl := Option.some.inj he; exact op_capN hu (oeO hx)
    · cases he
  · unfold stepV17 at he
    split at he
    · rename_i hx hy
      split at he
      · rename_i h0; subst h0; obtain rfl := Option.some.inj he; exact op_min (oeO hx) (oeO hy)
      · cases he
    · cases he
  · unfold stepV18 at he
    split at he
    · rename_i hx hy
      split at he
      · rename_i h0; subst h0; obtain rfl := Option.some.inj he; exact op_max (oeO hx) (oeO hy)
      · cases he
    · cases he
  · cases he

theorem stepH_ok {op : Op} (he : stepH P op tm h = some v) : OpP P op tm h v := by
  unfold stepH at he
  split at he
  · unfold stepH0 at he
    split at he
    · rename_i b i o d hx hu
      split at he
      · rename_i sz xs hb
        split at he
        · rename_i e hi
          split at he
          · rename_i hd
            split at he
            · rename_i m hz
              split at he
              · rename_i cs hp; obtain rfl := Option.some.inj he; exact op_loadA hu hd hz (oeO hx) (hgO hb) hi hp
              · cases he
            · cases he
          · rename_i hd
            exact op_load1 hu (by simpa using hd) (oeO hx) (hgO hb) hi he
        · cases he
      · cases he
    · cases he
  · unfold stepH1 at he
    split at he
    · rename_i e hu
      split at he
      · rename_i b st len k m sz hx hy hz
        split at he
        · rename_i sz' xs hb
          split at he
          · rename_i h0
            simp only [Bool.and_eq_true] at h0
            obtain rfl := Option.some.inj he
            have h1 := Nat.eq_of_beq_eq_true h0.2
            subst h1
            have h2 : m < len := by simpa using h0.1
            have := op_indexAddr (P := P) hu hz (oeO hx) (hgO hb) (oeO hy) (by simp) (by simpa using h2)
            simpa using this
          · cases he
        · cases he
      · cases he
    · cases he
  · unfold stepH2 at he
    split at he
    · rename_i b st len e hx hu
      split at he
      · rename_i l m sz hl hm hz
        split at he
        · rename_i sz' xs hb
          split at he
          · rename_i h0
            simp only [Bool.and_eq_true] at h0
            obtain rfl := Option.some.inj he
            have h1 := Nat.eq_of_beq_eq_true h0.2
            subst h1
            have h2 := Nat.le_of_ble_eq_true h0.1.1
            have h3 := Nat.le_of_ble_eq_true h0.1.2
            exact op_slice hu hz (oeO hx) (hgO hb) (bound_ok hl) (bound_ok hm) (by omega) (by omega) (by omega)
          · cases he
        · cases he
      · cases he
    · cases he
  · unfold stepH3 at he
    split at he
    · rename_i b st len e hx hs hd
      split at he
      · rename_i xs hu hb
        split at he
        · rename_i h0
          split at he
          · rename_i l hl
            obtain rfl := Option.some.inj he
            exact op_toStr hs hu hd (oeO hx) (.own (hgO hb) (Nat.le_of_ble_eq_true h0)) (bytesOf_spec _ _ hl)
          · cases he
        · cases he
      · cases he
    · cases he
  · cases he

theorem zeroOK_ok {z : Value} {sz : Nat} (h : zeroOK z sz = true) : z.cells.size = sz ∧ ∀ (i : Nat) (u : Value), z.cells[i]? = some u → u.oneCell' = true := by
  unfold zeroOK at h
  simp only [Bool.and_eq_true] at h
  refine ⟨Nat.eq_of_beq_eq_true h.1, fun i u hu => ?_⟩
  rw [← Array.getElem?_toList] at hu
  exact List.all_eq_true.1 h.2 u (List.mem_of_getElem? hu)

theorem elemInfo_ok {e : TypeId} {z : Value} {sz bytes : Nat} (h : elemInfo P e = some (z, sz, bytes)) : (P.info? e).map (fun i => (i.zero, i.size, i.bytes)) = some (some z, sz, bytes) ∧ (z.cells.size = sz ∧ ∀ (i : Nat) (u : Value), z.cells[i]? = some u → u.oneCell' = true) ∧ 0 < sz := by
  unfold elemInfo at h
  split at h
  · rename_i i hi
    split at h
    · rename_i z' hz
      split at h
      · rename_i h0
        simp only [Bool.and_eq_true] at h0
        simp only [Option.some.injEq, Prod.mk.injEq] at h
        obtain ⟨rfl, rfl, rfl⟩ := h
        refine ⟨by rw [hi, Option.map_some, hz], zeroOK_ok h0.1, by simpa using h0.2⟩
      · cases h
    · cases h
  · cases h

theorem rangeOK_ok : ∀ (l : List (Nat × Operand)) (i : Nat), rangeOK i l = true → l.map (·.1) = (List.range' i l.length) := by
  intro l
  induction l with
  | nil => intro i _; rfl
  | cons p l ih =>
    intro i h
    simp only [rangeOK, Bool.and_eq_true] at h
    have e := Nat.eq_of_beq_eq_true h.1
    rw [List.map_cons, ih _ h.2, List.length_cons, List.range'_succ, e]

theorem parts_ok {parts : Array (Nat × Operand)} {vs : List AV} {len : Nat} (h : rangeOK 0 parts.toList = true) (hv : oesF tm (parts.toList.map (·.2)) = some vs) (hl : vs.length = len) : parts.toList.map (·.1) = List.range len := by
  have h1 := rangeOK_ok _ _ h
  have h2 := congrArg List.length (oevsS_spec _ _ (oesF_spec hv))
  simp only [List.length_map] at h2
  rw [h1, List.range_eq_range', h2, hl]

theorem srcS_ok {y : Operand} {str : Bool} {sz : Nat} {ys : List AV} (h' : srcS tm h y str sz = some ys) : SrcOK P tm h nx y sz ys := by
  have all_ok : ∀ (xs : List AV), xs.all (fun x => Nat.beq x.cells.length sz) = true → ∀ z ∈ xs, z.cells.length = sz := fun xs hx z hz => Nat.eq_of_beq_eq_true (List.all_eq_true.1 hx z hz)
  unfold srcS at h'
  split at h'
  · rename_i s hx
    split at h'
    · rename_i h0
      simp only [Bool.and_eq_true] at h0
      obtain rfl := Option.some.inj h'
      have := Nat.eq_of_beq_eq_true h0.2
      subst this
      exact SrcStr.ok (oeO hx)
    · cases h'
  · rename_i sz' xs hx
    split at h'
    · rename_i h0
      simp only [Bool.and_eq_true] at h0
      obtain rfl := Option.some.inj h'
      have := Nat.eq_of_beq_eq_true h0.1.2
      subst this
      exact SrcA.ok (.sl (.inr trivial)) (oeO hx) (all_ok _ h0.2)
    · cases h'
  · rename_i hx
    split at h'
    · cases h'
    · obtain rfl := Option.some.inj h'
      exact SrcA.ok .nils (oeO hx) (fun z hz => by cases hz)
  · rename_i b st len hx
    split at h'
    · rename_i sz' xs hb
      split at h'
      · rename_i h0
        simp only [Bool.and_eq_true] at h0
        obtain rfl := Option.some.inj h'
        have := Nat.eq_of_beq_eq_true h0.1.1.2
        subst this
        exact SrcA.ok (.own (hgO hb) (Nat.le_of_ble_eq_true h0.1.2)) (oeO hx) (fun z hz => all_ok _ h0.2 z (List.mem_of_mem_drop (List.mem_of_mem_take hz)))
      · cases h'
    · cases h'
  · cases h'

theorem known_ok {vs : List AV} {sz : Nat} (h : vs.all (fun v => v.known && Nat.beq v.cells.length sz) = true) : (vs.all fun v => v.known && Nat.beq v.cells.length sz) = true := h

theorem clear_none {t e : TypeId} {x : Operand} {v : AV} (hu : P.underlying t = some (.slice e)) (hx : oev tm x = v) (hv : v = .nils ∨ (∃ sz, v = .sl sz []) ∨ ∃ b st, v = .own b st 0) :
    OpOK P (.call { callee := .builtin .clear, args := #[x], argTypes := #[t] }) ⟨tm, h, nx⟩ (.tup []) h nx := OpOK.of fun c n ρ S a w hr => by
  have hvr := ev_vr hr hx
  generalize he : a.eval x = u at hvr
  have key : ∃ A cp, u = .slice A 0 cp := by
    rcases hv with rfl | ⟨sz, rfl⟩ | ⟨b, st, rfl⟩
    · cases hvr; exact ⟨_, _, rfl⟩
    · cases hvr with
      | sl0 => exact ⟨_, _, rfl⟩
      | sl vs _ _ _ _ _ _ => exact ⟨_, _, rfl⟩
    · cases hvr with
      | own _ _ _ => exact ⟨_, _, rfl⟩
      | own0 => exact ⟨_, _, rfl⟩
  obtain ⟨A, cp, rfl⟩ := key
  refine ⟨_, .tuple #[], w, ρ, S, fun o ho => ?_, .inl rfl, hr, .tup #[] rfl (fun i x u hx _ => by simp at hx), fun _ _ h => h, fun _ hk => ⟨hk, rfl⟩⟩
  unfold execOp; rw [ho]
  cases A <;> simp [resolve, invoke, builtin, he, Builtin.clear_, run_underlying hu]

theorem op_clear {t e : TypeId} {x : Operand} {z : Value} {sz bytes b st len : Nat} {xs : List AV} {h' : Heap} (hu : P.underlying t = some (.slice e)) (hi : (P.info? e).map (fun i => (i.zero, i.size, i.bytes)) = some (some z, sz, bytes)) (hzs : z.cells.size = sz ∧ ∀ (i : Nat) (u : Value), z.cells[i]? = some u → u.oneCell' = true)
    (hx : oev tm x = .own b st (len + 1)) (hb : hget h b = some (.cells sz xs)) (hst : st ≤ xs.length) (hh : hset h b (.cells sz (xs.take st)) = h') :
    OpOK P (.call { callee := .builtin .clear, args := #[x], argTypes := #[t] }) ⟨tm, h, nx⟩ (.tup []) h' nx := OpOK.of fun c n ρ S a w hr => by
  obtain ⟨inf, e1, e2⟩ := Option.map_eq_some_iff.1 hi
  obtain ⟨e3, e4, e5⟩ : inf.zero = some z ∧ inf.size = sz ∧ inf.bytes = bytes := by
    have := e2; simp only [Prod.mk.injEq] at this; exact this
  have hv := ev_vr hr hx
  generalize hev : a.eval x = u at hv
  cases hv with
  | @own _ _ _ _ r cp q1 q2 q3 =>
  obtain ⟨g1, g2, g3⟩ := blk_of hr hb q1
  obtain ⟨k1, k2, k3, k4, cur, el, k5, k6, k7, k8⟩ := g3
  have hzl : (Builtin.zeroCells z.cells (len + 1)).toList.length = (len + 1) * sz := by rw [Array.length_toList, size_zeroCells, hzs.1]
  have hle : (st + (len + 1)) * sz ≤ r.cap * sz := Nat.mul_le_mul_right _ (by omega)
  rw [Nat.add_mul] at hle
  have hstc := run_storeCells_at P r.blk (st * r.sz) el (Builtin.zeroCells z.cells (len + 1)).toList 0 cur w k5 (by rw [hzl, k1, k6]; omega) (fun u hu => by
    obtain ⟨j, hj⟩ := List.getElem?_of_mem hu
    rw [Array.getElem?_toList] at hj
    exact zeroCells_one hzs.2 hj)
  rw [Nat.add_zero, hzl, k1] at hstc
  generalize hcs : (cur.toList.take (st * sz) ++ (Builtin.zeroCells z.cells (len + 1)).toList ++ cur.toList.drop (st * sz + (len + 1) * sz)).toArray = cs at hstc
  have hrep := hr.write hb q1 (cs := cs) k5 sz (xs.take st) k1 (fun x hx => k2 x (List.mem_of_mem_take hx)) (by rw [List.length_take]; omega) k4 (by
      rw [← hcs, List.size_toArray, List.length_append, List.length_append, List.length_take, List.length_drop, Array.length_toList, hzl]; omega) (fun j u hu => by
      rw [← hcs, List.getElem?_toArray] at hu
      have hm := List.mem_of_getElem? hu
      simp only [List.mem_append] at hm
      rcases hm with (hm | hm) | hm
      · obtain ⟨i, hi⟩ := List.getElem?_of_mem (List.mem_of_mem_take hm); rw [Array.getElem?_toList] at hi; exact k7 i u hi
      · obtain ⟨i, hi⟩ := List.getElem?_of_mem hm; rw [Array.getElem?_toList] at hi; exact zeroCells_one hzs.2 hi
      · obtain ⟨i, hi⟩ := List.getElem?_of_mem (List.mem_of_mem_drop hm); rw [Array.getElem?_toList] at hi; exact k7 i u hi) (fun j y u hy hu => by
      have hfl : (flat (xs.take st)).length = st * sz := by rw [flat_len (fun x hx => k2 x (List.mem_of_mem_take hx)), List.length_take, Nat.min_eq_left hst]
      have hj : j < st * sz := by rw [← hfl]; exact (List.getElem?_eq_some_iff.1 hy).1
      rw [← hcs, List.getElem?_toArray, List.append_assoc, List.getElem?_append_left (by rw [List.length_take, Array.length_toList]; omega), List.getElem?_take_of_lt hj, Array.getElem?_toList] at hu
      refine k8 j y u ?_ hu
      have e : flat xs = flat (xs.take st) ++ flat (xs.drop st) := by rw [← flat_append, List.take_append_drop]
      rw [e, List.getElem?_append_left (by rw [hfl]; exact hj)]
      exact hy)
  rw [hh] at hrep
  refine ⟨_, .tuple #[], w.setRow r.blk cs, ρ, S, fun o ho => ?_, .inl rfl, hrep, .tup #[] rfl (fun i x u hx _ => by simp at hx), fun _ _ h => h, fun k hk => ⟨hk, setRow_other w r.blk k cs (fun e => g1 (e ▸ hk))⟩⟩
  unfold execOp; rw [ho]
  have hz0 : (zeroValue e).run P w = .ok z w := by simp [zeroValue, typeInfo, e1, e3]
  simp only [resolve, invoke, builtin, Sem.run_bind, Sem.run_pure, Result.andThen_ok, List.map_toArray, List.map_cons, List.map_nil, hev]
  simp [Builtin.clear_, run_underlying hu, hz0, k1, hstc]

theorem stepO_ok {op : Op} {h' : Heap} {nx' : Nat} (he : stepO P op tm h nx = some (v, h', nx')) : OpOK P op ⟨tm, h, nx⟩ v h' nx' := by
  unfold stepO at he
  split at he
  · unfold stepO0 at he
    split at he
    · rename_i hx
      split at he
      · rename_i hk
        simp only [Option.some.injEq, Prod.mk.injEq] at he
        obtain ⟨rfl, rfl, rfl⟩ := he
        exact bx (oeF_spec hx) hk
      · cases he
    · cases he
  · unfold stepO1 at he
    split at he
    · rename_i i hi
      split at he
      · rename_i z hz
        split at he
        · rename_i w hw
          split at he
          · rename_i hk
            simp only [Option.some.injEq, Prod.mk.injEq] at he
            obtain ⟨rfl, rfl, rfl⟩ := he
            exact op_alloc (by rw [hi, Option.map_some, hz]) (constS_spec _ _ hw) hk
          · cases he
        · cases he
      · cases he
    · cases he
  · unfold stepO2 at he
    split at he
    · rename_i e hu
      split at he
      · rename_i z sz bytes k m k' m' hi hx hy
        obtain ⟨i1, i2, i3⟩ := elemInfo_ok hi
        split at he
        · rename_i w hw
          split at he
          · rename_i h0
            simp only [Bool.and_eq_true] at h0
            obtain ⟨⟨⟨⟨h1, h2⟩, h3⟩, h4⟩, h5⟩ := h0
            have h3 := Nat.eq_of_beq_eq_true h3
            subst h3
            have h4 := Nat.le_of_ble_eq_true h4
            have h5 := Nat.le_of_ble_eq_true h5
            simp only [Option.some.injEq, Prod.mk.injEq] at he
            obtain ⟨rfl, rfl, rfl⟩ := he
            have := op_make (P := P) (h := h) (nx := nx) (x := _) (y := _) hu i1 (constS_spec _ _ hw) h1 (Nat.eq_of_beq_eq_true h2) i3 (oeO hx) (oeO hy) (by simp) (by
              have : ((bytes * m : Nat) : Int) ≤ 281474976710656 := by omega
              rw [Int.natCast_mul] at this
              exact this) (by show ((m : Nat) : Int) ≤ _; omega)
            simpa using this
          · cases he
        · cases he
      · cases he
    · cases he
  · unfold stepO3 at he
    split at he
    · rename_i e hu
      split at he
      · rename_i z sz bytes vs hi hv
        obtain ⟨i1, i2, i3⟩ := elemInfo_ok hi
        split at he
        · rename_i h0
          simp only [Bool.and_eq_true] at h0
          obtain ⟨⟨⟨h1, h2⟩, h3⟩, h4⟩ := h0
          simp only [Option.some.injEq, Prod.mk.injEq] at he
          obtain ⟨rfl, rfl, rfl⟩ := he
          exact bsl hu i1 i2 i3 (parts_ok h1 hv (Nat.eq_of_beq_eq_true h2)) (oesF_spec hv) (by simpa only [Bool.and_eq_true] using h4) (Nat.le_of_ble_eq_true h3)
        · cases he
      · cases he
    · cases he
  · unfold stepO4 at he
    split at he
    · rename_i b i o w m hx hy hz
      split at he
      · rename_i sz xs hb
        split at he
        · rename_i e hi
          split at he
          · rename_i h0
            simp only [Bool.and_eq_true] at h0
            obtain ⟨⟨h1, h2⟩, h3⟩ := h0
            have h2 := Nat.eq_of_beq_eq_true h2
            have h3 := Nat.eq_of_beq_eq_true h3
            split at he
            · rename_i h4
              simp only [Bool.and_eq_true] at h4
              obtain ⟨⟨⟨⟨k1, k2⟩, k3⟩, k4⟩, k5⟩ := h4
              have k3 := Nat.eq_of_beq_eq_true k3
              have k4 := Nat.eq_of_beq_eq_true k4
              have k5 := Nat.eq_of_beq_eq_true k5
              subst k4
              rw [k3] at hb
              rw [k5] at hz
              split at he
              · rename_i xs' hxs
                split at he
                · rename_i h2' hh
                  simp only [Option.some.injEq, Prod.mk.injEq] at he
                  obtain ⟨rfl, rfl, rfl⟩ := he
                  rw [k3] at hh
                  exact st1 hz (oeO hx) (oeF_spec hy) (hgO hb) hi k1 k2 hxs hh
                · cases he
              · cases he
            · split at he
              · rename_i cs hcs
                split at he
                · rename_i xs' hxs
                  split at he
                  · rename_i h2' hh
                    simp only [Option.some.injEq, Prod.mk.injEq] at he
                    obtain ⟨rfl, rfl, rfl⟩ := he
                    exact stA hz (oeO hx) (oeF_spec hy) (hgO hb) hi h2 h1 h3 hcs hxs hh
                  · cases he
                · cases he
              · cases he
          · cases he
        · cases he
      · cases he
    · cases he
  · unfold stepO5 at he
    split at he
    · rename_i e k hu hti
      split at he
      · rename_i z sz bytes k' m hi hx hy
        obtain ⟨i1, i2, i3⟩ := elemInfo_ok hi
        split at he
        · rename_i h0
          simp only [Bool.and_eq_true] at h0
          simp only [Option.some.injEq, Prod.mk.injEq] at he
          obtain ⟨rfl, rfl, rfl⟩ := he
          exact op_appZ hu hti i1 i2 i3 (oeO hx) (oeO hy) (by omega) (Nat.le_of_ble_eq_true h0.1) (Nat.le_of_ble_eq_true h0.2)
        · cases he
      · cases he
    · rename_i e dx _ hu hdx
      split at he
      · rename_i z sz bytes str hi hstr
        obtain ⟨i1, i2, i3⟩ := elemInfo_ok hi
        have hdx' : (∃ e', dx = .slice e') ∨ dx = .string := by
          split at hstr
          · exact .inr rfl
          · exact .inl ⟨_, rfl⟩
          · cases hstr
        split at he
        · rename_i ys hys hx
          split at he
          · rename_i h0
            simp only [Bool.and_eq_true] at h0
            simp only [Option.some.injEq, Prod.mk.injEq] at he
            obtain ⟨rfl, rfl, rfl⟩ := he
            exact op_appN hu hdx hdx' i1 i2 (oeO hx) (srcS_ok hys) ⟨Nat.le_of_ble_eq_true h0.1, Nat.le_of_ble_eq_true h0.2⟩
          · cases he
        · rename_i ys b st len hys hx
          split at he
          · rename_i sz' xs hb
            split at he
            · rename_i h0
              simp only [Bool.and_eq_true] at h0
              obtain ⟨⟨⟨⟨h1, h2⟩, h3⟩, h4⟩, h5⟩ := h0
              have h1 := Nat.eq_of_beq_eq_true h1
              have h2 := Nat.eq_of_beq_eq_true h2
              have h3 := Nat.eq_of_beq_eq_true h3
              subst h1 h2
              split at he
              · rename_i h2' hd
                rw [forceL_eq] at he
                simp only [Option.some.injEq, Prod.mk.injEq] at he
                obtain ⟨rfl, rfl, rfl⟩ := he
                exact op_app hu hdx hdx' i1 i2 (oeO hx) (hgO hb) hd h3 (srcS_ok hys) ⟨Nat.le_of_ble_eq_true h4, Nat.le_of_ble_eq_true h5⟩ rfl
              · cases he
            · cases he
          · cases he
        · cases he
      · cases he
    · cases he
  · unfold stepOc at he
    split at he
    · rename_i e hu hx; simp only [Option.some.injEq, Prod.mk.injEq] at he; obtain ⟨rfl, rfl, rfl⟩ := he; exact clear_none hu (oeO hx) (.inl rfl)
    · rename_i e sz hu hx; simp only [Option.some.injEq, Prod.mk.injEq] at he; obtain ⟨rfl, rfl, rfl⟩ := he; exact clear_none hu (oeO hx) (.inr (.inl ⟨sz, rfl⟩))
    · rename_i e b st hu hx; simp only [Option.some.injEq, Prod.mk.injEq] at he; obtain ⟨rfl, rfl, rfl⟩ := he; exact clear_none hu (oeO hx) (.inr (.inr ⟨b, st, rfl⟩))
    · rename_i e b st len hu hx
      split at he
      · rename_i z sz bytes sz' xs hi hb
        obtain ⟨i1, i2, i3⟩ := elemInfo_ok hi
        split at he
        · rename_i h0
          simp only [Bool.and_eq_true] at h0
          have h1 := Nat.eq_of_beq_eq_true h0.1
          subst h1
          split at he
          · rename_i h1' hh
            simp only [Option.some.injEq, Prod.mk.injEq] at he
            obtain ⟨rfl, rfl, rfl⟩ := he
            exact op_clear hu i1 i2 (oeO hx) (hgO hb) (Nat.le_of_ble_eq_true h0.2) (hsetS_spec _ _ _ _ hh)
          · cases he
        · cases he
      · cases he
    · cases he
  · cases he

theorem stepF_ok {op : Op} (he : stepF P op tm = some v) : OpQ P op tm h v := by
  unfold stepF at he
  split at he
  · split at he
    · rename_i e hu
      split at he
      · rename_i z sz bytes vs hi hv
        obtain ⟨i1, i2, i3⟩ := elemInfo_ok hi
        split at he
        · rename_i h0
          simp only [Bool.and_eq_true] at h0
          obtain ⟨⟨⟨⟨h1, h2⟩, h3⟩, h4⟩, h5⟩ := h0
          obtain rfl := Option.some.inj he
          exact op_bslF hu i1 i2 i3 (parts_ok h1 hv (Nat.eq_of_beq_eq_true h2)) (oesF_spec hv) (by simpa only [Bool.and_eq_true] using h4) h5 (Nat.le_of_ble_eq_true h3)
        · cases he
      · cases he
    · cases he
  · split at he
    · rename_i z e hx hs hd
      split at he
      · rename_i hu
        obtain rfl := Option.some.inj he
        exact op_toBytes hs hd hu (oeO hx)
      · cases he
    · cases he
  · cases he

end
end Go.Proofs.Ytloddmbbfkejcaa.Abs
