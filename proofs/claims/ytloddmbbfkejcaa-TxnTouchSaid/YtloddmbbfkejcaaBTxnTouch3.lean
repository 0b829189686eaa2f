/- Texts of this session, merged: AbsZ, ASort, ASortB, AbsFC, ASortC, AReads, AConcatS, ATouch, AbsFD, AReadsP, RunBegun5, ALawTxnTouch. -/
import Derived.Test.YtloddmbbfkejcaaBTxnTouch2
import Derived.Test.YtloddmbbfkejcaaBTxnTouch1
set_option linter.unusedVariables false
set_option linter.unusedSimpArgs false
section
/-
  A machine that runs codes whose inputs are known: what it comes to is what the program comes to. It holds of any program.
-/
namespace Go.Proofs.Ytloddmbbfkejcaa.Abs

section
variable {P : Program}

theorem mkSg_ok {cf : CF} {l : List Oper} {its : List IV} {hs : List (Heap × Nat)} : ∀ (sp : List (List Nat × Nat × Nat)) (acc sg : List SG), mkSg P cf l its hs sp acc = some sg →
    ∃ tail, sg = acc ++ tail ∧ tail.length = sp.length ∧ ∀ (s : Nat) (q : List Nat × Nat × Nat) (g : SG), sp[s]? = some q → tail[s]? = some g → g.e = q.1 ∧ (q.2.1 = 0 → hs[q.2.2]? = some (g.h, g.x)) := by
  intro sp
  induction sp with
  | nil => intro acc sg h; simp only [mkSg, Option.some.injEq] at h; exact ⟨[], by simp [h], rfl, fun s q g hq => by simp at hq⟩
  | cons q sp ih =>
    intro acc sg h
    obtain ⟨e, p, k⟩ := q
    have step : ∀ (g0 : SG), g0.e = e → (p = 0 → hs[k]? = some (g0.h, g0.x)) → mkSg P cf l its hs sp (acc ++ [g0]) = some sg → ∃ tail, sg = acc ++ tail ∧ tail.length = ((e, p, k) :: sp).length ∧ ∀ (s : Nat) (q : List Nat × Nat × Nat) (g : SG), ((e, p, k) :: sp)[s]? = some q → tail[s]? = some g → g.e = q.1 ∧ (q.2.1 = 0 → hs[q.2.2]? = some (g.h, g.x)) := by
      intro g0 h1 h2 h3
      obtain ⟨tail, t1, t2, t3⟩ := ih _ _ h3
      refine ⟨g0 :: tail, by rw [t1]; simp, by simp [t2], fun s q g hq hg => ?_⟩
      cases s with
      | zero =>
        simp only [List.getElem?_cons_zero, Option.some.injEq] at hq hg
        subst hq; subst hg
        exact ⟨h1, h2⟩
      | succ s => simp only [List.getElem?_cons_succ] at hq hg; exact t3 s q g hq hg
    cases p with
    | zero =>
      simp only [mkSg] at h
      split at h
      · rename_i hh x hk
        exact step ⟨e, hh, x⟩ rfl (fun _ => hk) h
      · cases h
    | succ p =>
      simp only [mkSg] at h
      split at h
      · rename_i g o it h1 h2 h3
        split at h
        · exact step ⟨e, g.h, b1of its hs k⟩ rfl (fun e => by cases e) h
        · split at h
          · rename_i v h' x' hv
            exact step ⟨e, h', x'⟩ rfl (fun e => by cases e) h
          · cases h
      · cases h

def toIX (its : List IV) (hs : List (Heap × Nat)) : List IX := its.mapIdx fun i it => ⟨it.v, it.ef, b0of its hs i, b1of its hs i, it.tm⟩

theorem toIX_get {its : List IV} {hs : List (Heap × Nat)} {i : Nat} : (toIX its hs)[i]? = (its[i]?).map fun it => ⟨it.v, it.ef, b0of its hs i, b1of its hs i, it.tm⟩ := by
  unfold toIX
  rw [List.getElem?_mapIdx]

theorem toIX_some {its : List IV} {hs : List (Heap × Nat)} {i : Nat} {ix : IX} (h : (toIX its hs)[i]? = some ix) : ∃ it, its[i]? = some it ∧ ix = ⟨it.v, it.ef, b0of its hs i, b1of its hs i, it.tm⟩ := by
  rw [toIX_get] at h
  obtain ⟨it, h1, h2⟩ := Option.map_eq_some_iff.1 h
  exact ⟨it, h1, h2.symm⟩

theorem hrOK_ok {X β β1 k : Nat} {H1 H2 : Heap} (h : hrOK X β β1 k H1 H2 = true) : HR X β β1 H1 H2 := by
  intro b B hb
  have mem : ∀ (H : Heap) (B : Blk), hget H b = some B → ∃ p ∈ H, p.1 = b := by
    intro H
    induction H with
    | nil => intro B e; cases e
    | cons q t ih =>
      obtain ⟨j, v⟩ := q
      intro B e
      by_cases ej : j = b
      · exact ⟨(j, v), List.mem_cons_self, ej⟩
      · simp only [hget, ej, if_false] at e
        obtain ⟨p, hp, he⟩ := ih B e
        exact ⟨p, List.mem_cons_of_mem _ hp, he⟩
  obtain ⟨p, hp, rfl⟩ := mem H2 B hb
  unfold hrOK at h
  have := List.all_eq_true.1 h p hp
  split at this
  · rename_i B' hB'
    rw [hgetF_eq, hb] at hB'
    obtain rfl := Option.some.inj hB'
    simp only [] at this
    generalize (if (Nat.ble β p.fst && p.fst.blt (β + k)) = true then p.fst - β + X else p.fst) = b1 at this
    split at this
    · rename_i B1 hB1
      simp only [Bool.and_eq_true, Bool.or_eq_true] at this
      obtain ⟨⟨h1, h2⟩, h3⟩ := this
      refine ⟨b1, B1, hgO hB1, Nat.eq_of_beq_eq_true h1, blkEq_ok h2, fun hlt => ?_⟩
      rcases h3 with (h3 | h3) | h3
      · have := Nat.le_of_ble_eq_true h3; omega
      · exact .inl (by simpa using h3)
      · exact .inr (Nat.le_of_ble_eq_true h3)
    · cases this
  · cases this

/-- What another place of an operation says. -/
def ExX (P : Program) (its : List IV) (hs : List (Heap × Nat)) (sg : List SG) (i s' : Nat) (o : Oper) (it : IV) (g : SG) : Prop :=
  if it.ef then ∃ g', sg[s']? = some g' ∧ EffX P o.op it.tm g g' ⟨it.v, it.ef, b0of its hs i, b1of its hs i, it.tm⟩ else OpQ P o.op it.tm g.h it.v

theorem exOK_ok {cf : CF} (hcf : CFok P cf) {l : List Oper} {its : List IV} {hs : List (Heap × Nat)} {sg : List SG} {q : Nat × Nat × Nat} (h : exOK P cf l its hs sg q = true) {o : Oper} {it : IV} {g : SG} (ho : l[q.1]? = some o) (hit : its[q.1]? = some it) (hg : sg[q.2.1]? = some g) :
    match o.guard with
    | none => ExX P its hs sg q.1 q.2.2 o it g
    | some (j, b) => ∃ r w, its[j]? = some r ∧ gv r.v = some w ∧ (w = some b → ExX P its hs sg q.1 q.2.2 o it g) ∧ (w ≠ some b → it.ef = true → ∃ g', sg[q.2.2]? = some g' ∧ g'.h = g.h ∧ g.x ≤ g'.x) := by
  have go : exOK.go P cf its hs sg q o it g = true → ExX P its hs sg q.1 q.2.2 o it g := by
    intro hh
    unfold exOK.go at hh
    unfold ExX
    cases hef : it.ef with
    | true =>
      rw [hef] at hh
      simp only [if_true] at hh ⊢
      split at hh
      · rename_i g' hg'
        refine ⟨g', hg', ?_⟩
        split at hh
        · rename_i hle
          split at hh
          · rename_i v h' x' hv
            simp only [Bool.and_eq_true] at hh
            obtain ⟨⟨⟨k1, k2⟩, k3⟩, k4⟩ := hh
            have k1 := avEq_ok _ _ k1
            have k2 := heapEq_ok _ _ k2
            have k3 := Nat.eq_of_beq_eq_true k3
            have k4 := Nat.eq_of_beq_eq_true k4
            subst k1 k2
            refine .inl ⟨Nat.le_of_ble_eq_true hle, by rw [k4]; exact k3, ?_⟩
            rw [k4]
            exact stepAny_ok hcf hv
          · cases hh
        · simp only [Bool.and_eq_true] at hh
          obtain ⟨⟨k1, k2⟩, hh⟩ := hh
          split at hh
          · rename_i v1 h1 x1 hv
            simp only [Bool.and_eq_true] at hh
            obtain ⟨⟨⟨k3, k4⟩, k5⟩, k6⟩ := hh
            have k3 := Nat.le_of_ble_eq_true k3
            refine .inr ⟨Nat.le_of_ble_eq_true k1, Nat.eq_of_beq_eq_true k2, v1, h1, x1 - g.x, ?_, Nat.le_of_ble_eq_true k4, avEq_ok _ _ k5, hrOK_ok k6⟩
            rw [Nat.add_sub_cancel' k3]
            exact stepAny_ok hcf hv
          · cases hh
      · cases hh
    | false =>
      rw [hef] at hh
      simp only [Bool.false_eq_true, if_false] at hh ⊢
      split at hh
      · rename_i v hv
        rw [← avEq_ok _ _ hh]
        exact stepQ_ok hcf hv
      · cases hh
  unfold exOK at h
  rw [ho, hit, hg] at h
  simp only [] at h
  split at h
  · rename_i j b hgd
    rw [hgd]
    simp only []
    split at h
    · rename_i r hr
      split at h
      · rename_i w hw
        refine ⟨r, w, hr, hw, fun e => ?_, fun e hef => ?_⟩
        · rw [if_pos (by simp [e])] at h; exact go h
        · rw [if_neg (by simpa using e), if_pos hef] at h
          split at h
          · rename_i g' hg'
            simp only [Bool.and_eq_true] at h
            exact ⟨g', hg', (heapEq_ok _ _ h.1).symm, Nat.le_of_ble_eq_true h.2⟩
          · cases h
      · cases h
    · cases h
  · rename_i hgd
    rw [hgd]
    exact go h

theorem rankP_eq {ps : List (Nat × List Nat)} {its : List IV} (hl : ps.length = its.length) (he : ∀ (i : Nat) (p : Nat × List Nat) (it : IV), ps[i]? = some p → its[i]? = some it → it.ef = Nat.ble 2 p.1) (i : Nat) : rankP ps i = rankV its i := by
  have e : its.map (·.ef) = ps.map (fun p => Nat.ble 2 p.1) := by
    refine List.ext_getElem? fun k => ?_
    rw [List.getElem?_map, List.getElem?_map]
    cases h1 : its[k]? with
    | none =>
      rw [List.getElem?_eq_none_iff] at h1
      rw [List.getElem?_eq_none (by omega)]; rfl
    | some it =>
      obtain ⟨p, hp⟩ : ∃ p, ps[k]? = some p := ⟨_, List.getElem?_eq_getElem (by rw [hl]; exact (List.getElem?_eq_some_iff.1 h1).1)⟩
      rw [hp, Option.map_some, Option.map_some, he k p it hp h1]
  unfold rankP rankV
  have c1 : (ps.take i).countP (fun p => Nat.ble 2 p.1) = ((ps.map (fun p => Nat.ble 2 p.1)).take i).countP id := by rw [← List.map_take, List.countP_map]; rfl
  have c2 : (its.take i).countP (fun it => it.ef) = ((its.map (·.ef)).take i).countP id := by rw [← List.map_take, List.countP_map]; rfl
  rw [c1, c2, e]

theorem monoX_ok : ∀ (hs : List (Heap × Nat)), monoX hs = true → ∀ (j i : Nat) (p q : Heap × Nat), i ≤ j → hs[i]? = some p → hs[j]? = some q → p.2 ≤ q.2
  | [], _, j, i, p, q, _, hp, _ => by simp at hp
  | [a], _, j, i, p, q, hij, hp, hq => by
    have h1 : i < 1 := (List.getElem?_eq_some_iff.1 hp).1
    have h2 : j < 1 := (List.getElem?_eq_some_iff.1 hq).1
    obtain rfl : i = 0 := by omega
    obtain rfl : j = 0 := by omega
    rw [hp] at hq
    obtain rfl := Option.some.inj hq
    exact Nat.le_refl _
  | a :: b :: t, h, j, i, p, q, hij, hp, hq => by
    simp only [monoX, Bool.and_eq_true] at h
    cases j with
    | zero =>
      obtain rfl : i = 0 := by omega
      rw [hp] at hq
      obtain rfl := Option.some.inj hq
      exact Nat.le_refl _
    | succ j =>
      rw [List.getElem?_cons_succ] at hq
      cases i with
      | zero =>
        simp only [List.getElem?_cons_zero, Option.some.injEq] at hp
        subst hp
        exact Nat.le_trans (Nat.le_of_ble_eq_true h.1) (monoX_ok (b :: t) h.2 j 0 b q (Nat.zero_le _) rfl hq)
      | succ i =>
        rw [List.getElem?_cons_succ] at hp
        exact monoX_ok (b :: t) h.2 j i p q (by omega) hp hq

theorem sameS_ok {l l' : List Nat} (h : sameS l l' = true) (j : Nat) : j ∈ l ↔ j ∈ l' := by
  unfold sameS at h
  simp only [Bool.and_eq_true] at h
  constructor
  · intro hj; have := List.all_eq_true.1 h.1 j hj; simpa using this
  · intro hj; have := List.all_eq_true.1 h.2 j hj; simpa using this

/-- A region whose order is open. -/
theorem drawn_ok {cf : CF} (hcf : CFok P cf) (hm : P.follows .mixedOrders = true) {c : Ctx} {n id : Nat} {Q : Exit → St → Prop} {l : List Oper} {pl : PL} {st st' : St} (h : drawn P cf n l pl st = some st') (hQ : Q .normal st') : AW P c n (.region id l.toArray true) Q st := by
  unfold drawn at h
  split at h
  · rename_i hchk
    rw [Bool.and_eq_true] at hchk
    obtain ⟨hchk, hdn⟩ := hchk
    split at h
    · rename_i its0 hs0 fr st1 hrun
      split at h
      · rename_i hmono
        split at h
        · rename_i sg hsg
          split at h
          · rename_i hex
            obtain rfl := Option.some.inj h
            have hF := runDraw_ok (P := P) hcf (st0 := st) l pl.its [] [] [] [(st.h, st.nx)] [] st its0 hs0 fr st1 hrun
              ⟨rfl, rfl, fun i p it h => by simp at h, rfl, rfl, rfl, fun i o it h => by simp at h, fun i p it x h => by simp at h, fun i o it x h => by simp at h, fun _ _ => rfl, fun i hi => by cases hi⟩
            rw [List.nil_append, List.nil_append] at hF
            generalize its0.reverse = its at hF hsg hex
            generalize hs0.reverse = hs at hF hsg hex hmono
            obtain ⟨tail, t1, t2, t3⟩ := mkSg_ok _ _ _ hsg
            rw [List.nil_append] at t1
            subst t1
            have hefp := hF.efp
            have hrk : ∀ i, rankP pl.its i = rankV its i := rankP_eq hF.plen (fun i p it a b => (hefp i p it a b).1)
            unfold chkX at hchk
            simp only [Bool.and_eq_true] at hchk
            obtain ⟨⟨⟨⟨⟨⟨cA, cB⟩, cC⟩, cD⟩, cE⟩, cF⟩, cG⟩ := hchk
            -- an operation's checks
            have one : ∀ (i : Nat) (o : Oper), l[i]? = some o → ∃ k ks it, pl.its[i]? = some (k, ks) ∧ its[i]? = some it ∧ it.ef = Nat.ble 2 k ∧ chkX1 l pl i o k ks = true := fun i o ho => by
              have hil : i < l.length := (List.getElem?_eq_some_iff.1 ho).1
              obtain ⟨it, hit⟩ : ∃ it, its[i]? = some it := ⟨_, List.getElem?_eq_getElem (by rw [← hF.len]; exact hil)⟩
              obtain ⟨p, hp⟩ : ∃ p, pl.its[i]? = some p := ⟨_, List.getElem?_eq_getElem (by rw [hF.plen, ← hF.len]; exact hil)⟩
              have := List.all_eq_true.1 cB i (List.mem_range.2 hil)
              rw [ho, hp] at this
              exact ⟨p.1, p.2, it, hp, hit, (hefp i p it hp hit).1, this⟩
            have o_of : ∀ (i : Nat) (it : IV), its[i]? = some it → ∃ o, l[i]? = some o := fun i it h => ⟨_, List.getElem?_eq_getElem (by rw [hF.len]; exact (List.getElem?_eq_some_iff.1 h).1)⟩
            have q_of : ∀ (s : Nat) (g : SG), sg[s]? = some g → ∃ q, pl.sp[s]? = some q ∧ g.e = q.1 ∧ (q.2.1 = 0 → hs[q.2.2]? = some (g.h, g.x)) := fun s g hg => by
              obtain ⟨q, hq⟩ : ∃ q, pl.sp[s]? = some q := ⟨_, List.getElem?_eq_getElem (by rw [← t2]; exact (List.getElem?_eq_some_iff.1 hg).1)⟩
              exact ⟨q, hq, t3 s q g hq hg⟩
            have g_of : ∀ (s : Nat) (q : List Nat × Nat × Nat), pl.sp[s]? = some q → ∃ g, sg[s]? = some g ∧ g.e = q.1 ∧ (q.2.1 = 0 → hs[q.2.2]? = some (g.h, g.x)) := fun s q hq => by
              obtain ⟨g, hg⟩ : ∃ g, sg[s]? = some g := ⟨_, List.getElem?_eq_getElem (by rw [t2]; exact (List.getElem?_eq_some_iff.1 hq).1)⟩
              exact ⟨g, hg, t3 s q g hq hg⟩
            have up : ∀ (i : Nat) (o : Oper), l[i]? = some o → ∀ p ∈ edges o, p < i := fun i o ho p hp => by
              obtain ⟨k, ks, it, _, _, _, hc⟩ := one i o ho
              unfold chkX1 at hc
              simp only [Bool.and_eq_true] at hc
              have := List.all_eq_true.1 hc.1.1.1.1.1.1 p hp
              simpa using this
            have dist0 : ∀ (i j : Nat) (o o' : Oper) (d : Nat), j < i → l[i]? = some o → l[j]? = some o' → o.dst = some d → o'.dst = some d → False := fun i j o o' d hij ho ho' hd hd' => by
              obtain ⟨k, ks, it, _, _, _, hc⟩ := one i o ho
              unfold chkX1 at hc
              simp only [Bool.and_eq_true] at hc
              have h2 := hc.1.1.1.1.1.2
              rw [hd] at h2
              simp only [] at h2
              have hm : o' ∈ l.take i := List.mem_of_getElem? (i := j) (by rw [List.getElem?_take_of_lt hij]; exact ho')
              have := List.all_eq_true.1 h2 o' hm
              rw [dstIs_iff.2 hd'] at this
              cases this
            have dist : ∀ (i j : Nat) (o o' : Oper) (d : Nat), l[i]? = some o → l[j]? = some o' → o.dst = some d → o'.dst = some d → i = j := fun i j o o' d ho ho' hd hd' => by
              rcases Nat.lt_trichotomy i j with h1 | h1 | h1
              · exact (dist0 j i o' o d h1 ho' ho hd' hd).elim
              · exact h1
              · exact (dist0 i j o o' d h1 ho ho' hd hd').elim
            have hlen : sg.length = pl.sp.length := t2
            have hrank : ∀ i, i ≤ its.length → ∃ p, hs[rankV its i]? = some p := fun i hi => ⟨_, List.getElem?_eq_getElem (by rw [hF.hlen]; have := rankV_mono its hi; omega)⟩
            have hb : ∀ (i : Nat) (it : IV), its[i]? = some it → it.ef = true → ∃ p q, hs[rankV its i]? = some p ∧ hs[rankV its i + 1]? = some q ∧ b0of its hs i = p.2 ∧ b1of its hs i = q.2 ∧ p.2 ≤ q.2 := fun i it hit hef => by
              have hil : i < its.length := (List.getElem?_eq_some_iff.1 hit).1
              obtain ⟨p, hp⟩ := hrank i (by omega)
              have hlt := rankV_lt (j := its.length) hil hit hef
              obtain ⟨q, hq⟩ : ∃ q, hs[rankV its i + 1]? = some q := ⟨_, List.getElem?_eq_getElem (by rw [hF.hlen]; omega)⟩
              exact ⟨p, q, hp, hq, by unfold b0of; rw [hp], by unfold b1of; rw [hq], monoX_ok hs hmono _ _ p q (by omega) hp hq⟩
            have hplan : PlanX l (toIX its hs) sg pl.m (dnF pl.dn) (dnF pl.un) := by
              refine ⟨by unfold toIX; rw [List.length_mapIdx]; exact hF.len, up, dist, fun i s ix g hix hef hg => ?_, fun i s o ix ho hix hef hs' hall => ?_, fun i s ix hix hef hs' hall => ?_, fun i j ix jx hix hjx hef hjf hne => ?_, fun s g hg hall => ?_, fun i o j b ho hgd => ?_⟩
              · obtain ⟨it, hit, rfl⟩ := toIX_some hix
                obtain ⟨o, ho⟩ := o_of i it hit
                obtain ⟨k, ks, it', hp, hit', hk, hc⟩ := one i o ho
                rw [hit] at hit'
                obtain rfl := Option.some.inj hit'
                unfold chkX1 at hc
                simp only [Bool.and_eq_true] at hc
                have h3 := hc.1.1.1.1.2
                rw [if_pos (by rw [← hk]; exact hef)] at h3
                obtain ⟨q, hq, hqe, _⟩ := q_of s g hg
                have := List.all_eq_true.1 h3 s (List.mem_range.2 (List.getElem?_eq_some_iff.1 hq).1)
                rw [hq] at this
                simp only [Bool.and_eq_true, Bool.or_eq_true, Bool.not_eq_true'] at this
                rw [hqe]
                exact ⟨fun hmem => this.1.resolve_left (by simp [hmem]), fun hmem => this.2.resolve_left (by simp [hmem])⟩
              · obtain ⟨it, hit, rfl⟩ := toIX_some hix
                obtain ⟨k, ks, it', hp, hit', hk, hc⟩ := one i o ho
                rw [hit] at hit'
                obtain rfl := Option.some.inj hit'
                unfold chkX1 at hc
                simp only [Bool.and_eq_true] at hc
                have h3 := hc.1.1.1.1.2
                have hef : it.ef = false := hef
                rw [if_neg (by rw [← hk, hef]; simp)] at h3
                have := List.all_eq_true.1 h3 s (List.mem_range.2 (by rw [← hlen]; exact hs'))
                simp only [Bool.and_eq_true, Bool.or_eq_true, Bool.not_eq_true'] at this
                refine this.1.resolve_left fun e => ?_
                have e2 : ((edges o).all fun p => dnF pl.dn p s) = true := List.all_eq_true.2 hall
                rw [e2] at e
                cases e
              · obtain ⟨it, hit, rfl⟩ := toIX_some hix
                obtain ⟨o, ho⟩ := o_of i it hit
                obtain ⟨k, ks, it', hp, hit', hk, hc⟩ := one i o ho
                rw [hit] at hit'
                obtain rfl := Option.some.inj hit'
                unfold chkX1 at hc
                simp only [Bool.and_eq_true] at hc
                have h3 := hc.1.1.1.1.2
                have hef : it.ef = false := hef
                rw [if_neg (by rw [← hk, hef]; simp)] at h3
                have := List.all_eq_true.1 h3 s (List.mem_range.2 (by rw [← hlen]; exact hs'))
                simp only [Bool.and_eq_true, Bool.or_eq_true, Bool.not_eq_true'] at this
                refine this.2.resolve_left fun e => ?_
                rw [← Bool.not_eq_true, List.all_eq_true] at e
                refine e fun j hj => ?_
                cases hj' : l[j]? with
                | none => rfl
                | some o' =>
                  simp only [Bool.or_eq_true, Bool.not_eq_true']
                  by_cases hmem : i ∈ edges o'
                  · exact .inr (hall j o' hj' hmem)
                  · exact .inl (by simpa using hmem)
              · obtain ⟨it, hit, rfl⟩ := toIX_some hix
                obtain ⟨jt, hjt, rfl⟩ := toIX_some hjx
                obtain ⟨p, q, p1, p2, p3, p4, p5⟩ := hb i it hit hef
                obtain ⟨p', q', r1, r2, r3, r4, r5⟩ := hb j jt hjt hjf
                show b1of its hs i ≤ b0of its hs j ∨ b1of its hs j ≤ b0of its hs i
                rcases Nat.lt_or_ge i j with hij | hij
                · have := rankV_lt hij hit hef
                  rw [p4, r3]
                  exact .inl (monoX_ok hs hmono _ _ q p' this p2 r1)
                · have := rankV_lt (show j < i by omega) hjt hjf
                  rw [r4, p3]
                  exact .inr (monoX_ok hs hmono _ _ q' p this r2 p1)
              · obtain ⟨q, hq, hqe, _⟩ := q_of s g hg
                have := List.all_eq_true.1 cC s (List.mem_range.2 (List.getElem?_eq_some_iff.1 hq).1)
                rw [hq] at this
                simp only [Bool.or_eq_true] at this
                rcases this with h1 | h1
                · exact Nat.eq_of_beq_eq_true h1
                · rw [List.any_eq_true] at h1
                  obtain ⟨i, hi, h2⟩ := h1
                  simp only [Bool.and_eq_true, Bool.not_eq_true'] at h2
                  have hil : i < its.length := by rw [← hF.plen]; exact List.mem_range.1 hi
                  obtain ⟨it, hit⟩ : ∃ it, its[i]? = some it := ⟨_, List.getElem?_eq_getElem hil⟩
                  obtain ⟨p, hp⟩ : ∃ p, pl.its[i]? = some p := ⟨_, List.getElem?_eq_getElem (by rw [hF.plen]; exact hil)⟩
                  have hef : it.ef = true := by
                    rw [(hefp i p it hp hit).1]
                    have := h2.1
                    unfold isEf at this
                    rw [hp] at this
                    exact this
                  have := hall i _ (by rw [toIX_get, hit]; rfl) hef
                  rw [hqe] at this
                  rw [List.contains_iff_mem.2 this] at h2
                  cases h2.2
              · obtain ⟨k, ks, it, _, _, _, hc⟩ := one i o ho
                unfold chkX1 at hc
                simp only [Bool.and_eq_true] at hc
                have h6 := hc.1.1.2
                rw [hgd] at h6
                simp only [Bool.and_eq_true] at h6
                refine ⟨by simpa using h6.1, ?_⟩
                cases ho' : l[j]? with
                | none => rw [ho'] at h6; cases h6.2
                | some o' =>
                  rw [ho'] at h6
                  obtain ⟨d, hd⟩ := Option.isSome_iff_exists.1 h6.2
                  exact ⟨o', d, rfl, hd⟩
            have hsees : SeesX l (toIX its hs) st.tm := by
              intro i o ix x ho hix
              obtain ⟨it, hit, rfl⟩ := toIX_some hix
              obtain ⟨k, ks, it', hp, hit', hk, hc⟩ := one i o ho
              rw [hit] at hit'
              obtain rfl := Option.some.inj hit'
              rcases hF.sees i (k, ks) it x hp hit with e | ⟨e1, e2, e3⟩
              · exact .inl e
              · refine .inr ?_
                unfold chkX1 at hc
                simp only [Bool.and_eq_true] at hc
                have := List.all_eq_true.1 hc.1.1.1.2 x e1
                rw [Bool.or_eq_true] at this
                rcases this with h5 | h5
                · rw [List.any_eq_true] at h5
                  obtain ⟨p, hp1, h5⟩ := h5
                  cases ho' : l[p]? with
                  | none => rw [ho'] at h5; cases h5
                  | some o' =>
                    rw [ho'] at h5
                    have hd := dstIs_iff.1 h5
                    obtain ⟨_, _, jt, _, hjt, _, _⟩ := one p o' ho'
                    have hpi := up i o ho p hp1
                    refine .inl ⟨p, hp1, o', _, ho', by rw [toIX_get, hjt]; rfl, hd, ?_⟩
                    exact e2 p o' jt hpi ho' hjt hd (fun k' o'' hk1 hk2 ho'' hd'' => by have := dist p k' o' o'' x ho' ho'' hd hd''; omega)
                · rw [List.all_eq_true] at h5
                  have key : ∀ (j : Nat) (o' : Oper), l[j]? = some o' → o'.dst = some x → i ∈ edges o' := fun j o' hj hd => by
                    have := h5 o' (List.mem_of_getElem? hj)
                    rw [dstIs_iff.2 hd] at this
                    simpa using this
                  exact .inr ⟨e3 fun j o' hj ho' hd => by have := up j o' ho' i (key j o' ho' hd); omega, key⟩
            have hE : ∀ x, tget st1.tm x = entX l (toIX its hs) st.tm x := fun x => by
              obtain ⟨e1, e2⟩ := entX_spec l (toIX its hs) st.tm x hplan.len dist
              by_cases hx : ∃ (i : Nat) (o : Oper), l[i]? = some o ∧ o.dst = some x
              · obtain ⟨i, o, ho, hx⟩ := hx
                obtain ⟨_, _, it, _, hit, _, _⟩ := one i o ho
                rw [e1 i o _ ho (by rw [toIX_get, hit]; rfl) hx]
                exact hF.val i o it x ho hit hx (fun j o' hij hj hd => by have := dist i j o o' x ho hj hx hd; omega)
              · rw [e2 (fun i o ho hx' => hx ⟨i, o, ho, hx'⟩)]
                exact hF.old x (fun i o ho hx' => hx ⟨i, o, ho, hx'⟩)
            -- the text's own stages
            have htp : ∀ (k s : Nat), pl.tp[k]? = some s → ∃ g, sg[s]? = some g ∧ hs[k]? = some (g.h, g.x) := fun k s hk => by
              have := List.all_eq_true.1 cE k (List.mem_range.2 (List.getElem?_eq_some_iff.1 hk).1)
              rw [hk] at this
              simp only [] at this
              split at this
              · rename_i e k' hq
                have e1 := Nat.eq_of_beq_eq_true this
                subst e1
                obtain ⟨g, hg, _, h2⟩ := g_of s _ hq
                exact ⟨g, hg, h2 rfl⟩
              · cases this
            have hm1 : pl.tp[rankV its its.length]? = some pl.m := by
              have := cG
              rw [← hF.plen, ← hrk]
              split at this
              · rename_i s hs'; rw [hs', Nat.eq_of_beq_eq_true this]
              · cases this
            obtain ⟨gm, hgm1, hgm2⟩ := htp _ _ hm1
            have hgl := hF.last
            rw [hgm2] at hgl
            obtain ⟨e1, e2⟩ := Prod.mk.inj (Option.some.inj hgl)
            have h00 : sg[0]? = some ⟨[], st.h, st.nx⟩ := by
              have := cF
              split at this
              · rename_i htp0 hsp0
                obtain ⟨g, hg, hge, hg2⟩ := g_of 0 _ hsp0
                have := hg2 rfl
                rw [hF.zero] at this
                obtain ⟨k1, k2⟩ := Prod.mk.inj (Option.some.inj this)
                rw [hg]
                obtain ⟨ge, gh, gx⟩ := g
                simp only at hge k1 k2
                rw [hge, k1, k2]
              · cases this
            refine aw_drawX hm hplan hsees (fun o ho d hd => ?_) hE (fun i ix hix hef => ?_) (fun i s o ho hs' hall hun => ?_) h00 rfl hgm1 (by rw [e1, e2]; exact hQ)
            · have := List.all_eq_true.1 hdn o ho
              exact dstOK_ok this d hd
            · obtain ⟨it, hit, rfl⟩ := toIX_some hix
              obtain ⟨p, q, p1, p2, p3, p4, p5⟩ := hb i it hit hef
              show st.nx ≤ b0of its hs i ∧ b0of its hs i ≤ b1of its hs i
              rw [p3, p4]
              exact ⟨monoX_ok hs hmono _ _ _ p (Nat.zero_le _) hF.zero p1, p5⟩
            · intro o' ix g ho' hix hg
              rw [ho] at ho'
              obtain rfl := Option.some.inj ho'
              obtain ⟨it, hit, rfl⟩ := toIX_some hix
              obtain ⟨k, ks, it', hp, hit', hk, hc⟩ := one i o ho
              rw [hit] at hit'
              obtain rfl := Option.some.inj hit'
              unfold chkX1 at hc
              simp only [Bool.and_eq_true] at hc
              have hcov := List.all_eq_true.1 hc.1.2 s (List.mem_range.2 (by rw [← hlen]; exact hs'))
              have hnext := hc.2
              have hK := hF.known i o it ho hit
              obtain ⟨r, hG, hrT, hrF⟩ := hK
              have hall' : ((edges o).all fun p => dnF pl.dn p s) = true := List.all_eq_true.2 hall
              rw [hall', hun] at hcov
              simp only [Bool.not_true, Bool.false_or, Bool.or_eq_true] at hcov
              -- the text's own place
              have own : (∃ s', pl.tp[rankV its i]? = some s' ∧ s = s') → (r = true → RunX P o.op i ⟨it.v, it.ef, b0of its hs i, b1of its hs i, it.tm⟩ it.tm sg g) ∧
                  (r = false → it.ef = true → ∃ (s' : Nat) (g' : SG), sg[s']? = some g' ∧ (∀ j, j ∈ g'.e ↔ j ∈ g.e ∨ j = i) ∧ g'.h = g.h ∧ g.x ≤ g'.x) := by
                rintro ⟨s', hs1, rfl⟩
                obtain ⟨g1, hg1, hg2⟩ := htp _ _ hs1
                rw [hg] at hg1
                obtain rfl := Option.some.inj hg1
                have nxt : it.ef = true → ∃ (s' : Nat) (g' : SG), sg[s']? = some g' ∧ (∀ j, j ∈ g'.e ↔ j ∈ g.e ∨ j = i) ∧ hs[rankV its i + 1]? = some (g'.h, g'.x) := fun hef => by
                  rw [← hk, hef] at hnext
                  simp only [Bool.not_true, Bool.false_or] at hnext
                  rw [hrk, hs1] at hnext
                  split at hnext
                  · rename_i a b ha hb'
                    obtain rfl := Option.some.inj ha
                    split at hnext
                    · rename_i q q' hq hq'
                      obtain ⟨g', hg', _⟩ := htp _ _ hb'
                      obtain ⟨_, h2⟩ := htp _ _ hb'
                      obtain ⟨g3, hg3, hge3, _⟩ := g_of b q' hq'
                      obtain ⟨g4, hg4, hge4, _⟩ := g_of s q hq
                      rw [hg] at hg4
                      obtain rfl := Option.some.inj hg4
                      obtain ⟨g5, hg5, hg6⟩ := htp _ _ hb'
                      rw [hg3] at hg5
                      obtain rfl := Option.some.inj hg5
                      refine ⟨b, g3, hg3, fun j => ?_, hg6⟩
                      rw [hge3, hge4, sameS_ok hnext j, List.mem_cons]
                      exact ⟨fun h => h.elim .inr .inl, fun h => h.elim .inr .inl⟩
                    · cases hnext
                  · cases hnext
                refine ⟨fun hr => ?_, fun hr hef => ?_⟩
                · obtain ⟨⟨H, X, k1, k2⟩, _⟩ := hrT hr
                  rw [hg2] at k1
                  obtain ⟨rfl, rfl⟩ := Prod.mk.inj (Option.some.inj k1)
                  unfold RunX
                  show (if it.ef = true then _ else _)
                  cases hef : it.ef with
                  | true =>
                    rw [hef] at k2
                    simp only [if_true] at k2 ⊢
                    obtain ⟨H', X', k3, k4⟩ := k2
                    obtain ⟨s', g', n1, n2, n3⟩ := nxt hef
                    rw [n3] at k3
                    obtain ⟨rfl, rfl⟩ := Prod.mk.inj (Option.some.inj k3)
                    refine ⟨s', g', n1, n2, .inl ?_⟩
                    have b0e : b0of its hs i = g.x := by unfold b0of; rw [hg2]
                    have b1e : b1of its hs i = g'.x := by unfold b1of; rw [n3]
                    exact ⟨Nat.le_of_eq b0e.symm, b1e.symm, by show OpOK P o.op ⟨it.tm, g.h, b0of its hs i⟩ it.v g'.h g'.x; rw [b0e]; exact k4⟩
                  | false =>
                    rw [hef] at k2
                    simp only [Bool.false_eq_true, if_false] at k2 ⊢
                    exact k2
                · obtain ⟨_, k5⟩ := hrF hr
                  obtain ⟨H, X, k1, k2⟩ := k5 hef
                  rw [hg2] at k1
                  obtain ⟨rfl, rfl⟩ := Prod.mk.inj (Option.some.inj k1)
                  obtain ⟨s', g', n1, n2, n3⟩ := nxt hef
                  rw [n3] at k2
                  obtain ⟨e5, e6⟩ := Prod.mk.inj (Option.some.inj k2)
                  exact ⟨s', g', n1, n2, e5, Nat.le_of_eq e6.symm⟩
              -- another place
              have oth : (∃ q ∈ pl.ex, q.1 = i ∧ q.2.1 = s) → match o.guard with
                  | none => RunX P o.op i ⟨it.v, it.ef, b0of its hs i, b1of its hs i, it.tm⟩ it.tm sg g
                  | some (j, b) => ∃ r w, its[j]? = some r ∧ gv r.v = some w ∧ (w = some b → RunX P o.op i ⟨it.v, it.ef, b0of its hs i, b1of its hs i, it.tm⟩ it.tm sg g) ∧
                    (w ≠ some b → it.ef = true → ∃ (s' : Nat) (g' : SG), sg[s']? = some g' ∧ (∀ j, j ∈ g'.e ↔ j ∈ g.e ∨ j = i) ∧ g'.h = g.h ∧ g.x ≤ g'.x) := by
                rintro ⟨⟨qi, qs, qt⟩, hq, rfl, rfl⟩
                have h1 := exOK_ok hcf (List.all_eq_true.1 hex _ hq) ho hit hg
                have hmem : it.ef = true → ∀ g', sg[qt]? = some g' → ∀ j, j ∈ g'.e ↔ j ∈ g.e ∨ j = qi := fun hef g' hg' j => by
                  have := List.all_eq_true.1 cD _ hq
                  simp only [] at this
                  split at this
                  · rename_i r1 r2 hr1 hr2
                    have hie : isEf pl qi = true := by
                      unfold isEf
                      rw [hp]
                      show Nat.ble 2 k = true
                      rw [← hk]; exact hef
                    rw [hie] at this
                    simp only [Bool.not_true, Bool.false_or] at this
                    obtain ⟨g3, hg3, hge3, _⟩ := g_of qt r2 hr2
                    obtain ⟨g4, hg4, hge4, _⟩ := g_of qs r1 hr1
                    rw [hg] at hg4
                    obtain rfl := Option.some.inj hg4
                    rw [hg'] at hg3
                    obtain rfl := Option.some.inj hg3
                    rw [hge3, hge4, sameS_ok this j, List.mem_cons]
                    exact ⟨fun h => h.elim .inr .inl, fun h => h.elim .inr .inl⟩
                  · cases this
                have conv : ExX P its hs sg qi qt o it g → RunX P o.op qi ⟨it.v, it.ef, b0of its hs qi, b1of its hs qi, it.tm⟩ it.tm sg g := fun hx => by
                  unfold ExX at hx
                  unfold RunX
                  show (if it.ef = true then _ else _)
                  cases hef : it.ef with
                  | true =>
                    rw [hef] at hx
                    simp only [if_true] at hx ⊢
                    obtain ⟨g', hg', hx⟩ := hx
                    exact ⟨qt, g', hg', hmem hef g' hg', hx⟩
                  | false =>
                    rw [hef] at hx
                    simp only [Bool.false_eq_true, if_false] at hx ⊢
                    exact hx
                split at h1
                · exact conv h1
                · obtain ⟨r1, w, k1, k2, k3, k4⟩ := h1
                  exact ⟨r1, w, k1, k2, fun e => conv (k3 e), fun e hef => by
                    obtain ⟨g', n1, n2, n3⟩ := k4 e hef
                    exact ⟨qt, g', n1, hmem hef g' n1, n2, n3⟩⟩
              have free : k = 0 → r = true → RunX P o.op i ⟨it.v, it.ef, b0of its hs i, b1of its hs i, it.tm⟩ it.tm sg g := fun hk0 hr => by
                obtain ⟨_, k2⟩ := hrT hr
                obtain ⟨k3, k4⟩ := k2 ((hefp i (k, ks) it hp hit).2 hk0)
                unfold RunX
                show (if it.ef = true then _ else _)
                rw [k3]
                simp only [Bool.false_eq_true, if_false]
                exact k4 _
              have sk0 : k = 0 → it.ef = true → False := fun hk0 hef => by rw [hk, hk0] at hef; cases hef
              cases hgd : o.guard with
              | none =>
                rw [hgd] at hG
                have hG : r = true := hG
                simp only []
                rcases hcov with (h1 | h1) | h1
                · exact free (Nat.eq_of_beq_eq_true h1) hG
                · refine (own ?_).1 hG
                  rw [hrk] at h1
                  split at h1
                  · rename_i s' hs1; exact ⟨s', hs1, Nat.eq_of_beq_eq_true h1⟩
                  · cases h1
                · rw [List.any_eq_true] at h1
                  obtain ⟨q, hq, h1⟩ := h1
                  simp only [Bool.and_eq_true] at h1
                  have := oth ⟨q, hq, Nat.eq_of_beq_eq_true h1.1, Nat.eq_of_beq_eq_true h1.2⟩
                  rw [hgd] at this
                  exact this
              | some jb =>
                obtain ⟨j, b⟩ := jb
                rw [hgd] at hG
                obtain ⟨qv, w, hqv, hw, hrw⟩ := hG
                have hqx : ∃ q, (toIX its hs)[j]? = some q ∧ gv q.v = some w := ⟨_, by rw [toIX_get, hqv]; rfl, hw⟩
                have hvn : w ≠ some b → it.v = .tup [] := fun e => (hrF (by rw [hrw]; simpa using e)).1
                simp only []
                rcases hcov with (h1 | h1) | h1
                · have hk0 := Nat.eq_of_beq_eq_true h1
                  exact ⟨w, hqx, fun e => free hk0 (by rw [hrw, e]; simp), fun e => ⟨hvn e, fun hef => (sk0 hk0 hef).elim⟩⟩
                · rw [hrk] at h1
                  split at h1
                  · rename_i s' hs1
                    obtain ⟨k1, k2⟩ := own ⟨s', hs1, Nat.eq_of_beq_eq_true h1⟩
                    exact ⟨w, hqx, fun e => k1 (by rw [hrw, e]; simp), fun e => ⟨hvn e, k2 (by rw [hrw]; simpa using e)⟩⟩
                  · cases h1
                · rw [List.any_eq_true] at h1
                  obtain ⟨q, hq, h1⟩ := h1
                  simp only [Bool.and_eq_true] at h1
                  have := oth ⟨q, hq, Nat.eq_of_beq_eq_true h1.1, Nat.eq_of_beq_eq_true h1.2⟩
                  rw [hgd] at this
                  obtain ⟨r1, w1, k1, k2, k3, k4⟩ := this
                  rw [hqv] at k1
                  obtain rfl := Option.some.inj k1
                  rw [hw] at k2
                  obtain rfl := Option.some.inj k2
                  exact ⟨w, hqx, k3, fun e => ⟨hvn e, k4 e⟩⟩
          · cases h
        · cases h
      · cases h
    · cases h
  · cases h

theorem loopN_ok {self : Self} (hs : RunOK P self) {n f : Nat} {x : Code} {ks : List Nat} {m : Nat} : ∀ (k : Nat) (st : St) (e : Exit) (st' : St), loopN (fun st => self n f x st) ks m k st = some (e, st') → ∀ c Q, Q e st' → LW P c n x Q st := by
  intro k
  induction k with
  | zero => intro st e st' h; simp only [loopN, reduceCtorEq] at h
  | succ k ih =>
    intro st e st' h c Q hQ
    simp only [loopN] at h
    split at h
    · rename_i st1 h1
      split at h
      · rename_i tm1 htm
        rw [forceL_eq] at h
        have hrest := ih _ _ _ h c Q hQ
        refine lw_round (hs _ _ _ _ _ _ h1 _ _ ?_)
        show LW P c n x Q st1
        intro ρ S a w hr
        exact hrest ρ S a w (hr.drop (selF_ok _ _ htm) (gcH_get _ _ _))
      · cases h
    · rename_i hne
      refine lw_round (hs _ _ _ _ _ _ h _ _ ?_)
      cases e with
      | normal => exact (hne st' h).elim
      | exit id => exact hQ
      | goto l => exact hQ
      | ret => exact hQ
      | panic ch => exact hQ
      | outgrown => exact hQ

theorem runStep_ok {T : Cfg} (hw : ∀ cf, CFok P cf → CFok P (T.wrap cf)) (hm : P.follows .mixedOrders = true) {self : Self} (hs : RunOK P self) : RunOK P (runStep P T self) := by
  intro n f code st e st' h c Q hQ
  unfold runStep at h
  split at h
  · simp only [Option.some.injEq, Prod.mk.injEq] at h; obtain ⟨rfl, rfl⟩ := h; exact aw_skip hQ
  · simp only [Option.some.injEq, Prod.mk.injEq] at h; obtain ⟨rfl, rfl⟩ := h; exact aw_exit hQ
  · simp only [Option.some.injEq, Prod.mk.injEq] at h; obtain ⟨rfl, rfl⟩ := h; exact aw_ret hQ
  · rename_i x y
    split at h
    · rename_i st1 h1
      exact aw_seq (hs _ _ _ _ _ _ h1 _ _ (hs _ _ _ _ _ _ h _ _ hQ))
    · rename_i hne
      refine aw_seq (hs _ _ _ _ _ _ h _ _ ?_)
      cases e with
      | normal => exact (hne st' h).elim
      | exit id => exact hQ
      | goto l => exact hQ
      | ret => exact hQ
      | panic ch => exact hQ
      | outgrown => exact hQ
  · rename_i id x
    split at h
    · rename_i id' st1 h1
      refine aw_block (hs _ _ _ _ _ _ h1 _ _ ?_)
      show (if id' = id then Q .normal st1 else Q (.exit id') st1)
      split at h
      · rename_i he
        rw [if_pos (Nat.eq_of_beq_eq_true he)]
        simp only [Option.some.injEq, Prod.mk.injEq] at h; obtain ⟨rfl, rfl⟩ := h; exact hQ
      · rename_i he
        rw [if_neg (fun e => he (by rw [e]; exact Nat.beq_refl _))]
        simp only [Option.some.injEq, Prod.mk.injEq] at h; obtain ⟨rfl, rfl⟩ := h; exact hQ
    · rename_i hne
      refine aw_block (hs _ _ _ _ _ _ h _ _ ?_)
      cases e with
      | exit id' => exact (hne id' st' h).elim
      | normal => exact hQ
      | goto l => exact hQ
      | ret => exact hQ
      | panic ch => exact hQ
      | outgrown => exact hQ
  · split at h
    · rename_i ho; exact aw_yes (oeO ho) (hs _ _ _ _ _ _ h _ _ hQ)
    · rename_i ho; exact aw_no (oeO ho) (hs _ _ _ _ _ _ h _ _ hQ)
    · cases h
  · exact lw_loop (loopN_ok hs _ _ _ _ h _ _ hQ)
  · rename_i id ops
    split at h
    · rename_i pl hpl
      split at h
      · rename_i st1 h1
        simp only [Option.some.injEq, Prod.mk.injEq] at h
        obtain ⟨rfl, rfl⟩ := h
        have := drawn_ok (hw _ (callFn_ok hs)) hm (c := c) (id := id) h1 hQ
        simpa using this
      · cases h
    · cases h
  · rename_i id ops
    split at h
    · rename_i st1 h1
      simp only [Option.some.injEq, Prod.mk.injEq] at h
      obtain ⟨rfl, rfl⟩ := h
      have := aw_region (id := id) (runOps_ok (hw _ (callFn_ok hs)) (c := c) _ _ _ h1 hQ)
      simpa using this
    · cases h
  · cases h

theorem run_ok {T : Cfg} (hw : ∀ cf, CFok P cf → CFok P (T.wrap cf)) (hm : P.follows .mixedOrders = true) (n : Nat) : RunOK P (run P T n) := by
  induction n with
  | zero => intro n f code st e st' h; cases h
  | succ n ih => exact runStep_ok hw hm ih

/-- What a run comes to is what a call comes to. -/
theorem runF_ok {T : Cfg} (hw : ∀ cf, CFok P cf → CFok P (T.wrap cf)) (hm : P.follows .mixedOrders = true) (n : Nat) : CFok P (runF P T n) := hw _ (callFn_ok (run_ok hw hm n))

/-- What is known of a call out of what an operation does. -/
theorem AC.of_op {f : FuncId} {fn : Func} (hf : P.funcs[f]? = some fn) (hn : (fn.name == "runtime.NumGoroutine") = false ∧ fn.body.isNone = false) {args : List AV} {h : Heap} {nx : Nat} {r : AV} {h' : Heap} {nx' : Nat} (hdom : h.all (fun p => p.1 < nx) = true) (hle : nx ≤ nx')
    (hop : OpOK P (.call { callee := .value (.func f), args := ((List.range args.length).map fun i => Operand.tmp i).toArray, argTypes := #[] }) ⟨argTm args, h, nx⟩ r h' nx') (al : Bool) (hal : al = true ∨ (r.nosl = true ∧ h'.all (fun p => p.2.nosl) = true)) :
    AC P f args h nx al (fun a b c => a = r ∧ b = h' ∧ c = nx') := by
  intro ρ S w vals hsim hfresh hargs
  have hrep : Rep ⟨w, Own ρ h, S, ρ, nx⟩ vals.size ⟨argTm args, h, nx⟩ ρ S { tmps := vals, defers := [] } w := by
    have hsz := hargs.1
    refine ⟨rfl, rfl, fun i => ?_, hsim, ⟨rfl, rfl, rfl, Nat.le_refl _, fun _ _ _ => rfl, fun _ h => h, fun _ h => .inl h, fun b B r h1 h2 => .inl ⟨b, B, r, h1, h2, rfl⟩, fun _ _ => rfl⟩, hfresh, Nat.le_refl _, fun b B hb => by simpa using hall_get hdom hb⟩
    rw [tget_argTm, if_pos (Nat.zero_le _), Nat.sub_zero]
    by_cases hi : i < args.length
    · have h1 : args[i]? = some args[i] := List.getElem?_eq_getElem hi
      have h2 : i < vals.size := by omega
      rw [h1]
      have h3 : vals.getD i undef = vals[i] := by simp [Array.getD_eq_getD_getElem?, h2]
      rw [h3]
      exact hargs.2 i _ _ h1 (by simp [h2])
    · rw [List.getElem?_eq_none (by omega)]
      exact .top
  have hd := hop _ _ ρ S _ w hrep ⟨none, _, 0, "", #[], none⟩ rfl
  unfold Does at hd
  have hv : (((List.range args.length).map fun i => Operand.tmp i).toArray.map (Act.eval { tmps := vals, defers := [] })) = vals := by
    refine Array.ext_getElem? fun i => ?_
    have hsz := hargs.1
    by_cases hi : i < args.length
    · have h2 : i < vals.size := by omega
      simp [hi, h2, Act.eval, Array.getD_eq_getD_getElem?]
    · have h2 : ¬ i < vals.size := by omega
      simp [hi, h2]
  have hrun : (execOp (Act.eval { tmps := vals, defers := [] }) ⟨none, .call { callee := .value (.func f), args := ((List.range args.length).map fun i => Operand.tmp i).toArray, argTypes := #[] }, 0, "", #[], none⟩).run P w = .ok (.enter f vals) w := by
    unfold execOp
    have he : Act.eval { tmps := vals, defers := [] } (.func f) = .func (.func f) #[] #[] := rfl
    simp only [resolve, he, Deferred.ofValue, Sem.run_bind, Sem.run_pure, Result.andThen_ok, invoke, hv]
    have := AC.calls (P := P) hf hn (#[] ++ vals ++ #[]) w
    simpa using this
  rw [hrun] at hd
  simp only [] at hd
  refine Calls.mono hd ?_
  rintro e w' ⟨v, rfl, ρ', S', hr, hvr, hext, hS⟩
  have hp := hr.post
  have hown : ∀ b, Own ρ' h' b → Own ρ h b ∨ w.heap.size ≤ b := by
    rintro b ⟨i, B, r, h1, h2, rfl⟩
    exact hp.own i B r h1 h2
  rcases hal with hal | ⟨hn1, hn2⟩
  · exact ⟨v, r, h', nx', ρ', S', rfl, ⟨rfl, rfl, rfl⟩, hvr, hr.sim, hr.fresh, hr.dom, hp.os, hp.tape, hp.output, hp.size, hp.keep, hown, fun b hb => (hp.sNew b hb).imp (fun h => ⟨hal, h⟩) id, hp.ids⟩
  · refine ⟨v, r, h', nx', ρ', fun b => S' b ∧ w.heap.size ≤ b, rfl, ⟨rfl, rfl, rfl⟩, hvr.nosl hn1, ⟨fun b B hb => ?_, hr.sim.inj, fun b hb => hr.sim.lt b hb.1⟩, hr.fresh, hr.dom, hp.os, hp.tape, hp.output, hp.size, hp.keep, hown, fun b hb => .inr hb.2, hp.ids⟩
    rcases hr.sim.blk b B hb with ⟨q, h1, h2, h3, h4⟩ | hv
    · exact .inl ⟨q, h1, h2.nosl (hall_get hn2 hb), fun hs => h3 hs.1, h4⟩
    · exact .inr hv

theorem lendCF_ok {pu : Nat → Bool} {cf : CF} (hcf : CFok P cf) : CFok P (lendCF pu cf) := by
  intro f args h nx r h' nx' he
  unfold lendCF at he
  split at he
  · exact hcf _ _ _ _ _ _ _ he
  · rename_i p t
    split at he
    · split at he
      · rename_i u largs hl
        split at he
        · rename_i r0 h0 n0 hr
          split at he
          · rename_i hc
            rw [forceL_eq] at he
            simp only [Bool.and_eq_true] at hc
            obtain ⟨hns, hdm⟩ := hc
            simp only [Option.some.injEq, Prod.mk.injEq] at he
            obtain ⟨rfl, rfl, rfl⟩ := he
            obtain ⟨⟨fn, q1, q2, q3⟩, q4⟩ := hcf _ _ _ _ _ _ _ hr
            refine ⟨⟨fn, q1, q2, q3⟩, fun al hal => ?_⟩
            have hdom : (p :: t).all (fun p => p.1 < nx) = true := by
              rw [List.all_eq_true]
              intro x hx
              have := List.all_eq_true.1 hdm x hx
              simpa using this
            have eτ : swp [] 0 nx = fun b => b + nx := by
              funext b
              simp only [swp]
              rw [if_neg (by omega)]
            refine AC.of_op q1 ⟨q2, q3⟩ hdom (by omega) ?_ al hal
            have key := op_callg (P := P) (tm := argTm args) (h := p :: t) (nx := nx) (fo := .func f) (xs := ((List.range args.length).map fun i => Operand.tmp i).toArray) (ts := #[]) (first := []) (caps := []) [] 0 false [] [] (args := args) (largs := largs)
              (q4 false (.inr hns)) q1 ⟨q2, q3⟩ rfl ?_ rfl rfl (Nat.zero_le _) (fun p hp => by cases hp) rfl ?_ rfl rfl rfl
            · rw [eτ] at key
              intro c n ρ S a w hr o ho
              refine (key c n ρ S a w hr o ho).mono fun v w' ⟨ρ', S', k1, k2, k3, k4⟩ => ⟨ρ', S', ?_, k2, k3, k4⟩
              refine k1.drop (fun i => .inr rfl) (fun b B hb => ?_)
              rw [hget_append] at hb ⊢
              cases hx : hget (h0.map fun q => (q.1 + nx, q.2.ren fun b => b + nx)) b with
              | none =>
                rw [hx] at hb
                have hb : hget (p :: t) b = some B := by simpa using hb
                show (hget (p :: t) b).or _ = some B
                rw [hb]; rfl
              | some C =>
                rw [hx] at hb
                have hb : C = B := by simpa using hb
                subst hb
                obtain ⟨j, X, j1, j2, _⟩ := hget_map_ren h0 (fun b => b + nx) b C hx
                have hno : hget (p :: t) b = none := by
                  cases hy : hget (p :: t) b with
                  | none => rfl
                  | some D =>
                    have := hall_get hdom hy
                    simp only [decide_eq_true_eq] at this
                    omega
                show (hget (p :: t) b).or _ = some C
                rw [hno]; rfl
            · -- the arguments, in their slots
              have go : ∀ (l : List AV) (k : Nat) (pre : List AV), args = pre ++ l → pre.length = k → oevsS (argTm args) ((List.range' k l.length).map fun i => Operand.tmp i) = some l := by
                intro l
                induction l with
                | nil => intro k pre _ _; rfl
                | cons x l ih =>
                  intro k pre h1 h2
                  have hk : tgetS (argTm args) k = some x := by
                    have gen : ∀ (aa : List AV) (i j : Nat) (y : AV), aa[j]? = some y → tgetS (argTm aa i) (i + j) = some y := by
                      intro aa
                      induction aa with
                      | nil => intro i j y hy; simp at hy
                      | cons z aa ih2 =>
                        intro i j y hy
                        simp only [argTm, tgetS]
                        cases j with
                        | zero => simp only [List.getElem?_cons_zero, Option.some.injEq] at hy; subst hy; simp
                        | succ j =>
                          rw [if_neg (by omega), show i + (j + 1) = (i + 1) + j from by omega]
                          exact ih2 (i + 1) j y (by simpa using hy)
                    have := gen args 0 k x (by rw [h1, List.getElem?_append_right (by omega)]; simp [h2])
                    simpa using this
                  rw [List.length_cons, List.range'_succ, List.map_cons]
                  simp only [oevsS, oevS]
                  rw [hk, ih (k + 1) (pre ++ [x]) (by rw [h1]; simp) (by simp [h2])]
              have := go args 0 [] rfl rfl
              rw [← List.range_eq_range'] at this
              simpa using this
            · have := lends_ok _ _ _ _ hl (swp [] 0 nx)
              simpa using this
          · exact hcf _ _ _ _ _ _ _ he
        · exact hcf _ _ _ _ _ _ _ he
      · exact hcf _ _ _ _ _ _ _ he
    · exact hcf _ _ _ _ _ _ _ he

def enOK (e : EN) : Option (AV × Heap × Nat) → Bool
  | some (r, h, nx) => avEq r e.r && heapEq h e.h && Nat.beq nx e.nx
  | none => false

theorem enOK_ok {e : EN} {o : Option (AV × Heap × Nat)} (h : enOK e o = true) : o = some (e.r, e.h, e.nx) := by
  unfold enOK at h
  split at h
  · simp only [Bool.and_eq_true] at h
    rw [avEq_ok _ _ h.1.1, heapEq_ok _ _ h.1.2, Nat.eq_of_beq_eq_true h.2]
  · cases h

/-- Known calls. -/
inductive Tab (P : Program) (T : List EN → Cfg) : List EN → Prop
  | nil : Tab P T []
  | cons {e t} (n : Nat) (h : Tab P T t) (he : enOK e (runF P (T t) n e.f e.args [] 0) = true) : Tab P T (e :: t)

theorem tabCF_ok {tab : List EN} (ht : ∀ e ∈ tab, (∃ fn, P.funcs[e.f]? = some fn ∧ (fn.name == "runtime.NumGoroutine") = false ∧ fn.body.isNone = false) ∧
    ∀ al, (al = true ∨ (e.r.nosl = true ∧ e.h.all (fun p => p.2.nosl) = true)) → AC P e.f e.args [] 0 al (fun a b c => a = e.r ∧ b = e.h ∧ c = e.nx)) {cf : CF} (hcf : CFok P cf) : CFok P (tabCF tab cf) := by
  have find : ∀ (tab : List EN) f args r, tabF f args tab = some r → ∃ e ∈ tab, e.f = f ∧ e.args = args ∧ r = (e.r, e.h, e.nx) := by
    intro tab
    induction tab with
    | nil => intro f args r h; simp only [tabF, reduceCtorEq] at h
    | cons e t ih =>
      intro f args r h
      simp only [tabF] at h
      split at h
      · rename_i h1
        split at h
        · rename_i h2
          exact ⟨e, List.mem_cons_self, Nat.eq_of_beq_eq_true h1, avsEq_ok _ _ h2, (Option.some.inj h).symm⟩
        · obtain ⟨e', a, b⟩ := ih f args r h; exact ⟨e', List.mem_cons_of_mem _ a, b⟩
      · obtain ⟨e', a, b⟩ := ih f args r h; exact ⟨e', List.mem_cons_of_mem _ a, b⟩
  intro f args h nx r h' nx' he
  unfold tabCF at he
  split at he
  · split at he
    · rename_i q hq
      obtain rfl := Option.some.inj he
      obtain ⟨e, e1, rfl, rfl, e4⟩ := find _ _ _ _ hq
      simp only [Prod.mk.injEq] at e4
      obtain ⟨rfl, rfl, rfl⟩ := e4
      exact ht e e1
    · exact hcf _ _ _ _ _ _ _ he
  · exact hcf _ _ _ _ _ _ _ he

/-- The run with known calls, and whose arguments are lent. -/
def cfgT (pl : Nat → Nat → Option PL) (pu : Nat → Bool) (tab : List EN) : Cfg := ⟨pl, fun cf => lendCF pu (tabCF tab cf)⟩

theorem tab_ok (hm : P.follows .mixedOrders = true) {pl : Nat → Nat → Option PL} {pu : Nat → Bool} {tab : List EN} (h : Tab P (cfgT pl pu) tab) (n : Nat) : CFok P (runF P (cfgT pl pu tab) n) := by
  have main : ∀ e ∈ tab, (∃ fn, P.funcs[e.f]? = some fn ∧ (fn.name == "runtime.NumGoroutine") = false ∧ fn.body.isNone = false) ∧
    ∀ al, (al = true ∨ (e.r.nosl = true ∧ e.h.all (fun p => p.2.nosl) = true)) → AC P e.f e.args [] 0 al (fun a b c => a = e.r ∧ b = e.h ∧ c = e.nx) := by
    clear n
    induction h with
    | nil => intro e he; cases he
    | @cons e t n h he ih =>
      intro e' he'
      rcases List.mem_cons.1 he' with rfl | h1
      · exact runF_ok (T := cfgT pl pu t) (fun cf hcf => lendCF_ok (tabCF_ok ih hcf)) hm n _ _ _ _ _ _ _ (enOK_ok he)
      · exact ih e' h1
  exact runF_ok (T := cfgT pl pu tab) (fun cf hcf => lendCF_ok (tabCF_ok main hcf)) hm n

def okB : Option (AV × Heap × Nat) → Bool
  | some (.bool true, h, _) => h.all fun p => p.2.nosl
  | _ => false

/-- A closed call that comes to yes. -/
theorem ac_yes (hm : P.follows .mixedOrders = true) {pl : Nat → Nat → Option PL} {pu : Nat → Bool} {tab : List EN} (h : Tab P (cfgT pl pu) tab) (n : Nat) {f : FuncId} {args : List AV}
    (he : okB (runF P (cfgT pl pu tab) n f args [] 0) = true) : AC P f args [] 0 false (fun r h nx => r = .bool true) := by
  unfold okB at he
  split at he
  · rename_i h' nx' hr
    refine ((tab_ok hm h n _ _ _ _ _ _ _ hr).2 false (.inr ⟨rfl, he⟩)).mono ?_
    rintro _ _ _ ⟨rfl, _, _⟩; rfl
  · cases he

def find1 {α : Type} : List (Nat × α) → Nat → Option α
  | [], _ => none
  | (k, p) :: u, id => match Nat.beq id k with
    | true => some p
    | false => find1 u id

def look2 (l : List (Nat × List (Nat × PL))) (f id : Nat) : Option PL :=
  match find1 l f with
  | some r => find1 r id
  | none => none

end
end Go.Proofs.Ytloddmbbfkejcaa.Abs
end
section
/-
  slices.Sort of few whole numbers: by insertion.
-/
namespace Go.Proofs.Ytloddmbbfkejcaa.Abs

def ints (l : List Int) : List AV := l.map (AV.int .i64)
theorem ints_len (l : List Int) : (ints l).length = l.length := List.length_map _

/-- Two neighbours turned; one let down to its place; all so far. -/
def swapL (l : List Int) (j : Nat) : List Int := (l.set (j + 1) (l.getD j 0)).set j (l.getD (j + 1) 0)
def downL : List Int → Nat → List Int
  | l, 0 => l
  | l, j + 1 => if l.getD (j + 1) 0 < l.getD j 0 then downL (swapL l j) j else l
def sortL (l : List Int) : Nat → List Int
  | 0 => l
  | i + 1 => downL (sortL l i) (i + 1)

theorem swapL_len (l : List Int) (j : Nat) : (swapL l j).length = l.length := by simp [swapL]
theorem downL_len : ∀ (j : Nat) (l : List Int), (downL l j).length = l.length := by
  intro j
  induction j with
  | zero => intro l; rfl
  | succ j ih =>
    intro l
    simp only [downL]
    split
    · rw [ih, swapL_len]
    · rfl
theorem sortL_len (l : List Int) : ∀ i, (sortL l i).length = l.length := by
  intro i
  induction i with
  | zero => rfl
  | succ i ih => rw [sortL, downL_len, ih]

theorem swapL_get (l : List Int) (j : Nat) (hj : j + 1 < l.length) (k : Nat) : (swapL l j).getD k 0 = if k = j then l.getD (j + 1) 0 else if k = j + 1 then l.getD j 0 else l.getD k 0 := by
  unfold swapL
  simp only [List.getD_eq_getElem?_getD]
  by_cases h1 : k = j
  · subst h1
    rw [if_pos rfl, List.getElem?_set_self (by simp; omega)]; rfl
  · rw [if_neg h1, List.getElem?_set_ne (fun e => h1 e.symm)]
    by_cases h2 : k = j + 1
    · subst h2
      rw [if_pos rfl, List.getElem?_set_self (by omega)]; rfl
    · rw [if_neg h2, List.getElem?_set_ne (fun e => h2 e.symm)]

theorem swapL_mem (l : List Int) (j : Nat) (hj : j + 1 < l.length) (x : Int) : x ∈ swapL l j ↔ x ∈ l := by
  have key : ∀ (m : List Int) (y : Int), y ∈ m ↔ ∃ k, k < m.length ∧ m.getD k 0 = y := fun m y => by
    constructor
    · intro h
      obtain ⟨k, hk⟩ := List.getElem?_of_mem h
      have := (List.getElem?_eq_some_iff.1 hk).1
      exact ⟨k, this, by rw [List.getD_eq_getElem?_getD, hk]; rfl⟩
    · rintro ⟨k, hk, rfl⟩
      rw [List.getD_eq_getElem?_getD, List.getElem?_eq_getElem hk]
      exact List.getElem_mem hk
  rw [key, key]
  constructor
  · rintro ⟨k, hk, h⟩
    rw [swapL_len] at hk
    rw [swapL_get l j hj] at h
    split at h
    · exact ⟨j + 1, hj, h⟩
    · split at h
      · exact ⟨j, by omega, h⟩
      · exact ⟨k, hk, h⟩
  · rintro ⟨k, hk, h⟩
    by_cases h1 : k = j
    · subst h1
      exact ⟨k + 1, by rw [swapL_len]; exact hj, by rw [swapL_get l k hj, if_neg (by omega), if_pos rfl]; exact h⟩
    · by_cases h2 : k = j + 1
      · subst h2
        exact ⟨j, by rw [swapL_len]; omega, by rw [swapL_get l j hj, if_pos rfl]; exact h⟩
      · exact ⟨k, by rw [swapL_len]; exact hk, by rw [swapL_get l j hj, if_neg h1, if_neg h2]; exact h⟩

theorem downL_mem : ∀ (j : Nat) (l : List Int), j < l.length → ∀ x, x ∈ downL l j ↔ x ∈ l := by
  intro j
  induction j with
  | zero => intro l _ x; exact Iff.rfl
  | succ j ih =>
    intro l hj x
    simp only [downL]
    split
    · rw [ih _ (by rw [swapL_len]; omega), swapL_mem l j hj]
    · exact Iff.rfl

theorem sortL_mem (l : List Int) : ∀ i, i < l.length ∨ i = 0 → ∀ x, x ∈ sortL l i ↔ x ∈ l := by
  intro i
  induction i with
  | zero => intro _ x; exact Iff.rfl
  | succ i ih =>
    intro hi x
    rw [sortL, downL_mem _ _ (by rw [sortL_len]; omega), ih (by omega)]

/-- What is let down is in order then. -/
theorem downL_up : ∀ (j m : Nat) (l : List Int), j ≤ m → m < l.length → (∀ a b, a < b → b ≤ m → a ≠ j → b ≠ j → l.getD a 0 ≤ l.getD b 0) → (∀ b, j < b → b ≤ m → l.getD j 0 ≤ l.getD b 0) → ∀ a b, a < b → b ≤ m → (downL l j).getD a 0 ≤ (downL l j).getD b 0 := by
  intro j
  induction j with
  | zero =>
    intro m l _ hm h1 h2 a b hab hb
    simp only [downL]
    by_cases ha : a = 0
    · subst ha; exact h2 b hab hb
    · exact h1 a b hab hb ha (by omega)
  | succ j ih =>
    intro m l hj hm h1 h2 a b hab hb
    simp only [downL]
    split
    · rename_i hlt
      have hs : ∀ k, (swapL l j).getD k 0 = if k = j then l.getD (j + 1) 0 else if k = j + 1 then l.getD j 0 else l.getD k 0 := swapL_get l j (by omega)
      refine ih m (swapL l j) (by omega) (by rw [swapL_len]; exact hm) (fun a b hab hb ha hb' => ?_) (fun b hjb hb => ?_) a b hab hb
      · rw [hs a, hs b, if_neg ha, if_neg hb']
        by_cases h3 : a = j + 1
        · rw [if_pos h3, if_neg (by omega)]
          exact h1 j b (by omega) hb (by omega) (by omega)
        · rw [if_neg h3]
          by_cases h4 : b = j + 1
          · rw [if_pos h4]
            exact h1 a j (by omega) (by omega) h3 (by omega)
          · rw [if_neg h4]
            exact h1 a b hab hb h3 h4
      · rw [hs j, hs b, if_pos rfl, if_neg (by omega)]
        by_cases h4 : b = j + 1
        · rw [if_pos h4]; omega
        · rw [if_neg h4]
          exact h2 b (by omega) hb
    · rename_i hge
      by_cases h3 : a = j + 1
      · subst h3; exact h2 b hab hb
      · by_cases h4 : b = j + 1
        · subst h4
          by_cases h5 : a = j
          · subst h5; omega
          · have := h1 a j (by omega) (by omega) h3 (by omega)
            omega
        · exact h1 a b hab hb h3 h4

theorem sortL_up (l : List Int) : ∀ i, i < l.length ∨ i = 0 → ∀ a b, a < b → b ≤ i → (sortL l i).getD a 0 ≤ (sortL l i).getD b 0 := by
  intro i
  induction i with
  | zero => intro _ a b h1 h2; omega
  | succ i ih =>
    intro hi a b hab hb
    rw [sortL]
    refine downL_up (i + 1) (i + 1) (sortL l i) (Nat.le_refl _) (by rw [sortL_len]; omega) (fun a b hab hb ha hb' => ?_) (fun b h1 h2 => by omega) a b hab hb
    exact ih (by omega) a b hab (by omega)

end Go.Proofs.Ytloddmbbfkejcaa.Abs
end
section
/-
  slices.Sort of few whole numbers, walked.
-/
namespace Go.Proofs.Ytloddmbbfkejcaa.Abs

theorem nan_int (x : Int) : AC Try.prog 187 [.int .i64 x] [] 0 false (fun v h nx => v = .bool false ∧ h = [] ∧ nx = 0) := by
  refine ac_fn Try.func187 rfl rfl rfl rfl (fun w0 S0 r0 => ?_)
  refine aw_seq ?_
  refine aw_region ?_
  refine st_p (mva rfl) rfl ?_
  refine al_nil ?_
  refine nm ?_
  refine aw_seq ?_
  refine aw_region ?_
  refine st_p (mv rfl) rfl ?_
  refine st_p (mv rfl) rfl ?_
  refine st_p (OpP.conv (op_ne rfl rfl) (no (by first | assumption | omega))) rfl ?_
  refine st_p (mva rfl) rfl ?_
  refine al_nil ?_
  refine nm ?_
  refine aw_ret ?_
  exact ret_v (res1 Try.results187) (.inr ⟨rfl, rfl⟩) ⟨rfl, rfl, rfl⟩

theorem less_int (x y : Int) : AC Try.prog 181 [.int .i64 x, .int .i64 y] [] 0 false (fun v h nx => v = .bool (decide (x < y)) ∧ h = [] ∧ nx = 0) := by
  have hx := nan_int x
  have hy := nan_int y
  by_cases h : x < y
  · rw [decide_eq_true h]
    refine ac_fn Try.func181 rfl rfl rfl rfl (fun w0 S0 r0 => ?_)
    refine aw_seq ?_
    refine aw_region ?_
    refine st_p (mva rfl) rfl ?_
    refine al_nil ?_
    refine nm ?_
    refine aw_seq ?_
    refine aw_region ?_
    refine st_p (mv rfl) rfl ?_
    -- STOP: call cmp.isNaN[int](t5) -> 6
    refine st_o ((op_callq (hx) Try.func187 ⟨rfl, rfl⟩ rfl rfl (fun nx => (.cons (.same (by rfl)) .nil)) (by rintro _ _ _ ⟨rfl, rfl, rfl⟩; exact .same rfl)).ok) rfl ?_
    refine st_p (mv rfl) rfl ?_
    refine st_s rfl rfl rfl rfl rfl ?_
    -- STOP: call cmp.isNaN[int](t8) -> 9
    refine st_s rfl rfl rfl rfl rfl ?_
    refine st_s rfl rfl rfl rfl rfl ?_
    refine st_p (pkF rfl rfl) rfl ?_
    refine st_p (mv rfl) rfl ?_
    refine st_pg rfl rfl rfl (mv rfl) rfl ?_
    refine st_pg rfl rfl rfl (mv rfl) rfl ?_
    refine st_pg rfl rfl rfl (OpP.conv (op_lt rfl rfl) (yes (by first | assumption | omega))) rfl ?_
    refine st_p (pkF rfl rfl) rfl ?_
    refine st_p (mva rfl) rfl ?_
    refine al_nil ?_
    refine nm ?_
    refine aw_ret ?_
    exact ret_v (res1 Try.results181) (.inr ⟨rfl, rfl⟩) ⟨rfl, rfl, rfl⟩
  · rw [decide_eq_false h]
    refine ac_fn Try.func181 rfl rfl rfl rfl (fun w0 S0 r0 => ?_)
    refine aw_seq ?_
    refine aw_region ?_
    refine st_p (mva rfl) rfl ?_
    refine al_nil ?_
    refine nm ?_
    refine aw_seq ?_
    refine aw_region ?_
    refine st_p (mv rfl) rfl ?_
    -- STOP: call cmp.isNaN[int](t5) -> 6
    refine st_o ((op_callq (hx) Try.func187 ⟨rfl, rfl⟩ rfl rfl (fun nx => (.cons (.same (by rfl)) .nil)) (by rintro _ _ _ ⟨rfl, rfl, rfl⟩; exact .same rfl)).ok) rfl ?_
    refine st_p (mv rfl) rfl ?_
    refine st_s rfl rfl rfl rfl rfl ?_
    -- STOP: call cmp.isNaN[int](t8) -> 9
    refine st_s rfl rfl rfl rfl rfl ?_
    refine st_s rfl rfl rfl rfl rfl ?_
    refine st_p (pkF rfl rfl) rfl ?_
    refine st_p (mv rfl) rfl ?_
    refine st_pg rfl rfl rfl (mv rfl) rfl ?_
    refine st_pg rfl rfl rfl (mv rfl) rfl ?_
    refine st_pg rfl rfl rfl (OpP.conv (op_lt rfl rfl) (no (by first | assumption | omega))) rfl ?_
    refine st_p (pkF rfl rfl) rfl ?_
    refine st_p (mva rfl) rfl ?_
    refine al_nil ?_
    refine nm ?_
    refine aw_ret ?_
    exact ret_v (res1 Try.results181) (.inr ⟨rfl, rfl⟩) ⟨rfl, rfl, rfl⟩

theorem getD_some (d : List Int) (k : Nat) (hk : k < d.length) : (ints d)[k]? = some (.int .i64 (d.getD k 0)) := by
  unfold ints
  rw [List.getElem?_map, List.getElem?_eq_getElem hk, List.getD_eq_getElem?_getD, List.getElem?_eq_getElem hk]
  rfl

theorem ren_ints (σ : Nat → Nat) (l : List Int) : (ints l).map (AV.ren σ) = ints l := by simp [ints, AV.ren, Function.comp_def]
theorem ren_intsB (σ : Nat → Nat) (l : List Int) : (Blk.cells 1 (ints l)).ren σ = .cells 1 (ints l) := by simp only [Blk.ren, ren_ints]

theorem ints_swap (d : List Int) (q : Nat) : ((ints d).set (0 + ((q + 1 : Nat) : Int).toNat) (.int .i64 (d.getD q 0))).set (0 + (((q + 1 : Nat) : Int) - 1).toNat) (.int .i64 (d.getD (q + 1) 0)) = ints (swapL d q) := by
  rw [show 0 + (((q + 1 : Nat) : Int) - 1).toNat = q by omega, Nat.zero_add, Int.toNat_natCast]
  unfold ints swapL
  rw [List.map_set, List.map_set]

set_option maxHeartbeats 4000000 in
theorem insertion (l : List Int) (hl : l.length ≤ 1000000) :
    AC Try.prog 175 [.own 0 0 l.length, .int .i64 0, .int .i64 l.length] [(0, .cells 1 (ints l))] 1 false (fun v h nx => v = .tup [] ∧ h = [(0, .cells 1 (ints (sortL l (l.length - 1))))] ∧ nx = 1) := by
  refine ac_fn Try.func175 rfl rfl rfl rfl (fun w0 S0 r0 => ?_)
  refine aw_seq ?_
  refine aw_region ?_
  refine st_p (mv rfl) rfl ?_
  refine st_p (op_addi rfl rfl (by omega)) rfl ?_
  refine st_p (mva rfl) rfl ?_
  refine al_nil ?_
  refine nm ?_
  refine aw_block ?_
  -- LOOP
  refine aw_loop (fun i : {i : Nat // 1 ≤ i ∧ (i ≤ l.length ∨ i = 1)} => ⟨[(0, .own 0 0 l.length), (1, .int .i64 0), (2, .int .i64 l.length), (6, .int .i64 i.1)], [(0, .cells 1 (ints (sortL l (i.1 - 1))))], 1⟩) (fun i => l.length - i.1) ⟨1, Nat.le_refl _, .inr rfl⟩ ?_ ?_
  · exact le_to [] rfl rfl rfl rfl rfl ⟨rfl, rfl, rfl, rfl, trivial⟩ ⟨by rw [ren_intsB]; rfl, trivial⟩
  · rintro ⟨i, h1, h2⟩
    dsimp only
    by_cases hi : i < l.length
    · skip
      refine aw_seq ?_
      refine aw_seq ?_
      refine aw_region ?_
      refine st_p (mv rfl) rfl ?_
      refine st_p (mv rfl) rfl ?_
      refine st_p (OpP.conv (op_lt rfl rfl) (yes (by first | assumption | omega))) rfl ?_
      refine al_nil ?_
      refine nm ?_
      -- IF t12
      refine aw_yes (rfl) ?_
      refine aw_skip ?_
      refine nm ?_
      refine aw_seq ?_
      refine aw_block ?_
      refine aw_seq ?_
      refine aw_region ?_
      refine st_p (mv rfl) rfl ?_
      refine st_p (mva rfl) rfl ?_
      refine al_nil ?_
      refine nm ?_
      refine aw_block ?_
      -- LOOP
      refine aw_loop (fun p : {p : Nat × List Int // p.1 ≤ i ∧ p.2.length = l.length ∧ downL p.2 p.1 = sortL l i} => ⟨[(0, .own 0 0 l.length), (1, .int .i64 0), (2, .int .i64 l.length), (6, .int .i64 i), (7, .int .i64 p.1.1)], [(0, .cells 1 (ints p.1.2))], 1⟩) (fun p => p.1.1) ⟨(i, sortL l (i - 1)), by dsimp only; refine ⟨Nat.le_refl _, sortL_len _ _, ?_⟩; obtain ⟨q, rfl⟩ : ∃ q, i = q + 1 := ⟨i - 1, by omega⟩; rfl⟩ ?_ ?_
      · exact le_to [] rfl rfl rfl rfl rfl ⟨rfl, rfl, rfl, rfl, rfl, trivial⟩ ⟨by rw [ren_intsB]; rfl, trivial⟩
      · rintro ⟨⟨j, d⟩, k1, k2, k3⟩
        dsimp only at k1 k2 k3 ⊢
        have hdl : (ints d).length = d.length := ints_len d
        cases j with
        | zero =>
          refine aw_seq ?_
          refine aw_seq ?_
          refine dr_go ?_
          refine dr_f 0 0 [7] rfl (fun H => mv rfl) ?_
          refine dr_f 0 0 [1] rfl (fun H => mv rfl) ?_
          refine dr_f 0 0 [16, 17] rfl (fun H => OpP.conv (op_gt rfl rfl) (no (by first | assumption | omega))) ?_
          refine dr_f 0 0 [18] rfl (fun H => mv rfl) ?_
          refine dr_s 0 0 0 rfl rfl rfl ?_
          refine dr_s 0 0 1 rfl rfl rfl ?_
          refine dr_s 0 0 2 rfl rfl rfl ?_
          refine dr_s 0 0 3 rfl rfl rfl ?_
          refine dr_s 0 0 4 rfl rfl rfl ?_
          refine dr_s 0 0 5 rfl rfl rfl ?_
          refine dr_s 0 0 6 rfl rfl rfl ?_
          refine dr_s 0 0 7 rfl rfl rfl ?_
          refine dr_s 0 0 8 rfl rfl rfl ?_
          -- STOP: call cmp.Less[int](t23, t28) -> 29
          refine dr_s 0 0 9 rfl rfl rfl ?_
          refine dr_f 0 0 [19, 29] rfl (fun H => pkF rfl rfl) ?_
          refine dr_end [] (by kernel_rfl) (by kernel_rfl) (by kernel_rfl) (by kernel_rfl) trivial ?_
          refine nm ?_
          -- IF t30
          refine aw_no (rfl) ?_
          refine aw_exit ?_
          refine xs ?_
          refine xs ?_
          refine xb ?_
          refine nmb ?_
          refine nm ?_
          refine aw_region ?_
          refine st_p (mv rfl) rfl ?_
          refine st_p (op_addi rfl rfl (by omega)) rfl ?_
          refine st_p (mva rfl) rfl ?_
          refine al_nil ?_
          refine nm ?_
          refine ⟨⟨i + 1, by omega, by omega⟩, by dsimp only; omega, le_to [] rfl rfl rfl rfl rfl ⟨rfl, rfl, rfl, rfl, trivial⟩ ⟨?_, trivial⟩⟩
          rw [ren_intsB, show (i + 1 - 1) = i from rfl, ← k3]; rfl
        | succ q =>
          have hx : (ints d)[0 + ((q + 1 : Nat) : Int).toNat]? = some (.int .i64 (d.getD (q + 1) 0)) := by rw [Nat.zero_add, Int.toNat_natCast]; exact getD_some d _ (by omega)
          have hy : (ints d)[0 + (((q + 1 : Nat) : Int) - 1).toNat]? = some (.int .i64 (d.getD q 0)) := by rw [show 0 + (((q + 1 : Nat) : Int) - 1).toNat = q by omega]; exact getD_some d _ (by omega)
          have hz : ((ints d).set (0 + ((q + 1 : Nat) : Int).toNat) (.int .i64 (d.getD q 0)))[0 + (((q + 1 : Nat) : Int) - 1).toNat]? = some (.int .i64 (d.getD q 0)) := by
            rw [List.getElem?_set_ne (by omega)]; exact hy
          have hless := less_int (d.getD (q + 1) 0) (d.getD q 0)
          by_cases hlt : d.getD (q + 1) 0 < d.getD q 0
          · rw [decide_eq_true hlt] at hless
            refine aw_seq ?_
            refine aw_seq ?_
            refine dr_go ?_
            refine dr_f 0 0 [7] rfl (fun H => mv rfl) ?_
            refine dr_f 0 0 [1] rfl (fun H => mv rfl) ?_
            refine dr_f 0 0 [16, 17] rfl (fun H => OpP.conv (op_gt rfl rfl) (yes (by first | assumption | omega))) ?_
            refine dr_f 0 0 [18] rfl (fun H => mv rfl) ?_
            refine dr_gf 0 0 [0] rfl (fun H => mv rfl) 0 rfl rfl ?_
            refine dr_gf 0 0 [7] rfl (fun H => mv rfl) 1 rfl rfl ?_
            refine dr_gq 0 0 [20, 21] rfl (op_indexAddr Try.underlying35 z3 rfl rfl rfl (by omega) (by omega)) 2 rfl rfl ?_
            refine dr_gq 0 0 [22] rfl (op_load1 Try.underlying3 rfl rfl rfl (by assumption) rfl) 3 rfl rfl ?_
            refine dr_gf 0 0 [0] rfl (fun H => mv rfl) 4 rfl rfl ?_
            refine dr_gf 0 0 [7] rfl (fun H => mv rfl) 5 rfl rfl ?_
            refine dr_gf 0 0 [25] rfl (fun H => op_subi rfl rfl (by omega)) 6 rfl rfl ?_
            refine dr_gq 0 0 [24, 26] rfl (op_indexAddr Try.underlying35 z3 rfl rfl rfl (by omega) (by omega)) 7 rfl rfl ?_
            refine dr_gq 0 0 [27] rfl (op_load1 Try.underlying3 rfl rfl rfl (by assumption) rfl) 8 rfl rfl ?_
            -- STOP: call cmp.Less[int](t23, t28) -> 29
            refine dr_gfq 0 0 [23, 28] rfl (fun H => op_callq (hless) Try.func181 ⟨rfl, rfl⟩ rfl rfl (fun nx => (.cons (.same (by rfl)) (.cons (.same (by rfl)) .nil))) (by rintro _ _ _ ⟨rfl, rfl, rfl⟩; exact .same rfl)) 9 rfl rfl ?_
            refine dr_f 0 0 [19, 29] rfl (fun H => pkT rfl rfl) ?_
            refine dr_end [] (by kernel_rfl) (by kernel_rfl) (by kernel_rfl) (by kernel_rfl) trivial ?_
            refine nm ?_
            -- IF t30
            refine aw_yes (rfl) ?_
            refine aw_skip ?_
            refine nm ?_
            refine aw_seq ?_
            refine aw_block ?_
            refine dr_go ?_
            refine dr_f 0 0 [0] rfl (fun H => mv rfl) ?_
            refine dr_f 0 0 [7] rfl (fun H => mv rfl) ?_
            refine dr_f 0 1 [0] rfl (fun H => mv rfl) ?_
            refine dr_f 0 1 [7] rfl (fun H => mv rfl) ?_
            refine dr_f 0 1 [36] rfl (fun H => op_subi rfl rfl (by omega)) ?_
            refine dr_f 0 0 [0] rfl (fun H => mv rfl) ?_
            refine dr_f 0 0 [7] rfl (fun H => mv rfl) ?_
            refine dr_f 0 0 [39] rfl (fun H => op_subi rfl rfl (by omega)) ?_
            refine dr_q 0 0 [38, 40] rfl (op_indexAddr Try.underlying35 z3 rfl rfl rfl (by omega) (by omega)) ?_
            refine dr_q 0 0 [41] rfl (op_load1 Try.underlying3 rfl rfl rfl (by assumption) rfl) ?_
            refine dr_f 0 0 [0] rfl (fun H => mv rfl) ?_
            refine dr_f 0 0 [7] rfl (fun H => mv rfl) ?_
            refine dr_q 0 0 [43, 44] rfl (op_indexAddr Try.underlying35 z3 rfl rfl rfl (by omega) (by omega)) ?_
            refine dr_q 0 0 [45] rfl (op_load1 Try.underlying3 rfl rfl rfl (by assumption) rfl) ?_
            refine dr_q 0 0 [33, 34] rfl (op_indexAddr Try.underlying35 z3 rfl rfl rfl (by omega) (by omega)) ?_
            refine dr_n 0 [47, 42] rfl (st1s z3 rfl rfl rfl (by assumption) rfl rfl rfl) ?_
            refine dr_q 1 1 [35, 37] rfl (op_indexAddr Try.underlying35 z3 rfl rfl rfl (by omega) (by omega)) ?_
            refine dr_n 1 [48, 46] rfl (st1s z3 rfl rfl rfl (by assumption) rfl rfl rfl) ?_
            refine dr_end [] (by kernel_rfl) (by kernel_rfl) (by kernel_rfl) (by kernel_rfl) trivial ?_
            refine nmb ?_
            refine nm ?_
            refine aw_region ?_
            refine st_p (mv rfl) rfl ?_
            refine st_p (op_subi rfl rfl (by omega)) rfl ?_
            refine st_p (mva rfl) rfl ?_
            refine al_nil ?_
            refine nm ?_
            rw [downL, if_pos hlt] at k3
            refine ⟨⟨(q, swapL d q), by dsimp only; refine ⟨by omega, by rw [swapL_len]; exact k2, k3⟩⟩, by dsimp only; omega, le_to [] rfl rfl rfl rfl rfl ⟨rfl, rfl, rfl, rfl, ?_, trivial⟩ ⟨?_, trivial⟩⟩
            · show AV.int .i64 (((q + 1 : Nat) : Int) - 1) = AV.int .i64 (q : Int)
              congr 1
              omega
            · rw [ren_intsB, ← ints_swap]; rfl
          · rw [decide_eq_false hlt] at hless
            refine aw_seq ?_
            refine aw_seq ?_
            refine dr_go ?_
            refine dr_f 0 0 [7] rfl (fun H => mv rfl) ?_
            refine dr_f 0 0 [1] rfl (fun H => mv rfl) ?_
            refine dr_f 0 0 [16, 17] rfl (fun H => OpP.conv (op_gt rfl rfl) (yes (by first | assumption | omega))) ?_
            refine dr_f 0 0 [18] rfl (fun H => mv rfl) ?_
            refine dr_gf 0 0 [0] rfl (fun H => mv rfl) 0 rfl rfl ?_
            refine dr_gf 0 0 [7] rfl (fun H => mv rfl) 1 rfl rfl ?_
            refine dr_gq 0 0 [20, 21] rfl (op_indexAddr Try.underlying35 z3 rfl rfl rfl (by omega) (by omega)) 2 rfl rfl ?_
            refine dr_gq 0 0 [22] rfl (op_load1 Try.underlying3 rfl rfl rfl (by assumption) rfl) 3 rfl rfl ?_
            refine dr_gf 0 0 [0] rfl (fun H => mv rfl) 4 rfl rfl ?_
            refine dr_gf 0 0 [7] rfl (fun H => mv rfl) 5 rfl rfl ?_
            refine dr_gf 0 0 [25] rfl (fun H => op_subi rfl rfl (by omega)) 6 rfl rfl ?_
            refine dr_gq 0 0 [24, 26] rfl (op_indexAddr Try.underlying35 z3 rfl rfl rfl (by omega) (by omega)) 7 rfl rfl ?_
            refine dr_gq 0 0 [27] rfl (op_load1 Try.underlying3 rfl rfl rfl (by assumption) rfl) 8 rfl rfl ?_
            -- STOP: call cmp.Less[int](t23, t28) -> 29
            refine dr_gfq 0 0 [23, 28] rfl (fun H => op_callq (hless) Try.func181 ⟨rfl, rfl⟩ rfl rfl (fun nx => (.cons (.same (by rfl)) (.cons (.same (by rfl)) .nil))) (by rintro _ _ _ ⟨rfl, rfl, rfl⟩; exact .same rfl)) 9 rfl rfl ?_
            refine dr_f 0 0 [19, 29] rfl (fun H => pkT rfl rfl) ?_
            refine dr_end [] (by kernel_rfl) (by kernel_rfl) (by kernel_rfl) (by kernel_rfl) trivial ?_
            refine nm ?_
            -- IF t30
            refine aw_no (rfl) ?_
            refine aw_exit ?_
            refine xs ?_
            refine xs ?_
            refine xb ?_
            refine nmb ?_
            refine nm ?_
            refine aw_region ?_
            refine st_p (mv rfl) rfl ?_
            refine st_p (op_addi rfl rfl (by omega)) rfl ?_
            refine st_p (mva rfl) rfl ?_
            refine al_nil ?_
            refine nm ?_
            refine ⟨⟨i + 1, by omega, by omega⟩, by dsimp only; omega, le_to [] rfl rfl rfl rfl rfl ⟨rfl, rfl, rfl, rfl, trivial⟩ ⟨?_, trivial⟩⟩
            rw [ren_intsB, show (i + 1 - 1) = i from rfl, ← k3, downL, if_neg hlt]; rfl
    · skip
      refine aw_seq ?_
      refine aw_seq ?_
      refine aw_region ?_
      refine st_p (mv rfl) rfl ?_
      refine st_p (mv rfl) rfl ?_
      refine st_p (OpP.conv (op_lt rfl rfl) (no (by first | assumption | omega))) rfl ?_
      refine al_nil ?_
      refine nm ?_
      -- IF t12
      refine aw_no (rfl) ?_
      refine aw_exit ?_
      refine xs ?_
      refine xs ?_
      refine xb ?_
      refine ret_n ⟨[], [(0, .cells 1 (ints (sortL l (i - 1))))], 1⟩ (le_to [] rfl rfl rfl rfl rfl trivial ⟨by rw [ren_intsB]; rfl, trivial⟩) (res0 Try.results175) (.inr ⟨rfl, ?_⟩) ⟨rfl, ?_, rfl⟩
      · simp [Blk.nosl, AV.nosl, ints]
      · have : i - 1 = l.length - 1 := by omega
        rw [this]


/-- A closed call, run. -/
theorem ac_run {P : Program} (hm : P.follows .mixedOrders = true) {pl : Nat → Nat → Option PL} {pu : Nat → Bool} {tab : List EN} (h : Tab P (cfgT pl pu) tab) (n : Nat) {f : FuncId} {args : List AV} {r : AV} {h' : Heap} {nx' : Nat}
    (he : runF P (cfgT pl pu tab) n f args [] 0 = some (r, h', nx')) (hn : r.nosl = true ∧ h'.all (fun p => p.2.nosl) = true) : AC P f args [] 0 false (fun a b c => a = r ∧ b = h' ∧ c = nx') :=
  (tab_ok hm h n _ _ _ _ _ _ _ he).2 false (.inr hn)

def bitsLen (n : Nat) : Int := if n = 0 then 0 else if n = 1 then 1 else if n ≤ 3 then 2 else if n ≤ 7 then 3 else 4

theorem bits_Len (n : Nat) (hn : n ≤ 12) : AC Try.prog 143 [.int .u64 (IntKind.u64.wrap (n : Int))] [] 0 false (fun v h nx => v = .int .i64 (bitsLen n) ∧ h = [] ∧ nx = 0) := by
  have hm : (Try.prog).follows .mixedOrders = true := by kernel_rfl
  have ht : Tab Try.prog (cfgT (fun _ _ => none) (fun _ => true)) [] := .nil
  match n, hn with
  | 0, _ => exact ac_run hm ht 50 (by kernel_rfl) ⟨rfl, rfl⟩
  | 1, _ => exact ac_run hm ht 50 (by kernel_rfl) ⟨rfl, rfl⟩
  | 2, _ => exact ac_run hm ht 50 (by kernel_rfl) ⟨rfl, rfl⟩
  | 3, _ => exact ac_run hm ht 50 (by kernel_rfl) ⟨rfl, rfl⟩
  | 4, _ => exact ac_run hm ht 50 (by kernel_rfl) ⟨rfl, rfl⟩
  | 5, _ => exact ac_run hm ht 50 (by kernel_rfl) ⟨rfl, rfl⟩
  | 6, _ => exact ac_run hm ht 50 (by kernel_rfl) ⟨rfl, rfl⟩
  | 7, _ => exact ac_run hm ht 50 (by kernel_rfl) ⟨rfl, rfl⟩
  | 8, _ => exact ac_run hm ht 50 (by kernel_rfl) ⟨rfl, rfl⟩
  | 9, _ => exact ac_run hm ht 50 (by kernel_rfl) ⟨rfl, rfl⟩
  | 10, _ => exact ac_run hm ht 50 (by kernel_rfl) ⟨rfl, rfl⟩
  | 11, _ => exact ac_run hm ht 50 (by kernel_rfl) ⟨rfl, rfl⟩
  | 12, _ => exact ac_run hm ht 50 (by kernel_rfl) ⟨rfl, rfl⟩

theorem pdq_few (l : List Int) (k : Int) (hl : l.length ≤ 12) :
    AC Try.prog 142 [.own 0 0 l.length, .int .i64 0, .int .i64 l.length, .int .i64 k] [(0, .cells 1 (ints l))] 1 false (fun v h nx => v = .tup [] ∧ h = [(0, .cells 1 (ints (sortL l (l.length - 1))))] ∧ nx = 1) := by
  have hi := insertion l (by omega)
  refine ac_fn Try.func142 rfl rfl rfl rfl (fun w0 S0 r0 => ?_)
  refine aw_seq ?_
  refine aw_region ?_
  refine st_p (mva rfl) rfl ?_
  refine al_nil ?_
  refine nm ?_
  refine aw_seq ?_
  refine aw_region ?_
  refine st_p (mva rfl) rfl ?_
  refine al_nil ?_
  refine nm ?_
  refine aw_block ?_
  -- LOOP
  refine aw_loop (fun _ : Unit => ⟨[(0, .own 0 0 l.length), (1, .int .i64 0), (2, .int .i64 l.length)], [(0, .cells 1 (ints l))], 1⟩) (fun _ => 0) () ?_ ?_
  · exact le_to [] rfl rfl rfl rfl rfl ⟨rfl, rfl, rfl, trivial⟩ ⟨by rw [ren_intsB]; rfl, trivial⟩
  · rintro ⟨⟩
    refine aw_block ?_
    refine aw_seq ?_
    refine aw_region ?_
    refine st_p (mv rfl) rfl ?_
    refine st_p (mv rfl) rfl ?_
    refine st_p (op_subi rfl rfl (by omega)) rfl ?_
    refine st_p (mva rfl) rfl ?_
    refine al_nil ?_
    refine nm ?_
    refine aw_seq ?_
    refine aw_seq ?_
    refine aw_region ?_
    refine st_p (mv rfl) rfl ?_
    refine st_p (OpP.conv (op_le rfl rfl) (yes (by first | assumption | omega))) rfl ?_
    refine al_nil ?_
    refine nm ?_
    -- IF t23
    refine aw_yes (rfl) ?_
    refine aw_seq ?_
    refine aw_region ?_
    refine st_p (mv rfl) rfl ?_
    refine st_p (mv rfl) rfl ?_
    refine st_p (mv rfl) rfl ?_
    -- STOP: call slices.insertionSortOrdered[int](t24, t25, t26) -> 27
    refine st_o (op_callg [(0, 0)] 1 false [(0, .cells 1 (ints l))] [0] (hi) Try.func175 ⟨rfl, rfl⟩ rfl rfl rfl rfl (by omega) (by intro p hp; simp only [List.mem_cons, List.not_mem_nil, or_false] at hp; rcases hp with rfl | rfl <;> exact ⟨by first | rfl | ((simp [hget, swp, Blk.ren, AV.ren, ints, Function.comp_def]) <;> rfl), rfl⟩) rfl (.cons (.same (by rfl)) (.cons (.same (by rfl)) (.cons (.same (by rfl)) .nil))) rfl rfl rfl) rfl ?_
    refine al_nil ?_
    refine nm ?_
    refine aw_ret ?_
    refine rs ?_
    refine rb ?_
    refine rs ?_
    refine rb ?_
    refine ret_a ⟨[], [(0, .cells 1 (ints (sortL l (l.length - 1))))], 1⟩ (le_to [] rfl rfl rfl rfl rfl trivial ⟨by simp only [List.map_cons, List.map_nil, ren_intsB]; rfl, trivial⟩) (res0 Try.results142) (.inr ⟨rfl, ?_⟩) ⟨rfl, rfl, rfl⟩
    simp [Blk.nosl, AV.nosl, ints]

theorem sort_few (l : List Int) (hl : l.length ≤ 12) :
    AC Try.prog 95 [.own 0 0 l.length] [(0, .cells 1 (ints l))] 1 false (fun v h nx => v = .tup [] ∧ h = [(0, .cells 1 (ints (sortL l (l.length - 1))))] ∧ nx = 1) := by
  have hb := bits_Len l.length hl
  have hp := pdq_few l (bitsLen l.length) hl
  refine ac_fn Try.func95 rfl rfl rfl rfl (fun w0 S0 r0 => ?_)
  refine aw_seq ?_
  refine aw_region ?_
  refine st_p (mv rfl) rfl ?_
  refine st_p (op_leno Try.underlying35 rfl) rfl ?_
  refine st_p (mva rfl) rfl ?_
  refine al_nil ?_
  refine nm ?_
  refine aw_region ?_
  refine st_p (mv rfl) rfl ?_
  refine st_p (mv rfl) rfl ?_
  refine st_p (mv rfl) rfl ?_
  refine st_p (op_conv (by rw [Try.underlying3]; rfl) Try.underlying192 rfl) rfl ?_
  -- STOP: call math/bits.Len(t8) -> 9
  refine st_o ((op_callq (hb) Try.func143 ⟨rfl, rfl⟩ rfl rfl (fun nx => (.cons (.same (by rfl)) .nil)) (by rintro _ _ _ ⟨rfl, rfl, rfl⟩; exact .same rfl)).ok) rfl ?_
  -- STOP: call slices.pdqsortOrdered[int](t5, ('app', 'Operand.const', [('app', 'Value.int', ['IntKind.i64', 0])]), t6, t9) -> 10
  refine st_o (op_callg [(0, 0)] 1 false [(0, .cells 1 (ints l))] [0] (hp) Try.func142 ⟨rfl, rfl⟩ rfl rfl rfl rfl (by omega) (by intro p hp; simp only [List.mem_cons, List.not_mem_nil, or_false] at hp; rcases hp with rfl | rfl <;> exact ⟨by first | rfl | ((simp [hget, swp, Blk.ren, AV.ren, ints, Function.comp_def]) <;> rfl), rfl⟩) rfl (.cons (.same (by rfl)) (.cons (.same (by rfl)) (.cons (.same (by rfl)) (.cons (.same (by rfl)) .nil)))) rfl rfl rfl) rfl ?_
  refine al_nil ?_
  refine ret_n ⟨[], [(0, .cells 1 (ints (sortL l (l.length - 1))))], 1⟩ (le_to [] rfl rfl rfl rfl rfl trivial ⟨by simp only [List.map_cons, List.map_nil, ren_intsB]; rfl, trivial⟩) (res0 Try.results95) (.inr ⟨rfl, ?_⟩) ⟨rfl, rfl, rfl⟩
  simp [Blk.nosl, AV.nosl, ints]

end Go.Proofs.Ytloddmbbfkejcaa.Abs
end
section
/-
  Rows of one's own, cleared, copied. It holds of any program.
-/
namespace Go.Proofs.Ytloddmbbfkejcaa.Abs

theorem op_clearP {P : Program} {tm : List (Nat × AV)} {h : Heap} {nx : Nat} {t e : TypeId} {x : Operand} {z : Value} {sz bytes b st len : Nat} {xs : List AV} {h' : Heap} (hu : P.underlying t = some (.slice e)) (hi : (P.info? e).map (fun i => (i.zero, i.size, i.bytes)) = some (some z, sz, bytes)) (hzs : z.cells.size = sz ∧ ∀ (i : Nat) (u : Value), z.cells[i]? = some u → u.oneCell' = true)
    (hx : oev tm x = .own b st len) (hlen : 0 < len) (hb : hget h b = some (.cells sz xs)) (hst : st ≤ xs.length) (hh : hset h b (.cells sz (xs.take st)) = h') :
    OpOK P (.call { callee := .builtin .clear, args := #[x], argTypes := #[t] }) ⟨tm, h, nx⟩ (.tup []) h' nx := by
  obtain ⟨m, rfl⟩ : ∃ m, len = m + 1 := ⟨len - 1, by omega⟩
  exact op_clear hu hi hzs hx hb hst hh

end Go.Proofs.Ytloddmbbfkejcaa.Abs
end
section
/-
  slices.Compact of whole numbers.
-/
namespace Go.Proofs.Ytloddmbbfkejcaa.Abs

/-- Of those side by side that are alike one is left. -/
def adjL : List Int → List Int
  | [] => []
  | [a] => [a]
  | a :: b :: t => if a = b then adjL (b :: t) else a :: adjL (b :: t)

theorem adjL_snoc : ∀ (m : List Int) (y x : Int), adjL (m ++ [y, x]) = if y = x then adjL (m ++ [y]) else adjL (m ++ [y]) ++ [x] := by
  intro m
  induction m with
  | nil =>
    intro y x
    simp only [List.nil_append, adjL]
    by_cases h : y = x <;> simp [h]
  | cons a m ih =>
    intro y x
    cases m with
    | nil =>
      simp only [List.cons_append, List.nil_append, adjL]
      by_cases h1 : a = y <;> by_cases h2 : y = x <;> simp [h1, h2]
    | cons b m =>
      have := ih y x
      simp only [List.cons_append, adjL] at this ⊢
      rw [this]
      by_cases h1 : a = b <;> by_cases h2 : y = x <;> simp [h1, h2]

theorem adjL_take (l : List Int) (k : Nat) (h0 : 1 ≤ k) (hk : k < l.length) : adjL (l.take (k + 1)) = if l.getD k 0 = l.getD (k - 1) 0 then adjL (l.take k) else adjL (l.take k) ++ [l.getD k 0] := by
  obtain ⟨q, rfl⟩ : ∃ q, k = q + 1 := ⟨k - 1, by omega⟩
  have e1 : l.take (q + 1) = l.take q ++ [l.getD q 0] := by
    rw [List.take_add_one, List.getD_eq_getElem?_getD, List.getElem?_eq_getElem (by omega)]; rfl
  have e2 : l.take (q + 1 + 1) = l.take q ++ [l.getD q 0, l.getD (q + 1) 0] := by
    rw [List.take_add_one, e1, List.append_assoc, List.getD_eq_getElem?_getD (i := q + 1), List.getElem?_eq_getElem hk]; rfl
  rw [e2, e1, adjL_snoc, show q + 1 - 1 = q from rfl]
  by_cases h : l.getD q 0 = l.getD (q + 1) 0
  · rw [if_pos h, if_pos h.symm]
  · rw [if_neg h, if_neg (fun e => h e.symm)]

theorem ints_take (l : List Int) (k : Nat) : (ints l).take k = ints (l.take k) := by simp [ints, List.map_take]
theorem ints_set (l : List Int) (k : Nat) (x : Int) : (ints l).set k (.int .i64 x) = ints (l.set k x) := by simp [ints, List.map_set]

set_option maxHeartbeats 4000000 in
theorem compact_ints (l : List Int) (hl : l.length ≤ 1000000) :
    AC Try.prog 96 [.own 0 0 l.length] [(0, .cells 1 (ints l))] 1 false (fun v h nx => v = .own 0 0 (adjL l).length ∧ h = [(0, .cells 1 (ints (adjL l)))] ∧ nx = 1) := by
  have hil : (ints l).length = l.length := ints_len l
  have hns : ∀ m : List Int, (Blk.cells 1 (ints m)).nosl = true := fun m => by simp [Blk.nosl, AV.nosl, ints]
  by_cases h2 : l.length < 2
  · have ha : adjL l = l := by
      match l, h2 with
      | [], _ => rfl
      | [a], _ => rfl
      | a :: b :: t, h2 => simp at h2; omega
    refine ac_fn Try.func96 rfl rfl rfl rfl (fun w0 S0 r0 => ?_)
    refine aw_seq ?_
    refine aw_region ?_
    refine st_p (mva rfl) rfl ?_
    refine al_nil ?_
    refine nm ?_
    refine aw_seq ?_
    refine aw_seq ?_
    refine aw_region ?_
    refine st_p (mv rfl) rfl ?_
    refine st_p (op_leno Try.underlying35 rfl) rfl ?_
    refine st_p (OpP.conv (op_lt rfl rfl) (yes (by first | assumption | omega))) rfl ?_
    refine al_nil ?_
    refine nm ?_
    -- IF t8
    refine aw_yes (rfl) ?_
    refine aw_seq ?_
    refine aw_region ?_
    refine st_p (mv rfl) rfl ?_
    refine st_p (mva rfl) rfl ?_
    refine al_nil ?_
    refine nm ?_
    refine aw_ret ?_
    refine rs ?_
    rw [ha]
    exact ret_a ⟨[(2, .own 0 0 l.length)], [(0, .cells 1 (ints l))], 1⟩ (le_to [] rfl rfl rfl rfl rfl ⟨rfl, trivial⟩ ⟨by rw [ren_intsB]; rfl, trivial⟩) (res1 Try.results96) (.inr ⟨rfl, by simp only [List.all_cons, List.all_nil, hns, Bool.and_true]⟩) ⟨rfl, rfl, rfl⟩
  · skip
    refine ac_fn Try.func96 rfl rfl rfl rfl (fun w0 S0 r0 => ?_)
    refine aw_seq ?_
    refine aw_region ?_
    refine st_p (mva rfl) rfl ?_
    refine al_nil ?_
    refine nm ?_
    refine aw_seq ?_
    refine aw_seq ?_
    refine aw_region ?_
    refine st_p (mv rfl) rfl ?_
    refine st_p (op_leno Try.underlying35 rfl) rfl ?_
    refine st_p (OpP.conv (op_lt rfl rfl) (no (by first | assumption | omega))) rfl ?_
    refine al_nil ?_
    refine nm ?_
    -- IF t8
    refine aw_no (rfl) ?_
    refine aw_skip ?_
    refine nm ?_
    refine aw_seq ?_
    refine aw_seq ?_
    refine aw_region ?_
    refine st_p (mva rfl) rfl ?_
    refine al_nil ?_
    refine nm ?_
    refine aw_block ?_
    -- LOOP
    refine aw_loop (fun k : {k : Nat // 1 ≤ k ∧ k ≤ l.length ∧ adjL (l.take k) = l.take k} => ⟨[(0, .own 0 0 l.length), (3, .int .i64 k.1)], [(0, .cells 1 (ints l))], 1⟩) (fun k => l.length - k.1) ⟨1, Nat.le_refl _, by omega, by cases l <;> simp [adjL]⟩ ?_ ?_
    · exact le_to [] rfl rfl rfl rfl rfl ⟨rfl, rfl, trivial⟩ ⟨by rw [ren_intsB]; rfl, trivial⟩
    · rintro ⟨k, k1, k2, k3⟩
      dsimp only
      by_cases hk : k < l.length
      · have hx : (ints l)[0 + ((k : Nat) : Int).toNat]? = some (.int .i64 (l.getD k 0)) := by rw [Nat.zero_add, Int.toNat_natCast]; exact getD_some l _ hk
        have hy : (ints l)[0 + (((k : Nat) : Int) - 1).toNat]? = some (.int .i64 (l.getD (k - 1) 0)) := by rw [show 0 + (((k : Nat) : Int) - 1).toNat = k - 1 by omega]; exact getD_some l _ (by omega)
        have ht := adjL_take l k k1 hk
        by_cases he : l.getD k 0 = l.getD (k - 1) 0
        · rw [if_pos he] at ht
          refine aw_seq ?_
          refine aw_seq ?_
          refine aw_region ?_
          refine st_p (mv rfl) rfl ?_
          refine st_p (mv rfl) rfl ?_
          refine st_p (op_leno Try.underlying35 rfl) rfl ?_
          refine st_p (OpP.conv (op_lt rfl rfl) (yes (by first | assumption | omega))) rfl ?_
          refine al_nil ?_
          refine nm ?_
          -- IF t13
          refine aw_yes (rfl) ?_
          refine aw_skip ?_
          refine nm ?_
          refine aw_seq ?_
          refine aw_block ?_
          refine aw_seq ?_
          refine dr_go ?_
          refine dr_f 0 0 [0] rfl (fun H => mv rfl) ?_
          refine dr_f 0 0 [3] rfl (fun H => mv rfl) ?_
          refine dr_q 0 0 [16, 17] rfl (op_indexAddr Try.underlying35 z3 rfl rfl rfl (by omega) (by omega)) ?_
          refine dr_q 0 0 [18] rfl (op_load1 Try.underlying3 rfl rfl rfl (by assumption) rfl) ?_
          refine dr_f 0 0 [0] rfl (fun H => mv rfl) ?_
          refine dr_f 0 0 [3] rfl (fun H => mv rfl) ?_
          refine dr_f 0 0 [21] rfl (fun H => op_subi rfl rfl (by omega)) ?_
          refine dr_q 0 0 [20, 22] rfl (op_indexAddr Try.underlying35 z3 rfl rfl rfl (by omega) (by omega)) ?_
          refine dr_q 0 0 [23] rfl (op_load1 Try.underlying3 rfl rfl rfl (by assumption) rfl) ?_
          refine dr_f 0 0 [19, 24] rfl (fun H => OpP.conv (op_eq rfl rfl) (yes (by first | assumption | omega))) ?_
          refine dr_end [] (by kernel_rfl) (by kernel_rfl) (by kernel_rfl) (by kernel_rfl) trivial ?_
          refine nm ?_
          -- IF t25
          refine aw_yes (rfl) ?_
          refine aw_seq ?_
          refine aw_region ?_
          refine st_p (mv rfl) rfl ?_
          refine st_p (mv rfl) rfl ?_
          refine st_p (op_slice Try.underlying35 z3 rfl rfl (by exact ⟨_, rfl⟩) (by exact rfl) (by first | omega | (simp only [bl_len, List.length_map, List.length_append, List.length_take, List.length_drop]; omega)) (by first | omega | (simp only [bl_len, List.length_map, List.length_append, List.length_take, List.length_drop]; omega)) (by first | omega | (simp only [bl_len, List.length_map, List.length_append, List.length_take, List.length_drop]; omega))) rfl ?_
          refine st_p (mva rfl) rfl ?_
          refine al_nil ?_
          refine nm ?_
          refine aw_seq ?_
          refine aw_seq ?_
          refine aw_region ?_
          refine st_p (mva rfl) rfl ?_
          refine al_nil ?_
          refine nm ?_
          refine aw_block ?_
          -- LOOP
          have hk3 : adjL (l.take (k + 1)) = l.take k := ht.trans k3
          refine aw_loop (fun p : {p : Nat × List Int × Nat // k ≤ p.1 ∧ p.1 < k + p.2.2 ∧ 1 ≤ p.2.2 ∧ k + p.2.2 ≤ l.length ∧ p.2.1.length = l.length ∧ (∀ j, k + p.2.2 - 1 ≤ j → p.2.1.getD j 0 = l.getD j 0) ∧ p.2.1.take p.1 = adjL (l.take (k + p.2.2))} => ⟨[(0, .own 0 0 l.length), (3, .int .i64 p.1.1), (4, .own 0 k (l.length - k)), (5, .int .i64 p.1.2.2)], [(0, .cells 1 (ints p.1.2.1))], 1⟩) (fun p => l.length - p.1.2.2) ⟨(k, l, 1), by dsimp only; exact ⟨Nat.le_refl _, by omega, Nat.le_refl _, by omega, rfl, fun _ _ => rfl, hk3.symm⟩⟩ ?_ ?_
          · refine le_to [] rfl rfl rfl rfl rfl ⟨rfl, rfl, ?_, rfl, trivial⟩ ⟨by rw [ren_intsB]; rfl, trivial⟩
            show AV.own 0 (0 + ((k : Nat) : Int).toNat) (((l.length : Nat) : Int).toNat - ((k : Nat) : Int).toNat) = AV.own 0 k (l.length - k)
            simp
          · rintro ⟨⟨m, d, q⟩, m1, m2, m3, m4, m5, m6, m7⟩
            dsimp only at m1 m2 m3 m4 m5 m6 m7 ⊢
            have hdl : (ints d).length = d.length := ints_len d
            by_cases hq : q < l.length - k
            · have hx : (ints d)[k + ((q : Nat) : Int).toNat]? = some (.int .i64 (l.getD (k + q) 0)) := by rw [Int.toNat_natCast, ← m6 (k + q) (by omega)]; exact getD_some d _ (by omega)
              have hy : (ints d)[k + (((q : Nat) : Int) - 1).toNat]? = some (.int .i64 (l.getD (k + q - 1) 0)) := by rw [show k + (((q : Nat) : Int) - 1).toNat = k + q - 1 by omega, ← m6 (k + q - 1) (by omega)]; exact getD_some d _ (by omega)
              have ht2 := adjL_take l (k + q) (by omega) (by omega)
              by_cases he2 : l.getD (k + q) 0 = l.getD (k + q - 1) 0
              · rw [if_pos he2] at ht2
                refine aw_seq ?_
                refine aw_seq ?_
                refine aw_region ?_
                refine st_p (mv rfl) rfl ?_
                refine st_p (mv rfl) rfl ?_
                refine st_p (op_leno Try.underlying35 rfl) rfl ?_
                refine st_p (OpP.conv (op_lt rfl rfl) (yes (by first | assumption | omega))) rfl ?_
                refine al_nil ?_
                refine nm ?_
                -- IF t32
                refine aw_yes (rfl) ?_
                refine aw_skip ?_
                refine nm ?_
                refine aw_seq ?_
                refine aw_block ?_
                refine aw_seq ?_
                refine dr_go ?_
                refine dr_f 0 0 [4] rfl (fun H => mv rfl) ?_
                refine dr_f 0 0 [5] rfl (fun H => mv rfl) ?_
                refine dr_q 0 0 [35, 36] rfl (op_indexAddr Try.underlying35 z3 rfl rfl rfl (by omega) (by omega)) ?_
                refine dr_q 0 0 [37] rfl (op_load1 Try.underlying3 rfl rfl rfl (by assumption) rfl) ?_
                refine dr_f 0 0 [4] rfl (fun H => mv rfl) ?_
                refine dr_f 0 0 [5] rfl (fun H => mv rfl) ?_
                refine dr_f 0 0 [40] rfl (fun H => op_subi rfl rfl (by omega)) ?_
                refine dr_q 0 0 [39, 41] rfl (op_indexAddr Try.underlying35 z3 rfl rfl rfl (by omega) (by omega)) ?_
                refine dr_q 0 0 [42] rfl (op_load1 Try.underlying3 rfl rfl rfl (by assumption) rfl) ?_
                refine dr_f 0 0 [38, 43] rfl (fun H => OpP.conv (op_ne rfl rfl) (no (by first | assumption | omega))) ?_
                refine dr_end [] (by kernel_rfl) (by kernel_rfl) (by kernel_rfl) (by kernel_rfl) trivial ?_
                refine nm ?_
                -- IF t44
                refine aw_no (rfl) ?_
                refine aw_skip ?_
                refine nmb ?_
                refine nm ?_
                refine aw_region ?_
                refine st_p (mv rfl) rfl ?_
                refine st_p (op_addi rfl rfl (by omega)) rfl ?_
                refine st_p (mva rfl) rfl ?_
                refine al_nil ?_
                refine nm ?_
                refine ⟨⟨(m, d, q + 1), by dsimp only; exact ⟨m1, by omega, by omega, by omega, m5, fun j hj => m6 j (by omega), by rw [m7, ← ht2]; rfl⟩⟩, by dsimp only; omega, le_to [] rfl rfl rfl rfl rfl ⟨rfl, rfl, rfl, rfl, trivial⟩ ⟨by rw [ren_intsB]; rfl, trivial⟩⟩
              · rw [if_neg he2] at ht2
                have hs : (ints d)[0 + ((m : Nat) : Int).toNat]? = some (.int .i64 (d.getD m 0)) := by rw [Nat.zero_add, Int.toNat_natCast]; exact getD_some d _ (by omega)
                refine aw_seq ?_
                refine aw_seq ?_
                refine aw_region ?_
                refine st_p (mv rfl) rfl ?_
                refine st_p (mv rfl) rfl ?_
                refine st_p (op_leno Try.underlying35 rfl) rfl ?_
                refine st_p (OpP.conv (op_lt rfl rfl) (yes (by first | assumption | omega))) rfl ?_
                refine al_nil ?_
                refine nm ?_
                -- IF t32
                refine aw_yes (rfl) ?_
                refine aw_skip ?_
                refine nm ?_
                refine aw_seq ?_
                refine aw_block ?_
                refine aw_seq ?_
                refine dr_go ?_
                refine dr_f 0 0 [4] rfl (fun H => mv rfl) ?_
                refine dr_f 0 0 [5] rfl (fun H => mv rfl) ?_
                refine dr_q 0 0 [35, 36] rfl (op_indexAddr Try.underlying35 z3 rfl rfl rfl (by omega) (by omega)) ?_
                refine dr_q 0 0 [37] rfl (op_load1 Try.underlying3 rfl rfl rfl (by assumption) rfl) ?_
                refine dr_f 0 0 [4] rfl (fun H => mv rfl) ?_
                refine dr_f 0 0 [5] rfl (fun H => mv rfl) ?_
                refine dr_f 0 0 [40] rfl (fun H => op_subi rfl rfl (by omega)) ?_
                refine dr_q 0 0 [39, 41] rfl (op_indexAddr Try.underlying35 z3 rfl rfl rfl (by omega) (by omega)) ?_
                refine dr_q 0 0 [42] rfl (op_load1 Try.underlying3 rfl rfl rfl (by assumption) rfl) ?_
                refine dr_f 0 0 [38, 43] rfl (fun H => OpP.conv (op_ne rfl rfl) (yes (by first | assumption | omega))) ?_
                refine dr_end [] (by kernel_rfl) (by kernel_rfl) (by kernel_rfl) (by kernel_rfl) trivial ?_
                refine nm ?_
                -- IF t44
                refine aw_yes (rfl) ?_
                refine aw_seq ?_
                refine aw_region ?_
                refine st_p (mv rfl) rfl ?_
                refine st_p (mv rfl) rfl ?_
                refine st_p (mv rfl) rfl ?_
                refine st_p (mv rfl) rfl ?_
                refine st_p (op_indexAddr Try.underlying35 z3 rfl rfl rfl (by omega) (by omega)) rfl ?_
                refine st_p (op_load1 Try.underlying3 rfl rfl rfl (by assumption) rfl) rfl ?_
                refine st_p (op_indexAddr Try.underlying35 z3 rfl rfl rfl (by omega) (by omega)) rfl ?_
                refine st_n (st1s z3 rfl rfl rfl (by assumption) rfl rfl rfl) ?_
                refine al_nil ?_
                refine nm ?_
                refine aw_region ?_
                refine st_p (mv rfl) rfl ?_
                refine st_p (op_addi rfl rfl (by omega)) rfl ?_
                refine st_p (mva rfl) rfl ?_
                refine al_nil ?_
                refine nmb ?_
                refine nm ?_
                refine aw_region ?_
                refine st_p (mv rfl) rfl ?_
                refine st_p (op_addi rfl rfl (by omega)) rfl ?_
                refine st_p (mva rfl) rfl ?_
                refine al_nil ?_
                refine nm ?_
                have hA : ∀ j, k + (q + 1) - 1 ≤ j → (d.set m (l.getD (k + q) 0)).getD j 0 = l.getD j 0 := fun j hj => by
                  rw [List.getD_eq_getElem?_getD, List.getElem?_set_ne (by omega), ← List.getD_eq_getElem?_getD]
                  exact m6 j (by omega)
                have hB : (d.set m (l.getD (k + q) 0)).take (m + 1) = adjL (l.take (k + (q + 1))) := by
                  rw [show k + (q + 1) = k + q + 1 from rfl, ht2, ← m7, List.take_add_one, List.getElem?_set_self (by omega), List.take_set_of_le (Nat.le_refl _)]
                  rfl
                refine ⟨⟨(m + 1, d.set m (l.getD (k + q) 0), q + 1), by dsimp only; exact ⟨by omega, by omega, by omega, by omega, by rw [List.length_set]; exact m5, hA, hB⟩⟩, by dsimp only; omega, le_to [] rfl rfl rfl rfl rfl ⟨rfl, rfl, rfl, rfl, trivial⟩ ⟨?_, trivial⟩⟩
                rw [ren_intsB, ← ints_set]
                show some (Blk.cells 1 ((ints d).set (0 + ((m : Nat) : Int).toNat) _)) = _
                rw [Nat.zero_add, Int.toNat_natCast]
            · skip
              refine aw_seq ?_
              refine aw_seq ?_
              refine aw_region ?_
              refine st_p (mv rfl) rfl ?_
              refine st_p (mv rfl) rfl ?_
              refine st_p (op_leno Try.underlying35 rfl) rfl ?_
              refine st_p (OpP.conv (op_lt rfl rfl) (no (by first | assumption | omega))) rfl ?_
              refine al_nil ?_
              refine nm ?_
              -- IF t32
              refine aw_no (rfl) ?_
              refine aw_exit ?_
              refine xs ?_
              refine xs ?_
              refine xb ?_
              refine nm ?_
              refine aw_seq ?_
              refine aw_region ?_
              refine st_p (mv rfl) rfl ?_
              refine st_p (mv rfl) rfl ?_
              refine st_p (op_slice Try.underlying35 z3 rfl rfl (by exact ⟨_, rfl⟩) (by exact rfl) (by first | omega | (simp only [bl_len, List.length_map, List.length_append, List.length_take, List.length_drop]; omega)) (by first | omega | (simp only [bl_len, List.length_map, List.length_append, List.length_take, List.length_drop]; omega)) (by first | omega | (simp only [bl_len, List.length_map, List.length_append, List.length_take, List.length_drop]; omega))) rfl ?_
              refine st_n (op_clearP Try.underlying35 i3 o3 rfl (by omega) rfl (by omega) rfl) ?_
              refine al_nil ?_
              refine nm ?_
              refine aw_seq ?_
              refine aw_region ?_
              refine st_p (mv rfl) rfl ?_
              refine st_p (mv rfl) rfl ?_
              refine st_p (op_slice Try.underlying35 z3 rfl rfl (by exact rfl) (by exact ⟨_, rfl⟩) (by first | omega | (simp only [bl_len, List.length_map, List.length_append, List.length_take, List.length_drop]; omega)) (by first | omega | (simp only [bl_len, List.length_map, List.length_append, List.length_take, List.length_drop]; omega)) (by first | omega | (simp only [bl_len, List.length_map, List.length_append, List.length_take, List.length_drop]; omega))) rfl ?_
              refine st_p (mva rfl) rfl ?_
              refine al_nil ?_
              refine nm ?_
              refine aw_ret ?_
              refine rb ?_
              refine rs ?_
              refine rs ?_
              refine rb ?_
              refine rs ?_
              rw [show k + q = l.length by omega, List.take_length] at m7
              have hml : (adjL l).length = m := by rw [← m7, List.length_take]; omega
              refine ret_a ⟨[(2, .own 0 0 (adjL l).length)], [(0, .cells 1 (ints (adjL l)))], 1⟩ (le_to [] rfl rfl rfl rfl rfl ⟨?_, trivial⟩ ⟨?_, trivial⟩) (res1 Try.results96) (.inr ⟨rfl, by simp only [List.all_cons, List.all_nil, hns, Bool.and_true]⟩) ⟨rfl, rfl, rfl⟩
              · show AV.own 0 (0 + Int.toNat 0) (((m : Nat) : Int).toNat - Int.toNat 0) = AV.own 0 0 (adjL l).length
                rw [hml]; simp
              · rw [ren_intsB]
                show some (Blk.cells 1 ((ints d).take (0 + ((m : Nat) : Int).toNat))) = _
                rw [Nat.zero_add, Int.toNat_natCast, ints_take, m7]
        · rw [if_neg he] at ht
          refine aw_seq ?_
          refine aw_seq ?_
          refine aw_region ?_
          refine st_p (mv rfl) rfl ?_
          refine st_p (mv rfl) rfl ?_
          refine st_p (op_leno Try.underlying35 rfl) rfl ?_
          refine st_p (OpP.conv (op_lt rfl rfl) (yes (by first | assumption | omega))) rfl ?_
          refine al_nil ?_
          refine nm ?_
          -- IF t13
          refine aw_yes (rfl) ?_
          refine aw_skip ?_
          refine nm ?_
          refine aw_seq ?_
          refine aw_block ?_
          refine aw_seq ?_
          refine dr_go ?_
          refine dr_f 0 0 [0] rfl (fun H => mv rfl) ?_
          refine dr_f 0 0 [3] rfl (fun H => mv rfl) ?_
          refine dr_q 0 0 [16, 17] rfl (op_indexAddr Try.underlying35 z3 rfl rfl rfl (by omega) (by omega)) ?_
          refine dr_q 0 0 [18] rfl (op_load1 Try.underlying3 rfl rfl rfl (by assumption) rfl) ?_
          refine dr_f 0 0 [0] rfl (fun H => mv rfl) ?_
          refine dr_f 0 0 [3] rfl (fun H => mv rfl) ?_
          refine dr_f 0 0 [21] rfl (fun H => op_subi rfl rfl (by omega)) ?_
          refine dr_q 0 0 [20, 22] rfl (op_indexAddr Try.underlying35 z3 rfl rfl rfl (by omega) (by omega)) ?_
          refine dr_q 0 0 [23] rfl (op_load1 Try.underlying3 rfl rfl rfl (by assumption) rfl) ?_
          refine dr_f 0 0 [19, 24] rfl (fun H => OpP.conv (op_eq rfl rfl) (no (by first | assumption | omega))) ?_
          refine dr_end [] (by kernel_rfl) (by kernel_rfl) (by kernel_rfl) (by kernel_rfl) trivial ?_
          refine nm ?_
          -- IF t25
          refine aw_no (rfl) ?_
          refine aw_skip ?_
          refine nmb ?_
          refine nm ?_
          refine aw_region ?_
          refine st_p (mv rfl) rfl ?_
          refine st_p (op_addi rfl rfl (by omega)) rfl ?_
          refine st_p (mva rfl) rfl ?_
          refine al_nil ?_
          refine nm ?_
          refine ⟨⟨k + 1, by omega, hk, ?_⟩, by dsimp only; omega, le_to [] rfl rfl rfl rfl rfl ⟨rfl, rfl, trivial⟩ ⟨by rw [ren_intsB]; rfl, trivial⟩⟩
          rw [ht, k3, List.take_add_one, List.getD_eq_getElem?_getD, List.getElem?_eq_getElem hk]; rfl
      · have ha : adjL l = l := by rw [List.take_of_length_le (by omega)] at k3; exact k3
        refine aw_seq ?_
        refine aw_seq ?_
        refine aw_region ?_
        refine st_p (mv rfl) rfl ?_
        refine st_p (mv rfl) rfl ?_
        refine st_p (op_leno Try.underlying35 rfl) rfl ?_
        refine st_p (OpP.conv (op_lt rfl rfl) (no (by first | assumption | omega))) rfl ?_
        refine al_nil ?_
        refine nm ?_
        -- IF t13
        refine aw_no (rfl) ?_
        refine aw_exit ?_
        refine xs ?_
        refine xs ?_
        refine xb ?_
        refine nm ?_
        refine aw_seq ?_
        refine aw_region ?_
        refine st_p (mv rfl) rfl ?_
        refine st_p (mva rfl) rfl ?_
        refine al_nil ?_
        refine nm ?_
        refine aw_ret ?_
        rw [ha]
        exact ret_a ⟨[(2, .own 0 0 l.length)], [(0, .cells 1 (ints l))], 1⟩ (le_to [] rfl rfl rfl rfl rfl ⟨rfl, trivial⟩ ⟨by rw [ren_intsB]; rfl, trivial⟩) (res1 Try.results96) (.inr ⟨rfl, by simp only [List.all_cons, List.all_nil, hns, Bool.and_true]⟩) ⟨rfl, rfl, rfl⟩

end Go.Proofs.Ytloddmbbfkejcaa.Abs
end
section
/-
  txn.Reads: the shards of what is read.
-/
namespace Go.Proofs.Ytloddmbbfkejcaa.Abs

def shardsL (ks : List (List UInt8)) (n : Int) : List Int := ks.map (fun k => shardI k n)
def readsL (ks : List (List UInt8)) (n : Int) : List Int := adjL (sortL (shardsL ks n) ((shardsL ks n).length - 1))

theorem shardsL_len (ks : List (List UInt8)) (n : Int) : (shardsL ks n).length = ks.length := List.length_map _

set_option maxHeartbeats 4000000 in
theorem txn_Reads (t : TX) (n : Int) (hr : t.reads.length ≤ 12) (hw : t.writes.length ≤ 1000000) (hkr : ∀ r ∈ t.reads, r.key.length ≤ 281474976710656) (hn : n ≤ 9223372036854775807) :
    AC Try.prog 29 [txA t, .int .i64 n] [] 0 false (fun v h nx => v = .own 0 0 (readsL (t.reads.map RD.key) n).length ∧ h = [(0, .cells 1 (ints (readsL (t.reads.map RD.key) n)))] ∧ nx = 1) := by
  have hkeys := txn_keys t (by omega) hw
  have hsh : ∀ r ∈ t.reads, AC Try.prog 94 [sb r.key, .int .i64 n] [] 0 false (fun v h nx => v = .int .i64 (shardI r.key n) ∧ h = [] ∧ nx = 0) := fun r hm => key_Shard r.key n (hkr r hm) hn
  have hns : ∀ m : List Int, (Blk.cells 1 (ints m)).nosl = true := fun m => by simp [Blk.nosl, AV.nosl, ints]
  have hL : ((t.reads.map RD.key).map (fun k => shardI k n)) = t.reads.map fun r => shardI r.key n := by rw [List.map_map]; rfl
  have hsort : ∀ l : List Int, l.length ≤ 12 → _ := sort_few
  have hcomp : ∀ l : List Int, l.length ≤ 1000000 → _ := compact_ints
  unfold readsL shardsL
  rw [hL]
  obtain ⟨ses, seq, rl, wl⟩ := t
  dsimp only [txA] at hkeys hr hw hsh ⊢
  have hkl : (rl.map fun r => sb r.key).length = rl.length := List.length_map _
  have hkp : (rl.map fun r => sb r.key).all AV.plain = true := by simp [AV.plain, plains, sb]
  have hwp : (wl.map fun w => sb w.key).all AV.plain = true := by simp [AV.plain, plains, sb]
  have hwl : (wl.map fun w => sb w.key).length = wl.length := List.length_map _
  have hll : (rl.map fun r => shardI r.key n).length = rl.length := List.length_map _
  refine ac_fn Try.func29 rfl rfl rfl rfl (fun w0 S0 r0 => ?_)
  refine aw_seq ?_
  refine aw_region ?_
  refine st_o (bx rfl rfl) rfl ?_
  refine st_p (mva rfl) rfl ?_
  refine al_nil ?_
  refine nm ?_
  refine aw_seq ?_
  refine aw_region ?_
  refine st_p (op_loadA Try.underlying26 rfl z26 rfl rfl rfl rfl) rfl ?_
  -- STOP: call diwan/txn.keys(t10) -> 11
  refine st_o ((op_callq (hkeys) Try.func76 ⟨rfl, rfl⟩ rfl rfl (fun nx => (.cons (.same (by rfl)) .nil)) (by rintro _ _ _ ⟨rfl, rfl, rfl⟩; exact (Fzs.tup (.cons (.whole rfl hkl.symm hkp) (.cons (.whole rfl hwl.symm hwp) .nil))))).ok) rfl ?_
  refine st_p (mv rfl) rfl ?_
  refine st_p (op_extract rfl rfl) rfl ?_
  refine st_p (op_extract rfl rfl) rfl ?_
  refine st_p (mva rfl) rfl ?_
  refine st_p (mva rfl) rfl ?_
  refine al_nil ?_
  refine nm ?_
  refine aw_seq ?_
  refine aw_seq ?_
  refine aw_region ?_
  refine st_p (mv rfl) rfl ?_
  refine st_p (op_len Try.underlying74 rfl) rfl ?_
  refine st_p (mv rfl) rfl ?_
  refine al_nil ?_
  refine nm ?_
  refine aw_block ?_
  -- LOOP
  refine aw_virt 4 1 rfl ?_
  refine aw_loop (fun i : {i : Nat // i ≤ rl.length} => ⟨[(1, .int .i64 n), (4, .own 0 0 i.1), (14, .sl 1 (rl.map fun r => sb r.key)), (15, .int .i64 rl.length), (16, .int .i64 i.1)], [(0, .cells 1 (ints ((rl.map fun r => shardI r.key n).take i.1)))], 1⟩) (fun i => rl.length - i.1) ⟨0, Nat.zero_le _⟩ ?_ ?_
  · exact le_to [(0, 1)] rfl rfl rfl rfl rfl ⟨rfl, rfl, rfl, by rw [← hkl]; rfl, rfl, trivial⟩ ⟨by rw [ren_intsB]; rfl, trivial⟩
  · rintro ⟨i, hi⟩
    dsimp only
    by_cases hlt : i < rl.length
    · obtain ⟨x, hx⟩ : ∃ x, rl[i]? = some x := ⟨_, List.getElem?_eq_getElem hlt⟩
      have hxb : (rl.map fun r => sb r.key)[((i : Nat) : Int).toNat]? = some (sb x.key) := by rw [Int.toNat_natCast, List.getElem?_map, hx]; rfl
      have hs := hsh x (List.mem_of_getElem? hx)
      have hit : (ints ((rl.map fun r => shardI r.key n).take i)).length = i := by rw [ints_len, List.length_take]; omega
      refine aw_seq ?_
      refine aw_region ?_
      refine st_p (OpP.conv (op_lt rfl rfl) (yes (by first | assumption | omega))) rfl ?_
      refine al_nil ?_
      refine nm ?_
      refine aw_seq ?_
      -- IF t17
      refine aw_yes (rfl) ?_
      refine aw_skip ?_
      refine nm ?_
      refine aw_seq ?_
      refine aw_block ?_
      refine aw_seq ?_
      refine aw_region ?_
      refine st_p (op_indexAddrL Try.underlying74 z9 rfl rfl (by omega) (by first | assumption | rfl)) rfl ?_
      refine st_p (op_load1L Try.underlying9 rfl rfl rfl) rfl ?_
      refine st_p (mva rfl) rfl ?_
      refine al_nil ?_
      refine nm ?_
      refine aw_region ?_
      refine st_p (mv rfl) rfl ?_
      refine st_p (mv rfl) rfl ?_
      refine st_p (mv rfl) rfl ?_
      -- STOP: call diwan/key.Shard(t21, t22) -> 23
      refine st_o ((op_callq (hs) Try.func94 ⟨rfl, rfl⟩ rfl rfl (fun nx => (.cons (.same (by rfl)) (.cons (.same (by rfl)) .nil))) (by rintro _ _ _ ⟨rfl, rfl, rfl⟩; exact .same rfl)).ok) rfl ?_
      refine st_o (bsl Try.underlying35 i3 o3 (by decide) rfl rfl rfl (by decide)) rfl ?_
      refine st_o (op_app Try.underlying35 Try.underlying35 (.inl ⟨_, rfl⟩) i3 o3 rfl rfl rfl (by first | rfl | omega | (simp; done) | (simp; omega)) ((SrcA.whole rfl (by first | rfl | simp)).ok rfl (by intro z hz; simp only [List.mem_singleton, List.drop_zero, List.take_succ_cons, List.take_zero, List.mem_cons, List.not_mem_nil, or_false, List.mem_map] at hz; first | (subst hz; rfl) | (obtain ⟨_, _, rfl⟩ := hz; rfl) | (rcases hz with rfl | rfl <;> rfl))) (by simp; try omega) rfl) rfl ?_
      refine st_p (mva rfl) rfl ?_
      refine al_nil ?_
      refine nmb ?_
      refine nm ?_
      refine aw_region ?_
      refine st_p (op_addi rfl rfl (by omega)) rfl ?_
      refine st_p (mv rfl) rfl ?_
      refine al_nil ?_
      refine nm ?_
      refine ⟨⟨i + 1, hlt⟩, by dsimp only; omega, le_to [(0, 2)] rfl rfl rfl rfl rfl ⟨rfl, ?_, rfl, rfl, rfl, trivial⟩ ⟨?_, trivial⟩⟩
      · simp only [tget, AV.ren, swp]
        simp [hit]
      · rw [ren_intsB, List.take_add_one, List.getElem?_map, hx]
        simp [hget, swp, ints]
    · have hin : i = rl.length := by omega
      subst hin
      rw [List.take_of_length_le (by omega)]
      have hs0 := hsort (rl.map fun r => shardI r.key n) (by omega)
      have hc0 := hcomp (sortL (rl.map fun r => shardI r.key n) ((rl.map fun r => shardI r.key n).length - 1)) (by rw [sortL_len]; omega)
      rw [sortL_len] at hc0
      generalize sortL (rl.map fun r => shardI r.key n) ((rl.map fun r => shardI r.key n).length - 1) = M at hs0 hc0 ⊢
      rw [hll] at hs0 hc0
      refine aw_seq ?_
      refine aw_region ?_
      refine st_p (OpP.conv (op_lt rfl rfl) (no (by first | assumption | omega))) rfl ?_
      refine al_nil ?_
      refine nm ?_
      refine aw_seq ?_
      -- IF t17
      refine aw_no (rfl) ?_
      refine aw_exit ?_
      refine xs ?_
      refine xs ?_
      refine xb ?_
      refine nm ?_
      refine aw_seq ?_
      refine aw_region ?_
      refine st_p (mv rfl) rfl ?_
      -- STOP: call slices.Sort[[]int,int](t27) -> 28
      refine st_o (op_callg [(0, 0)] 1 false [(0, .cells 1 (ints (rl.map fun r => shardI r.key n)))] [0] (hs0) Try.func95 ⟨rfl, rfl⟩ rfl rfl rfl rfl (by omega) (by intro p hp; simp only [List.mem_cons, List.not_mem_nil, or_false] at hp; rcases hp with rfl | rfl | rfl <;> exact ⟨by first | rfl | ((simp [hget, swp, Blk.ren, AV.ren, ints, Function.comp_def]) <;> rfl), rfl⟩) rfl (.cons (.same (by rfl)) .nil) rfl rfl rfl) rfl ?_
      refine al_nil ?_
      refine nm ?_
      refine aw_seq ?_
      refine aw_region ?_
      refine st_p (mv rfl) rfl ?_
      -- STOP: call slices.Compact[[]int,int](t29) -> 30
      refine st_o (op_callg [(0, 0)] 1 false [(0, .cells 1 (ints M))] [0] (hc0) Try.func96 ⟨rfl, rfl⟩ rfl rfl rfl rfl (by omega) (by intro p hp; simp only [List.mem_cons, List.not_mem_nil, or_false] at hp; rcases hp with rfl | rfl <;> exact ⟨by first | rfl | ((simp [hget, swp, Blk.ren, AV.ren, ints, Function.comp_def]) <;> rfl), rfl⟩) rfl (.cons (.same (by rfl)) .nil) rfl rfl rfl) rfl ?_
      refine st_p (mva rfl) rfl ?_
      refine al_nil ?_
      refine nm ?_
      refine aw_ret ?_
      refine ret_a ⟨[(4, .own 0 0 (adjL M).length)], [(0, .cells 1 (ints (adjL M)))], 1⟩ (le_to [] rfl rfl rfl rfl rfl ⟨rfl, trivial⟩ ⟨by simp only [List.map_cons, List.map_nil, ren_intsB]; rfl, trivial⟩) (res1 Try.results29) (.inr ⟨rfl, by simp only [List.all_cons, List.all_nil, hns, Bool.and_true]⟩) ⟨rfl, rfl, rfl⟩

end Go.Proofs.Ytloddmbbfkejcaa.Abs
end
section
/-
  slices.Grow of nothing, slices.Concat of rows of texts. Printed by gen_ConcatS.py.
-/
namespace Go.Proofs.Ytloddmbbfkejcaa.Abs

abbrev sbs (l : List (List UInt8)) : List AV := l.map sb
theorem sbs_len (l : List (List UInt8)) : (sbs l).length = l.length := List.length_map _
theorem sbs_app (l m : List (List UInt8)) : sbs (l ++ m) = sbs l ++ sbs m := List.map_append
theorem ren_sbs (σ : Nat → Nat) (l : List (List UInt8)) : (sbs l).map (AV.ren σ) = sbs l := by simp [sbs, sb, AV.ren, Function.comp_def]

theorem grow_strs (m : Nat) (hm : 0 < m) (hb : m ≤ 8796093022208) : AC Try.prog 145 [.nils, .int .i64 (m : Int)] [] 0 false (fun v h nx => v = .own 0 0 0 ∧ h = [(0, .cells 1 [])] ∧ nx = 1) := by
  refine ac_fn Try.func145 rfl rfl rfl rfl (fun w0 S0 r0 => ?_)
  refine aw_seq ?_
  refine aw_region ?_
  refine st_p (mva rfl) rfl ?_
  refine al_nil ?_
  refine nm ?_
  refine aw_seq ?_
  refine aw_seq ?_
  refine aw_region ?_
  refine st_p (mv rfl) rfl ?_
  refine st_p (OpP.conv (op_lt rfl rfl) (no (by first | assumption | omega))) rfl ?_
  refine al_nil ?_
  refine nm ?_
  -- IF t6
  refine aw_no (rfl) ?_
  refine aw_skip ?_
  refine nm ?_
  refine aw_seq ?_
  refine aw_seq ?_
  refine aw_region ?_
  refine st_p (mv rfl) rfl ?_
  refine st_p (mv rfl) rfl ?_
  refine st_p (op_capN Try.underlying74 rfl) rfl ?_
  refine st_p (mv rfl) rfl ?_
  refine st_p (op_lenn Try.underlying74 rfl) rfl ?_
  refine st_p (op_subi rfl rfl (by omega)) rfl ?_
  refine st_p (op_subi rfl rfl (by omega)) rfl ?_
  refine st_p (mva rfl) rfl ?_
  refine al_nil ?_
  refine nm ?_
  refine aw_seq ?_
  refine aw_region ?_
  refine st_p (mv rfl) rfl ?_
  refine st_p (OpP.conv (op_gt rfl rfl) (yes (by first | assumption | omega))) rfl ?_
  refine al_nil ?_
  refine nm ?_
  -- IF t16
  -- IF t16
  refine aw_yes (rfl) ?_
  refine aw_region ?_
  refine st_p (mv rfl) rfl ?_
  refine st_p (mv rfl) rfl ?_
  refine st_p (op_capN Try.underlying74 rfl) rfl ?_
  refine st_p (op_sliceN Try.underlying74 z9 rfl rfl) rfl ?_
  refine st_p (mv rfl) rfl ?_
  refine st_o (op_appZi Try.underlying74 Try.underlying3 i9 o9 (by decide) rfl rfl (by omega) (by omega) (by omega)) rfl ?_
  refine st_p (mv rfl) rfl ?_
  refine st_p (op_lenn Try.underlying74 rfl) rfl ?_
  refine st_p (op_slice Try.underlying74 z9 rfl rfl (by exact rfl) (by exact ⟨_, rfl⟩) (by first | omega | (simp only [bl_len, List.length_map, List.length_append, List.length_take, List.length_drop]; omega)) (by first | omega | (simp only [bl_len, List.length_map, List.length_append, List.length_take, List.length_drop]; omega)) (by first | omega | (simp only [bl_len, List.length_map, List.length_append, List.length_take, List.length_drop]; omega))) rfl ?_
  refine st_p (mva rfl) rfl ?_
  refine al_nil ?_
  refine nm ?_
  refine aw_seq ?_
  refine aw_region ?_
  refine st_p (mv rfl) rfl ?_
  refine st_p (mva rfl) rfl ?_
  refine al_nil ?_
  refine nm ?_
  refine aw_ret ?_
  exact ret_a ⟨[(4, .own 0 0 0)], [(0, .cells 1 [])], 1⟩ (le_to [(0, 0)] rfl rfl rfl rfl rfl ⟨rfl, trivial⟩ ⟨rfl, trivial⟩) (res1 Try.results145) (.inr ⟨rfl, rfl⟩) ⟨rfl, rfl, rfl⟩

theorem grow_nostrs : AC Try.prog 145 [.nils, .int .i64 0] [] 0 false (fun v h nx => v = .nils ∧ h = [] ∧ nx = 0) := by
  refine ac_fn Try.func145 rfl rfl rfl rfl (fun w0 S0 r0 => ?_)
  refine aw_seq ?_
  refine aw_region ?_
  refine st_p (mva rfl) rfl ?_
  refine al_nil ?_
  refine nm ?_
  refine aw_seq ?_
  refine aw_seq ?_
  refine aw_region ?_
  refine st_p (mv rfl) rfl ?_
  refine st_p (OpP.conv (op_lt rfl rfl) (no (by first | assumption | omega))) rfl ?_
  refine al_nil ?_
  refine nm ?_
  -- IF t6
  refine aw_no (rfl) ?_
  refine aw_skip ?_
  refine nm ?_
  refine aw_seq ?_
  refine aw_seq ?_
  refine aw_region ?_
  refine st_p (mv rfl) rfl ?_
  refine st_p (mv rfl) rfl ?_
  refine st_p (op_capN Try.underlying74 rfl) rfl ?_
  refine st_p (mv rfl) rfl ?_
  refine st_p (op_lenn Try.underlying74 rfl) rfl ?_
  refine st_p (op_subi rfl rfl (by omega)) rfl ?_
  refine st_p (op_subi rfl rfl (by omega)) rfl ?_
  refine st_p (mva rfl) rfl ?_
  refine al_nil ?_
  refine nm ?_
  refine aw_seq ?_
  refine aw_region ?_
  refine st_p (mv rfl) rfl ?_
  refine st_p (OpP.conv (op_gt rfl rfl) (no (by first | assumption | omega))) rfl ?_
  refine al_nil ?_
  refine nm ?_
  -- IF t16
  -- IF t16
  refine aw_no (rfl) ?_
  refine aw_skip ?_
  refine nm ?_
  refine aw_seq ?_
  refine aw_region ?_
  refine st_p (mv rfl) rfl ?_
  refine st_p (mva rfl) rfl ?_
  refine al_nil ?_
  refine nm ?_
  refine aw_ret ?_
  exact ret_v (res1 Try.results145) (.inr ⟨rfl, rfl⟩) ⟨rfl, rfl, rfl⟩

theorem concat_strs (ll : List (List (List UInt8))) (hl : ll.length ≤ 1000000) (ht : ll.flatten.length ≤ 1000000) : AC Try.prog 98 [.sl 1 (ll.map fun l => .sl 1 (sbs l))] [] 0 false (fun v h nx => v = .own 0 0 ll.flatten.length ∧ h = [(0, .cells 1 (sbs ll.flatten))] ∧ nx = 1) := by
  have hlm : (ll.map fun l => AV.sl 1 (sbs l)).length = ll.length := List.length_map _
  have hsum : ∀ (i : Nat) (x : List (List UInt8)), ll[i]? = some x → (ll.take (i + 1)).flatten.length = (ll.take i).flatten.length + x.length ∧ (ll.take i).flatten.length + x.length ≤ 1000000 := fun i x hx => by
    have h1 : (ll.take (i + 1)).flatten = (ll.take i).flatten ++ x := by rw [List.take_add_one, hx]; simp
    have h2 : ll.flatten = (ll.take (i + 1)).flatten ++ (ll.drop (i + 1)).flatten := by rw [← List.flatten_append, List.take_append_drop]
    have h3 := congrArg List.length h2
    rw [h1, List.length_append, List.length_append] at h3
    rw [h1, List.length_append]
    omega
  refine ac_fn Try.func98 rfl rfl rfl rfl (fun w0 S0 r0 => ?_)
  refine aw_seq ?_
  refine aw_region ?_
  refine st_p (mva rfl) rfl ?_
  refine al_nil ?_
  refine nm ?_
  refine aw_seq ?_
  refine aw_region ?_
  refine st_p (mva rfl) rfl ?_
  refine al_nil ?_
  refine nm ?_
  refine aw_seq ?_
  refine aw_seq ?_
  refine aw_region ?_
  refine st_p (mv rfl) rfl ?_
  refine st_p (op_len Try.underlying196 rfl) rfl ?_
  refine st_p (mv rfl) rfl ?_
  refine al_nil ?_
  refine nm ?_
  refine aw_block ?_
  -- LOOP
  refine aw_loop (fun i : {i : Nat // i ≤ ll.length} => ⟨[(0, .sl 1 (ll.map fun l => .sl 1 (sbs l))), (3, .int .i64 (ll.take i.1).flatten.length), (9, .sl 1 (ll.map fun l => .sl 1 (sbs l))), (10, .int .i64 ll.length), (11, .int .i64 i.1)], [], 0⟩) (fun i => ll.length - i.1) ⟨0, Nat.zero_le _⟩ ?_ ?_
  · exact le_to [] rfl rfl rfl rfl rfl ⟨rfl, rfl, rfl, by rw [← hlm]; rfl, rfl, trivial⟩ trivial
  · rintro ⟨i, hi⟩
    dsimp only
    by_cases hlt : i < ll.length
    · obtain ⟨x, hx⟩ : ∃ x, ll[i]? = some x := ⟨_, List.getElem?_eq_getElem hlt⟩
      have hxb : (ll.map fun l => AV.sl 1 (sbs l))[((i : Nat) : Int).toNat]? = some (.sl 1 (sbs x)) := by rw [Int.toNat_natCast, List.getElem?_map, hx]; rfl
      have hstep := hsum i x hx
      have hblx : (sbs x).length = x.length := sbs_len _
      refine aw_seq ?_
      refine aw_region ?_
      refine st_p (OpP.conv (op_lt rfl rfl) (yes (by first | assumption | omega))) rfl ?_
      refine al_nil ?_
      refine nm ?_
      refine aw_seq ?_
      -- IF t12
      refine aw_yes (rfl) ?_
      refine aw_skip ?_
      refine nm ?_
      refine aw_seq ?_
      refine aw_block ?_
      refine aw_seq ?_
      refine aw_region ?_
      refine st_p (op_indexAddrL Try.underlying196 z74 rfl rfl (by omega) (by first | assumption | rfl)) rfl ?_
      refine st_p (op_load1L Try.underlying74 rfl rfl rfl) rfl ?_
      refine st_p (mva rfl) rfl ?_
      refine al_nil ?_
      refine nm ?_
      refine aw_seq ?_
      refine aw_region ?_
      refine st_p (mv rfl) rfl ?_
      refine st_p (mv rfl) rfl ?_
      refine st_p (op_len Try.underlying74 rfl) rfl ?_
      refine st_p (op_addi rfl rfl (by omega)) rfl ?_
      refine st_p (mva rfl) rfl ?_
      refine al_nil ?_
      refine nm ?_
      refine aw_seq ?_
      refine aw_region ?_
      refine st_p (mv rfl) rfl ?_
      refine st_p (OpP.conv (op_lt rfl rfl) (no (by first | assumption | omega))) rfl ?_
      refine al_nil ?_
      refine nm ?_
      -- IF t20
      refine aw_no (rfl) ?_
      refine aw_skip ?_
      refine nmb ?_
      refine nm ?_
      refine aw_region ?_
      refine st_p (op_addi rfl rfl (by omega)) rfl ?_
      refine st_p (mv rfl) rfl ?_
      refine al_nil ?_
      refine nm ?_
      refine ⟨⟨i + 1, hlt⟩, by dsimp only; omega, le_to [] rfl rfl rfl rfl rfl ⟨rfl, ?_, rfl, rfl, rfl, trivial⟩ trivial⟩
      show AV.int .i64 (((ll.take i).flatten.length : Int) + ((sbs x).length : Nat)) = AV.int .i64 ((ll.take (i + 1)).flatten.length : Nat)
      congr 1
      omega
    · have e : ll.take i = ll := List.take_of_length_le (by omega)
      rw [e]
      by_cases hz : ll.flatten.length = 0
      · have hg : AC Try.prog 145 [.nils, .int .i64 (ll.flatten.length : Int)] [] 0 false (fun v h nx => v = .nils ∧ h = [] ∧ nx = 0) := by
          rw [hz]
          exact grow_nostrs
        refine aw_seq ?_
        refine aw_region ?_
        refine st_p (OpP.conv (op_lt rfl rfl) (no (by first | assumption | omega))) rfl ?_
        refine al_nil ?_
        refine nm ?_
        refine aw_seq ?_
        -- IF t12
        refine aw_no (rfl) ?_
        refine aw_exit ?_
        refine xs ?_
        refine xs ?_
        refine xb ?_
        refine nm ?_
        refine aw_seq ?_
        refine aw_region ?_
        refine st_p (mv rfl) rfl ?_
        -- STOP: call slices.Grow[[]string,string](('app', 'Operand.const', [('app', 'Value.slice', ['none', 0, 0])]), t23) -> 24
        refine st_call0 (hg) Try.func145 ⟨rfl, rfl⟩ rfl (.cons (.same (by rfl)) (.cons (.same (by rfl)) .nil)) rfl ?_
        rintro _ _ _ ⟨rfl, rfl, rfl⟩ r2 h2 n2 hr hh hn
        simp only [AV.ren, rens, Blk.ren, swp, List.map_cons, List.map_nil, List.cons_append, List.nil_append, List.append_nil, Nat.not_lt_zero, if_false, Nat.reduceAdd, Nat.zero_add, Nat.add_zero, ren_bl] at hr hh hn
        subst hr hh hn
        refine st_p (mva rfl) rfl ?_
        refine al_nil ?_
        refine nm ?_
        refine aw_seq ?_
        refine aw_seq ?_
        refine aw_region ?_
        refine st_p (mv rfl) rfl ?_
        refine st_p (op_len Try.underlying196 rfl) rfl ?_
        refine st_p (mv rfl) rfl ?_
        refine al_nil ?_
        refine nm ?_
        refine aw_block ?_
        -- LOOP
        refine aw_virt 6 1 rfl ?_
        refine aw_loop (fun j : {j : Nat // j ≤ ll.length} => ⟨[(6, .own 0 0 (ll.take j.1).flatten.length), (25, .sl 1 (ll.map fun l => .sl 1 (sbs l))), (26, .int .i64 ll.length), (27, .int .i64 j.1)], [(0, .cells 1 (sbs (ll.take j.1).flatten))], 1⟩) (fun j => ll.length - j.1) ⟨0, Nat.zero_le _⟩ ?_ ?_
        · exact le_to [(0, 0)] rfl rfl rfl rfl rfl ⟨rfl, rfl, by rw [← hlm]; rfl, rfl, trivial⟩ ⟨rfl, trivial⟩
        · rintro ⟨j, hj⟩
          dsimp only
          by_cases hjt : j < ll.length
          · obtain ⟨x, hx⟩ : ∃ x, ll[j]? = some x := ⟨_, List.getElem?_eq_getElem hjt⟩
            have hxb : (ll.map fun l => AV.sl 1 (sbs l))[((j : Nat) : Int).toNat]? = some (.sl 1 (sbs x)) := by rw [Int.toNat_natCast, List.getElem?_map, hx]; rfl
            have hstep := hsum j x hx
            have hblk : (sbs (ll.take j).flatten).length = (ll.take j).flatten.length := sbs_len _
            have hblx : (sbs x).length = x.length := sbs_len _
            have hfl : (ll.take (j + 1)).flatten = (ll.take j).flatten ++ x := by rw [List.take_add_one, hx]; simp
            generalize hq : (ll.take j).flatten = q at hstep hblk hfl ⊢
            refine aw_seq ?_
            refine aw_region ?_
            refine st_p (OpP.conv (op_lt rfl rfl) (yes (by first | assumption | omega))) rfl ?_
            refine al_nil ?_
            refine nm ?_
            refine aw_seq ?_
            -- IF t28
            refine aw_yes (rfl) ?_
            refine aw_skip ?_
            refine nm ?_
            refine aw_seq ?_
            refine aw_block ?_
            refine aw_seq ?_
            refine aw_region ?_
            refine st_p (op_indexAddrL Try.underlying196 z74 rfl rfl (by omega) (by first | assumption | rfl)) rfl ?_
            refine st_p (op_load1L Try.underlying74 rfl rfl rfl) rfl ?_
            refine st_p (mva rfl) rfl ?_
            refine al_nil ?_
            refine nm ?_
            refine aw_region ?_
            refine st_p (mv rfl) rfl ?_
            refine st_p (mv rfl) rfl ?_
            refine st_o (op_app Try.underlying74 Try.underlying74 (.inl ⟨_, rfl⟩) i9 o9 rfl rfl rfl (by first | rfl | omega | (simp; done) | (simp; omega)) ((SrcA.sl (.inr trivial)).ok rfl (by intro z hz; simp only [List.mem_singleton, List.drop_zero, List.take_succ_cons, List.take_zero, List.mem_cons, List.not_mem_nil, or_false, List.mem_map] at hz; first | (subst hz; rfl) | (obtain ⟨_, _, rfl⟩ := hz; rfl) | (rcases hz with rfl | rfl <;> rfl))) (by simp; try omega) rfl) rfl ?_
            refine st_p (mva rfl) rfl ?_
            refine al_nil ?_
            refine nmb ?_
            refine nm ?_
            refine aw_region ?_
            refine st_p (op_addi rfl rfl (by omega)) rfl ?_
            refine st_p (mv rfl) rfl ?_
            refine al_nil ?_
            refine nm ?_
            refine ⟨⟨j + 1, hjt⟩, by dsimp only; omega, le_to [(0, 1)] rfl rfl rfl rfl rfl ⟨?_, rfl, rfl, rfl, trivial⟩ ⟨?_, trivial⟩⟩
            · rw [hfl]; simp [AV.ren, tget, swp]
            · rw [hfl]; simp only [Blk.ren, hget, swp, List.map_append, ren_sbs, sbs_app]; rfl
          · have e : ll.take j = ll := List.take_of_length_le (by omega)
            refine aw_seq ?_
            refine aw_region ?_
            refine st_p (OpP.conv (op_lt rfl rfl) (no (by first | assumption | omega))) rfl ?_
            refine al_nil ?_
            refine nm ?_
            refine aw_seq ?_
            -- IF t28
            refine aw_no (rfl) ?_
            refine aw_exit ?_
            refine xs ?_
            refine xs ?_
            refine xb ?_
            refine nm ?_
            refine aw_seq ?_
            refine aw_region ?_
            refine st_p (mv rfl) rfl ?_
            refine st_p (mva rfl) rfl ?_
            refine al_nil ?_
            refine nm ?_
            refine aw_ret ?_
            refine ret_a ⟨[(2, .own 0 0 ll.flatten.length)], [(0, .cells 1 (sbs ll.flatten))], 1⟩ (le_to [(0, 0)] rfl rfl rfl rfl rfl ⟨by rw [e]; rfl, trivial⟩ ⟨by rw [e]; simp only [Blk.ren, hget, ren_sbs]; rfl, trivial⟩) (res1 Try.results98) (.inr ⟨rfl, by simp [Blk.nosl, AV.nosl, sbs, sb]⟩) ⟨rfl, rfl, rfl⟩
      · have hg := grow_strs ll.flatten.length (by omega) (by omega)
        refine aw_seq ?_
        refine aw_region ?_
        refine st_p (OpP.conv (op_lt rfl rfl) (no (by first | assumption | omega))) rfl ?_
        refine al_nil ?_
        refine nm ?_
        refine aw_seq ?_
        -- IF t12
        refine aw_no (rfl) ?_
        refine aw_exit ?_
        refine xs ?_
        refine xs ?_
        refine xb ?_
        refine nm ?_
        refine aw_seq ?_
        refine aw_region ?_
        refine st_p (mv rfl) rfl ?_
        -- STOP: call slices.Grow[[]string,string](('app', 'Operand.const', [('app', 'Value.slice', ['none', 0, 0])]), t23) -> 24
        refine st_call0 (hg) Try.func145 ⟨rfl, rfl⟩ rfl (.cons (.same (by rfl)) (.cons (.same (by rfl)) .nil)) rfl ?_
        rintro _ _ _ ⟨rfl, rfl, rfl⟩ r2 h2 n2 hr hh hn
        simp only [AV.ren, rens, Blk.ren, swp, List.map_cons, List.map_nil, List.cons_append, List.nil_append, List.append_nil, Nat.not_lt_zero, if_false, Nat.reduceAdd, Nat.zero_add, Nat.add_zero, ren_bl] at hr hh hn
        subst hr hh hn
        refine st_p (mva rfl) rfl ?_
        refine al_nil ?_
        refine nm ?_
        refine aw_seq ?_
        refine aw_seq ?_
        refine aw_region ?_
        refine st_p (mv rfl) rfl ?_
        refine st_p (op_len Try.underlying196 rfl) rfl ?_
        refine st_p (mv rfl) rfl ?_
        refine al_nil ?_
        refine nm ?_
        refine aw_block ?_
        -- LOOP
        refine aw_loop (fun j : {j : Nat // j ≤ ll.length} => ⟨[(6, .own 0 0 (ll.take j.1).flatten.length), (25, .sl 1 (ll.map fun l => .sl 1 (sbs l))), (26, .int .i64 ll.length), (27, .int .i64 j.1)], [(0, .cells 1 (sbs (ll.take j.1).flatten))], 1⟩) (fun j => ll.length - j.1) ⟨0, Nat.zero_le _⟩ ?_ ?_
        · exact le_to [(0, 0)] rfl rfl rfl rfl rfl ⟨rfl, rfl, by rw [← hlm]; rfl, rfl, trivial⟩ ⟨rfl, trivial⟩
        · rintro ⟨j, hj⟩
          dsimp only
          by_cases hjt : j < ll.length
          · obtain ⟨x, hx⟩ : ∃ x, ll[j]? = some x := ⟨_, List.getElem?_eq_getElem hjt⟩
            have hxb : (ll.map fun l => AV.sl 1 (sbs l))[((j : Nat) : Int).toNat]? = some (.sl 1 (sbs x)) := by rw [Int.toNat_natCast, List.getElem?_map, hx]; rfl
            have hstep := hsum j x hx
            have hblk : (sbs (ll.take j).flatten).length = (ll.take j).flatten.length := sbs_len _
            have hblx : (sbs x).length = x.length := sbs_len _
            have hfl : (ll.take (j + 1)).flatten = (ll.take j).flatten ++ x := by rw [List.take_add_one, hx]; simp
            generalize hq : (ll.take j).flatten = q at hstep hblk hfl ⊢
            refine aw_seq ?_
            refine aw_region ?_
            refine st_p (OpP.conv (op_lt rfl rfl) (yes (by first | assumption | omega))) rfl ?_
            refine al_nil ?_
            refine nm ?_
            refine aw_seq ?_
            -- IF t28
            refine aw_yes (rfl) ?_
            refine aw_skip ?_
            refine nm ?_
            refine aw_seq ?_
            refine aw_block ?_
            refine aw_seq ?_
            refine aw_region ?_
            refine st_p (op_indexAddrL Try.underlying196 z74 rfl rfl (by omega) (by first | assumption | rfl)) rfl ?_
            refine st_p (op_load1L Try.underlying74 rfl rfl rfl) rfl ?_
            refine st_p (mva rfl) rfl ?_
            refine al_nil ?_
            refine nm ?_
            refine aw_region ?_
            refine st_p (mv rfl) rfl ?_
            refine st_p (mv rfl) rfl ?_
            refine st_o (op_app Try.underlying74 Try.underlying74 (.inl ⟨_, rfl⟩) i9 o9 rfl rfl rfl (by first | rfl | omega | (simp; done) | (simp; omega)) ((SrcA.sl (.inr trivial)).ok rfl (by intro z hz; simp only [List.mem_singleton, List.drop_zero, List.take_succ_cons, List.take_zero, List.mem_cons, List.not_mem_nil, or_false, List.mem_map] at hz; first | (subst hz; rfl) | (obtain ⟨_, _, rfl⟩ := hz; rfl) | (rcases hz with rfl | rfl <;> rfl))) (by simp; try omega) rfl) rfl ?_
            refine st_p (mva rfl) rfl ?_
            refine al_nil ?_
            refine nmb ?_
            refine nm ?_
            refine aw_region ?_
            refine st_p (op_addi rfl rfl (by omega)) rfl ?_
            refine st_p (mv rfl) rfl ?_
            refine al_nil ?_
            refine nm ?_
            refine ⟨⟨j + 1, hjt⟩, by dsimp only; omega, le_to [(0, 1)] rfl rfl rfl rfl rfl ⟨?_, rfl, rfl, rfl, trivial⟩ ⟨?_, trivial⟩⟩
            · rw [hfl]; simp [AV.ren, tget, swp]
            · rw [hfl]; simp only [Blk.ren, hget, swp, List.map_append, ren_sbs, sbs_app]; rfl
          · have e : ll.take j = ll := List.take_of_length_le (by omega)
            refine aw_seq ?_
            refine aw_region ?_
            refine st_p (OpP.conv (op_lt rfl rfl) (no (by first | assumption | omega))) rfl ?_
            refine al_nil ?_
            refine nm ?_
            refine aw_seq ?_
            -- IF t28
            refine aw_no (rfl) ?_
            refine aw_exit ?_
            refine xs ?_
            refine xs ?_
            refine xb ?_
            refine nm ?_
            refine aw_seq ?_
            refine aw_region ?_
            refine st_p (mv rfl) rfl ?_
            refine st_p (mva rfl) rfl ?_
            refine al_nil ?_
            refine nm ?_
            refine aw_ret ?_
            refine ret_a ⟨[(2, .own 0 0 ll.flatten.length)], [(0, .cells 1 (sbs ll.flatten))], 1⟩ (le_to [(0, 0)] rfl rfl rfl rfl rfl ⟨by rw [e]; rfl, trivial⟩ ⟨by rw [e]; simp only [Blk.ren, hget, ren_sbs]; rfl, trivial⟩) (res1 Try.results98) (.inr ⟨rfl, by simp [Blk.nosl, AV.nosl, sbs, sb]⟩) ⟨rfl, rfl, rfl⟩

end Go.Proofs.Ytloddmbbfkejcaa.Abs
end
section
/-
  txn.Touches.
-/
namespace Go.Proofs.Ytloddmbbfkejcaa.Abs

theorem touch_1 (k : List UInt8) (n s : Int) (hk : k.length ≤ 281474976710656) (hn : n ≤ 9223372036854775807) :
    AC Try.prog 99 [sb k, .ptr 0 0 0, .ptr 1 0 0] [(0, .cells 1 [.int .i64 n]), (1, .cells 1 [.int .i64 s])] 2 false (fun v h nx => v = .bool (decide (shardI k n = s)) ∧ h = [(0, .cells 1 [.int .i64 n]), (1, .cells 1 [.int .i64 s])] ∧ nx = 2) := by
  have hs := key_Shard k n hk hn
  generalize shardI k n = q at hs ⊢
  by_cases h : q = s
  · rw [decide_eq_true h]
    refine ac_fn Try.func99 rfl rfl rfl rfl (fun w0 S0 r0 => ?_)
    refine aw_seq ?_
    refine aw_region ?_
    refine st_p (mva rfl) rfl ?_
    refine al_nil ?_
    refine nm ?_
    refine aw_seq ?_
    refine dr_go ?_
    refine dr_f 0 0 [0] rfl (fun H => mv rfl) ?_
    refine dr_q 0 0 [1] rfl (op_load1 Try.underlying3 rfl rfl rfl rfl rfl) ?_
    -- STOP: call diwan/key.Shard(t5, t6) -> 7
    refine dr_fq 0 0 [5, 6] rfl (fun H => op_callq (hs) Try.func94 ⟨rfl, rfl⟩ rfl rfl (fun nx => (.cons (.same (by rfl)) (.cons (.same (by rfl)) .nil))) (by rintro _ _ _ ⟨rfl, rfl, rfl⟩; exact .same rfl)) ?_
    refine dr_q 0 0 [2] rfl (op_load1 Try.underlying3 rfl rfl rfl rfl rfl) ?_
    refine dr_f 0 0 [7, 8] rfl (fun H => OpP.conv (op_eq rfl rfl) (yes (by first | assumption | omega))) ?_
    refine dr_f 0 0 [9] rfl (fun H => mva rfl) ?_
    refine dr_end [] (by kernel_rfl) (by kernel_rfl) (by kernel_rfl) (by kernel_rfl) trivial ?_
    refine nm ?_
    refine aw_ret ?_
    exact ret_a ⟨[(4, .bool true)], [(0, .cells 1 [.int .i64 n]), (1, .cells 1 [.int .i64 s])], 2⟩ (le_to [] rfl rfl rfl rfl rfl ⟨rfl, trivial⟩ ⟨rfl, rfl, trivial⟩) (res1 Try.results99) (.inr ⟨rfl, rfl⟩) ⟨rfl, rfl, rfl⟩
  · rw [decide_eq_false h]
    refine ac_fn Try.func99 rfl rfl rfl rfl (fun w0 S0 r0 => ?_)
    refine aw_seq ?_
    refine aw_region ?_
    refine st_p (mva rfl) rfl ?_
    refine al_nil ?_
    refine nm ?_
    refine aw_seq ?_
    refine dr_go ?_
    refine dr_f 0 0 [0] rfl (fun H => mv rfl) ?_
    refine dr_q 0 0 [1] rfl (op_load1 Try.underlying3 rfl rfl rfl rfl rfl) ?_
    -- STOP: call diwan/key.Shard(t5, t6) -> 7
    refine dr_fq 0 0 [5, 6] rfl (fun H => op_callq (hs) Try.func94 ⟨rfl, rfl⟩ rfl rfl (fun nx => (.cons (.same (by rfl)) (.cons (.same (by rfl)) .nil))) (by rintro _ _ _ ⟨rfl, rfl, rfl⟩; exact .same rfl)) ?_
    refine dr_q 0 0 [2] rfl (op_load1 Try.underlying3 rfl rfl rfl rfl rfl) ?_
    refine dr_f 0 0 [7, 8] rfl (fun H => OpP.conv (op_eq rfl rfl) (no (by first | assumption | omega))) ?_
    refine dr_f 0 0 [9] rfl (fun H => mva rfl) ?_
    refine dr_end [] (by kernel_rfl) (by kernel_rfl) (by kernel_rfl) (by kernel_rfl) trivial ?_
    refine nm ?_
    refine aw_ret ?_
    exact ret_a ⟨[(4, .bool false)], [(0, .cells 1 [.int .i64 n]), (1, .cells 1 [.int .i64 s])], 2⟩ (le_to [] rfl rfl rfl rfl rfl ⟨rfl, trivial⟩ ⟨rfl, rfl, trivial⟩) (res1 Try.results99) (.inr ⟨rfl, rfl⟩) ⟨rfl, rfl, rfl⟩

theorem touch_index (l : List (List UInt8)) (n s : Int) (hl : l.length ≤ 1000000) (hk : ∀ k ∈ l, k.length ≤ 281474976710656) (hn : n ≤ 9223372036854775807) :
    AC Try.prog 144 [.sl 1 (sbs l), .fn (.func 99) [] [.ptr 0 0 0, .ptr 1 0 0]] [(0, .cells 1 [.int .i64 n]), (1, .cells 1 [.int .i64 s])] 2 false
      (fun v h nx => v = .int .i64 (firstI (fun k => decide (shardI k n = s)) l) ∧ h = [(0, .cells 1 [.int .i64 n]), (1, .cells 1 [.int .i64 s])] ∧ nx = 2) := by
  have hlm : (sbs l).length = l.length := sbs_len l
  refine ac_fn Try.func144 rfl rfl rfl rfl (fun w0 S0 r0 => ?_)
  refine aw_seq ?_
  refine aw_region ?_
  refine st_p (mva rfl) rfl ?_
  refine al_nil ?_
  refine nm ?_
  refine aw_seq ?_
  refine aw_seq ?_
  refine aw_region ?_
  refine st_p (mv rfl) rfl ?_
  refine st_p (op_len Try.underlying74 rfl) rfl ?_
  refine st_p (mv rfl) rfl ?_
  refine al_nil ?_
  refine nm ?_
  refine aw_block ?_
  -- LOOP
  refine aw_loop (fun i : {i : Nat // i ≤ l.length ∧ ∀ (j : Nat) (x : List UInt8), j < i → l[j]? = some x → decide (shardI x n = s) = false} => ⟨[(0, .sl 1 (sbs l)), (1, .fn (.func 99) [] [.ptr 0 0 0, .ptr 1 0 0]), (7, .int .i64 l.length), (8, .int .i64 i.1)], [(0, .cells 1 [.int .i64 n]), (1, .cells 1 [.int .i64 s])], 2⟩) (fun i => l.length - i.1) ⟨0, Nat.zero_le _, fun j x hj => absurd hj (Nat.not_lt_zero _)⟩ ?_ ?_
  · exact le_to [] rfl rfl rfl rfl rfl ⟨rfl, rfl, by rw [← hlm]; rfl, rfl, trivial⟩ ⟨rfl, rfl, trivial⟩
  · rintro ⟨i, hi, ha⟩
    dsimp only
    by_cases hlt : i < l.length
    · obtain ⟨x, hx⟩ : ∃ x, l[i]? = some x := ⟨_, List.getElem?_eq_getElem hlt⟩
      have hxb : (sbs l)[((i : Nat) : Int).toNat]? = some (sb x) := by rw [Int.toNat_natCast, List.getElem?_map, hx]; rfl
      have hc := touch_1 x n s (hk x (List.mem_of_getElem? hx)) hn
      cases hp : decide (shardI x n = s) with
      | true =>
        rw [hp] at hc
        refine aw_seq ?_
        refine aw_region ?_
        refine st_p (OpP.conv (op_lt rfl rfl) (yes (by first | assumption | omega))) rfl ?_
        refine al_nil ?_
        refine nm ?_
        refine aw_seq ?_
        -- IF t9
        refine aw_yes (rfl) ?_
        refine aw_skip ?_
        refine nm ?_
        refine aw_seq ?_
        refine aw_block ?_
        refine aw_seq ?_
        refine aw_region ?_
        refine st_p (mv rfl) rfl ?_
        refine st_p (mva rfl) rfl ?_
        refine al_nil ?_
        refine nm ?_
        refine aw_seq ?_
        refine aw_region ?_
        refine st_p (mv rfl) rfl ?_
        refine st_p (mv rfl) rfl ?_
        refine st_p (mv rfl) rfl ?_
        refine st_p (op_indexAddrL Try.underlying74 z9 rfl rfl (by omega) (by first | assumption | rfl)) rfl ?_
        refine st_p (op_load1L Try.underlying9 rfl rfl rfl) rfl ?_
        -- STOP: call t11(t15) -> 16
        refine st_o (op_callg [(0, 0), (1, 1)] 2 false [(0, .cells 1 [.int .i64 n]), (1, .cells 1 [.int .i64 s])] [0, 1] (hc) Try.func99 ⟨rfl, rfl⟩ rfl rfl rfl rfl (by omega) (by intro p hp; simp only [List.mem_cons, List.not_mem_nil, or_false] at hp; rcases hp with rfl | rfl <;> exact ⟨by first | rfl | ((simp [hget, swp, Blk.ren, AV.ren, ints, Function.comp_def]) <;> rfl), rfl⟩) rfl (.cons (.same (by rfl)) (.cons (.same (by rfl)) (.cons (.same (by rfl)) .nil))) rfl rfl rfl) rfl ?_
        refine al_nil ?_
        refine nm ?_
        -- IF t16
        refine aw_yes (rfl) ?_
        refine aw_seq ?_
        refine aw_region ?_
        refine st_p (mv rfl) rfl ?_
        refine st_p (mva rfl) rfl ?_
        refine al_nil ?_
        refine nm ?_
        refine aw_ret ?_
        refine rb ?_
        refine rs ?_
        refine rs ?_
        refine rb ?_
        refine rs ?_
        exact ret_a ⟨[(4, .int .i64 i)], [(0, .cells 1 [.int .i64 n]), (1, .cells 1 [.int .i64 s])], 2⟩ (le_to [] rfl rfl rfl rfl rfl ⟨rfl, trivial⟩ ⟨rfl, rfl, trivial⟩) (res1 Try.results144) (.inr ⟨rfl, rfl⟩) ⟨by rw [firstI_at hx hp (fun j y hj hy => ha j y hj hy)]; rfl, rfl, rfl⟩
      | false =>
        rw [hp] at hc
        refine aw_seq ?_
        refine aw_region ?_
        refine st_p (OpP.conv (op_lt rfl rfl) (yes (by first | assumption | omega))) rfl ?_
        refine al_nil ?_
        refine nm ?_
        refine aw_seq ?_
        -- IF t9
        refine aw_yes (rfl) ?_
        refine aw_skip ?_
        refine nm ?_
        refine aw_seq ?_
        refine aw_block ?_
        refine aw_seq ?_
        refine aw_region ?_
        refine st_p (mv rfl) rfl ?_
        refine st_p (mva rfl) rfl ?_
        refine al_nil ?_
        refine nm ?_
        refine aw_seq ?_
        refine aw_region ?_
        refine st_p (mv rfl) rfl ?_
        refine st_p (mv rfl) rfl ?_
        refine st_p (mv rfl) rfl ?_
        refine st_p (op_indexAddrL Try.underlying74 z9 rfl rfl (by omega) (by first | assumption | rfl)) rfl ?_
        refine st_p (op_load1L Try.underlying9 rfl rfl rfl) rfl ?_
        -- STOP: call t11(t15) -> 16
        refine st_o (op_callg [(0, 0), (1, 1)] 2 false [(0, .cells 1 [.int .i64 n]), (1, .cells 1 [.int .i64 s])] [0, 1] (hc) Try.func99 ⟨rfl, rfl⟩ rfl rfl rfl rfl (by omega) (by intro p hp; simp only [List.mem_cons, List.not_mem_nil, or_false] at hp; rcases hp with rfl | rfl <;> exact ⟨by first | rfl | ((simp [hget, swp, Blk.ren, AV.ren, ints, Function.comp_def]) <;> rfl), rfl⟩) rfl (.cons (.same (by rfl)) (.cons (.same (by rfl)) (.cons (.same (by rfl)) .nil))) rfl rfl rfl) rfl ?_
        refine al_nil ?_
        refine nm ?_
        -- IF t16
        refine aw_no (rfl) ?_
        refine aw_skip ?_
        refine nmb ?_
        refine nm ?_
        refine aw_region ?_
        refine st_p (op_addi rfl rfl (by omega)) rfl ?_
        refine st_p (mv rfl) rfl ?_
        refine al_nil ?_
        refine nm ?_
        exact ⟨⟨i + 1, hlt, fun j y hj hy => by
          rcases Nat.lt_succ_iff_lt_or_eq.1 hj with h | rfl
          · exact ha j y h hy
          · rw [hx] at hy; obtain rfl := Option.some.inj hy; exact hp⟩, by dsimp only; omega, le_to [] rfl rfl rfl rfl rfl ⟨rfl, rfl, rfl, rfl, trivial⟩ ⟨rfl, rfl, trivial⟩⟩
    · skip
      refine aw_seq ?_
      refine aw_region ?_
      refine st_p (OpP.conv (op_lt rfl rfl) (no (by first | assumption | omega))) rfl ?_
      refine al_nil ?_
      refine nm ?_
      refine aw_seq ?_
      -- IF t9
      refine aw_no (rfl) ?_
      refine aw_exit ?_
      refine xs ?_
      refine xs ?_
      refine xb ?_
      refine nm ?_
      refine aw_seq ?_
      refine aw_region ?_
      refine st_p (mva rfl) rfl ?_
      refine al_nil ?_
      refine nm ?_
      refine aw_ret ?_
      exact ret_a ⟨[(4, .int .i64 (-1))], [(0, .cells 1 [.int .i64 n]), (1, .cells 1 [.int .i64 s])], 2⟩ (le_to [] rfl rfl rfl rfl rfl ⟨rfl, trivial⟩ ⟨rfl, rfl, trivial⟩) (res1 Try.results144) (.inr ⟨rfl, rfl⟩) ⟨by rw [firstI_none (fun j y hy => ha j y (by have := (List.getElem?_eq_some_iff.1 hy).1; omega) hy)]; rfl, rfl, rfl⟩

theorem firstI_any {α : Type} (p : α → Bool) (l : List α) : 0 ≤ firstI p l ↔ l.any p = true := by
  have := firstI_all (fun x => !p x) l
  simp only [Bool.not_not] at this
  have e : (l.all fun x => !p x) = false ↔ l.any p = true := by rw [List.any_eq_true, List.all_eq_false]; simp
  exact ⟨fun h => e.1 (this.1 h), fun h => this.2 (e.2 h)⟩

theorem touch_contains (l : List (List UInt8)) (n s : Int) (hl : l.length ≤ 1000000) (hk : ∀ k ∈ l, k.length ≤ 281474976710656) (hn : n ≤ 9223372036854775807) :
    AC Try.prog 97 [.sl 1 (sbs l), .fn (.func 99) [] [.ptr 0 0 0, .ptr 1 0 0]] [(0, .cells 1 [.int .i64 n]), (1, .cells 1 [.int .i64 s])] 2 false
      (fun v h nx => v = .bool (l.any (fun k => decide (shardI k n = s))) ∧ h = [(0, .cells 1 [.int .i64 n]), (1, .cells 1 [.int .i64 s])] ∧ nx = 2) := by
  have hi := touch_index l n s hl hk hn
  have hs := firstI_any (fun k => decide (shardI k n = s)) l
  generalize firstI (fun k => decide (shardI k n = s)) l = q at hi hs
  cases ha : l.any (fun k => decide (shardI k n = s)) with
  | false =>
    have hneg : ¬ 0 ≤ q := fun h => by rw [hs.1 h] at ha; cases ha
    refine ac_fn Try.func97 rfl rfl rfl rfl (fun w0 S0 r0 => ?_)
    refine aw_seq ?_
    refine aw_region ?_
    refine st_p (mva rfl) rfl ?_
    refine al_nil ?_
    refine nm ?_
    refine aw_seq ?_
    refine aw_region ?_
    refine st_p (mv rfl) rfl ?_
    refine st_p (mv rfl) rfl ?_
    -- STOP: call slices.IndexFunc[[]string,string](t5, t6) -> 7
    refine st_o (op_callg [(0, 0), (1, 1)] 2 false [(0, .cells 1 [.int .i64 n]), (1, .cells 1 [.int .i64 s])] [0, 1] (hi) Try.func144 ⟨rfl, rfl⟩ rfl rfl rfl rfl (by omega) (by intro p hp; simp only [List.mem_cons, List.not_mem_nil, or_false] at hp; rcases hp with rfl | rfl <;> exact ⟨by first | rfl | ((simp [hget, swp, Blk.ren, AV.ren, ints, Function.comp_def]) <;> rfl), rfl⟩) rfl (.cons (.same (by rfl)) (.cons (.same (by rfl)) .nil)) rfl rfl rfl) rfl ?_
    refine st_p (OpP.conv (op_ge rfl rfl) (no (by first | assumption | omega))) rfl ?_
    refine st_p (mva rfl) rfl ?_
    refine al_nil ?_
    refine nm ?_
    refine aw_ret ?_
    exact ret_a ⟨[(4, .bool false)], [(0, .cells 1 [.int .i64 n]), (1, .cells 1 [.int .i64 s])], 2⟩ (le_to [] rfl rfl rfl rfl rfl ⟨rfl, trivial⟩ ⟨rfl, rfl, trivial⟩) (res1 Try.results97) (.inr ⟨rfl, rfl⟩) ⟨rfl, rfl, rfl⟩
  | true =>
    have hpos : 0 ≤ q := hs.2 ha
    refine ac_fn Try.func97 rfl rfl rfl rfl (fun w0 S0 r0 => ?_)
    refine aw_seq ?_
    refine aw_region ?_
    refine st_p (mva rfl) rfl ?_
    refine al_nil ?_
    refine nm ?_
    refine aw_seq ?_
    refine aw_region ?_
    refine st_p (mv rfl) rfl ?_
    refine st_p (mv rfl) rfl ?_
    -- STOP: call slices.IndexFunc[[]string,string](t5, t6) -> 7
    refine st_o (op_callg [(0, 0), (1, 1)] 2 false [(0, .cells 1 [.int .i64 n]), (1, .cells 1 [.int .i64 s])] [0, 1] (hi) Try.func144 ⟨rfl, rfl⟩ rfl rfl rfl rfl (by omega) (by intro p hp; simp only [List.mem_cons, List.not_mem_nil, or_false] at hp; rcases hp with rfl | rfl <;> exact ⟨by first | rfl | ((simp [hget, swp, Blk.ren, AV.ren, ints, Function.comp_def]) <;> rfl), rfl⟩) rfl (.cons (.same (by rfl)) (.cons (.same (by rfl)) .nil)) rfl rfl rfl) rfl ?_
    refine st_p (OpP.conv (op_ge rfl rfl) (yes (by first | assumption | omega))) rfl ?_
    refine st_p (mva rfl) rfl ?_
    refine al_nil ?_
    refine nm ?_
    refine aw_ret ?_
    exact ret_a ⟨[(4, .bool true)], [(0, .cells 1 [.int .i64 n]), (1, .cells 1 [.int .i64 s])], 2⟩ (le_to [] rfl rfl rfl rfl rfl ⟨rfl, trivial⟩ ⟨rfl, rfl, trivial⟩) (res1 Try.results97) (.inr ⟨rfl, rfl⟩) ⟨rfl, rfl, rfl⟩

theorem txn_Touches (t : TX) (s n : Int) (hr : t.reads.length ≤ 1000) (hw : t.writes.length ≤ 1000) (hkr : ∀ r ∈ t.reads, r.key.length ≤ 281474976710656) (hkw : ∀ w ∈ t.writes, w.key.length ≤ 281474976710656) (hn : n ≤ 9223372036854775807) :
    AC Try.prog 31 [txA t, .int .i64 s, .int .i64 n] [] 0 false (fun v h nx => v = .bool (touchB t s n) ∧ h = [] ∧ nx = 0) := by
  have hkeys := txn_keys t (by omega) (by omega)
  rw [show (t.reads.map fun r => sb r.key) = sbs (t.reads.map RD.key) from by simp [sbs, List.map_map, Function.comp_def], show (t.writes.map fun r => sb r.key) = sbs (t.writes.map WR.key) from by simp [sbs, List.map_map, Function.comp_def]] at hkeys
  have hT : touchB t s n = (t.reads.map RD.key ++ t.writes.map WR.key).any (fun k => decide (shardI k n = s)) := by unfold touchB; rw [List.any_append, List.any_map, List.any_map]; rfl
  have hlr : (t.reads.map RD.key).length = t.reads.length := List.length_map _
  have hlw : (t.writes.map WR.key).length = t.writes.length := List.length_map _
  have hcon := concat_strs [t.reads.map RD.key, t.writes.map WR.key] (by simp) (by simp; omega)
  have htc := touch_contains (t.reads.map RD.key ++ t.writes.map WR.key) n s (by rw [List.length_append]; omega) (fun k hk => by
    rcases List.mem_append.1 hk with h | h
    · obtain ⟨r, hm, rfl⟩ := List.mem_map.1 h; exact hkr r hm
    · obtain ⟨r, hm, rfl⟩ := List.mem_map.1 h; exact hkw r hm) hn
  rw [show [t.reads.map RD.key, t.writes.map WR.key].flatten = t.reads.map RD.key ++ t.writes.map WR.key from by simp] at hcon
  rw [hT]
  clear hT
  obtain ⟨ses, seq, rl, wl⟩ := t
  dsimp only [txA] at hkeys hr hw hlr hlw hcon htc ⊢
  generalize (rl.map RD.key ++ wl.map WR.key).any (fun k => decide (shardI k n = s)) = q at htc ⊢
  have hll : (sbs (rl.map RD.key)).length = rl.length := by rw [sbs_len]; exact hlr
  have hlw2 : (sbs (wl.map WR.key)).length = wl.length := by rw [sbs_len]; exact hlw
  have hp : ∀ l : List (List UInt8), (sbs l).all AV.plain = true := fun l => by simp [AV.plain, plains, sb, sbs]
  have hlc : (sbs (rl.map RD.key ++ wl.map WR.key)).length = (rl.map RD.key ++ wl.map WR.key).length := sbs_len _
  refine ac_fn Try.func31 rfl rfl rfl rfl (fun w0 S0 r0 => ?_)
  refine aw_seq ?_
  refine aw_region ?_
  refine st_o (bx rfl rfl) rfl ?_
  refine st_o (bx rfl rfl) rfl ?_
  refine st_o (bx rfl rfl) rfl ?_
  refine st_p (mva rfl) rfl ?_
  refine al_nil ?_
  refine nm ?_
  refine aw_seq ?_
  refine aw_region ?_
  refine st_p (op_loadA Try.underlying26 rfl z26 rfl rfl rfl rfl) rfl ?_
  -- STOP: call diwan/txn.keys(t10) -> 11
  refine st_o ((op_callq (hkeys) Try.func76 ⟨rfl, rfl⟩ rfl rfl (fun nx => (.cons (.same (by rfl)) .nil)) (by rintro _ _ _ ⟨rfl, rfl, rfl⟩; exact (Fzs.tup (.cons (.whole rfl hll.symm (hp _)) (.cons (.whole rfl hlw2.symm (hp _)) .nil))))).ok) rfl ?_
  refine st_p (mv rfl) rfl ?_
  refine st_p (op_extract rfl rfl) rfl ?_
  refine st_p (op_extract rfl rfl) rfl ?_
  refine st_p (mva rfl) rfl ?_
  refine st_p (mva rfl) rfl ?_
  refine al_nil ?_
  refine nm ?_
  refine aw_seq ?_
  refine aw_region ?_
  refine st_p (mv rfl) rfl ?_
  refine st_p (mv rfl) rfl ?_
  refine st_o (bsl Try.underlying196 i74 o74 (by decide) rfl rfl rfl (by decide)) rfl ?_
  -- STOP: call slices.Concat[[]string,string](t16) -> 17
  refine st_o ((op_callq (hcon) Try.func98 ⟨rfl, rfl⟩ rfl rfl (fun nx => (.cons (.whole rfl rfl rfl (by first | rfl | simp) (by first | rfl | simp [Function.comp_def, AV.ren, sb]) (by first | rfl | simp [AV.plain, plains, bl_plain, sb, AV.ren])) .nil)) (by rintro _ _ _ ⟨rfl, rfl, rfl⟩; exact (.whole rfl hlc.symm (hp _)))).ok) rfl ?_
  refine st_p (mkf rfl rfl) rfl ?_
  -- STOP: call slices.ContainsFunc[[]string,string](t17, t18) -> 19
  refine st_o (op_callg [(0, 2), (1, 1)] 2 false [(0, .cells 1 [.int .i64 n]), (1, .cells 1 [.int .i64 s])] [2, 1] (htc) Try.func97 ⟨rfl, rfl⟩ rfl rfl rfl rfl (by omega) (by intro p hp; simp only [List.mem_cons, List.not_mem_nil, or_false] at hp; rcases hp with rfl | rfl <;> exact ⟨by first | rfl | ((simp [hget, swp, Blk.ren, AV.ren, ints, Function.comp_def]) <;> rfl), rfl⟩) rfl (.cons (.same (by rfl)) (.cons (.same (by rfl)) .nil)) rfl rfl rfl) rfl ?_
  refine st_p (mva rfl) rfl ?_
  refine al_nil ?_
  refine nm ?_
  refine aw_ret ?_
  exact ret_a ⟨[(6, .bool q)], [], 0⟩ (le_to [] rfl rfl rfl rfl rfl ⟨rfl, trivial⟩ trivial) (res1 Try.results31) (.inr ⟨rfl, rfl⟩) ⟨rfl, rfl, rfl⟩

end Go.Proofs.Ytloddmbbfkejcaa.Abs
end
section
/-
  Arrays: the place of an element; an element written. It holds of any program.
-/
namespace Go.Proofs.Ytloddmbbfkejcaa.Abs

section
variable {P : Program} {tm : List (Nat × AV)} {h : Heap} {nx : Nat}

theorem op_indexAddrA {t e : TypeId} {x y : Operand} {len sz b i o : Nat} {k : IntKind} {q : Int} (hu : P.underlying t = some (.array len e)) (hz : (P.info? e).map (·.size) = some sz) (hx : oev tm x = .ptr b i o) (hy : oev tm y = .int k q)
    (h0 : 0 ≤ q) (h1 : q < len) : OpP P (.indexAddr t x y) tm h (.ptr b i (o + q.toNat * sz)) := fun c n nx ρ S a w hr => by
  have hh := ev_vr hr hx
  have hi := ev_int hr hy
  generalize he : a.eval x = u at hh
  cases hh with
  | @ptr _ _ _ _ r hq =>
    refine ⟨.pointer (some ⟨r.blk, i * r.sz + (o + q.toNat * sz), none⟩), fun oo ho => ?_, .ptr hq⟩
    unfold execOp; rw [ho]
    simp [he, hi, Instr.indexAt, Instr.sureAddr, run_underlying hu, asIntOf, h0, h1, run_sizeOf hz, Addr.add_lit, Nat.add_assoc]

/-- An element of one cell of an array is written. -/
theorem stE {t : TypeId} {x y : Operand} {b i o sz : Nat} {xs cs : List AV} {v : AV} {h' : Heap} (hz : (P.info? t).map (·.size) = some 1) (hx : oev tm x = .ptr b i o) (hy : oevS tm y = some v) (hb : hget h b = some (.cells sz xs)) (he : xs[i]? = some (.agg cs)) (ho : o < cs.length) (hk : v.one = true)
    (hh : hsetS h b (.cells sz (xs.set i (.agg (cs.set o v)))) = some h') : OpOK P (.store t x y) ⟨tm, h, nx⟩ .top h' nx := by
  have hc : v.cells = [v] := by cases v <;> first | rfl | cases hk
  have hkn : v.known = true := by cases v <;> first | rfl | cases hk
  rw [← hsetS_spec _ _ _ _ hh]
  intro c n ρ S a w hr
  obtain ⟨r, cur, el, f1, f2, f3, _⟩ := own_cells hr hb he
  have f3 : cs.length = sz := f3
  refine store_gen (nx := nx) (e' := .agg (cs.set o v)) hz hx (oevS_spec hy) hb he hkn (by rw [hc]; rfl) (by omega) (by show (cs.set o v).length = sz; rw [List.length_set]; exact f3) (fun j => ?_) c n ρ S a w hr
  show (cs.set o v)[j]? = if o ≤ j ∧ j < o + 1 then v.cells[j - o]? else cs[j]?
  rw [hc]
  by_cases e : o = j
  · subst e
    rw [List.getElem?_set_self ho, if_pos ⟨Nat.le_refl _, by omega⟩, Nat.sub_self]
    rfl
  · rw [List.getElem?_set_ne e, if_neg (by omega)]

end
end Go.Proofs.Ytloddmbbfkejcaa.Abs
end
section
/-
  The shards of what is read, plain: rising, and just those.
-/
namespace Go.Proofs.Ytloddmbbfkejcaa.Abs

theorem adjL_mem : ∀ (l : List Int) (x : Int), x ∈ adjL l ↔ x ∈ l
  | [], x => Iff.rfl
  | [a], x => Iff.rfl
  | a :: b :: t, x => by
    have ih := adjL_mem (b :: t) x
    simp only [adjL]
    split
    · rename_i h
      subst h
      rw [ih]
      simp
    · rw [List.mem_cons, ih, List.mem_cons (a := x) (b := a)]

theorem adjL_up : ∀ (l : List Int), l.Pairwise (· ≤ ·) → (adjL l).Pairwise (· < ·)
  | [], _ => List.Pairwise.nil
  | [a], _ => by simp [adjL]
  | a :: b :: t, h => by
    have ih := adjL_up (b :: t) (List.Pairwise.of_cons h)
    simp only [adjL]
    split
    · exact ih
    · rename_i hne
      refine List.Pairwise.cons (fun x hx => ?_) ih
      rw [adjL_mem] at hx
      have h1 := List.rel_of_pairwise_cons h List.mem_cons_self
      rcases List.mem_cons.1 hx with rfl | hx
      · omega
      · have := List.rel_of_pairwise_cons (List.Pairwise.of_cons h) hx
        omega

theorem up_of {l : List Int} (h : ∀ a b, a < b → b < l.length → l.getD a 0 ≤ l.getD b 0) : l.Pairwise (· ≤ ·) := by
  rw [List.pairwise_iff_getElem]
  intro i j hi hj hij
  have := h i j hij hj
  rw [List.getD_eq_getElem?_getD, List.getD_eq_getElem?_getD, List.getElem?_eq_getElem hi, List.getElem?_eq_getElem hj] at this
  exact this

theorem readsL_up (ks : List (List UInt8)) (n : Int) : (readsL ks n).Pairwise (· < ·) := by
  refine adjL_up _ (up_of fun a b hab hb => ?_)
  rw [sortL_len] at hb
  exact sortL_up _ _ (by omega) a b hab (by omega)

theorem readsL_mem (ks : List (List UInt8)) (n : Int) (x : Int) : x ∈ readsL ks n ↔ ∃ k ∈ ks, shardI k n = x := by
  unfold readsL
  rw [adjL_mem, sortL_mem _ _ (by omega)]
  unfold shardsL
  rw [List.mem_map]

theorem shardN_lt (n : Nat) (k : List UInt8) (hn : 0 < n) : shardN n k < n := by
  have key : ∀ (k : List UInt8) (s : Nat), s < n → k.foldl (fun s c => (s + c.toNat) % n) s < n := by
    intro k
    induction k with
    | nil => intro s hs; exact hs
    | cons c k ih => intro s hs; exact ih _ (Nat.mod_lt _ hn)
  exact key k 0 hn

theorem shardI_range (k : List UInt8) (n : Int) (hn : 1 ≤ n) : 0 ≤ shardI k n ∧ shardI k n < n := by
  unfold shardI
  rw [if_neg (by omega)]
  have := shardN_lt n.toNat k (by omega)
  omega

end Go.Proofs.Ytloddmbbfkejcaa.Abs
end
section
/-
  begun of diwanlaw5, run: it comes to yes.
-/
namespace Go.Proofs.Ytloddmbbfkejcaa.Abs
namespace Runbegun5
/-- The plans of the regions whose order is open. -/
def planRows : List (Nat × List (Nat × PL)) := [
  (25, [(3, ⟨[(0, [1]), (1, [11]), (2, [12]), (0, [1]), (1, [14]), (2, [15]), (0, [1]), (1, [17]), (0, [18]), (2, [19]), (2, [13, 16, 20]), (2, [21]), (0, [22])], [([], 0, 0), ([2], 0, 1), ([2, 5], 0, 2), ([2, 5, 9], 0, 3), ([2, 5, 9, 10], 0, 4), ([2, 5, 9, 10, 11], 0, 5)], [0, 1, 2, 3, 4, 5], [[0, 1, 2, 3, 4, 5], [0, 1, 2, 3, 4, 5], [1, 2, 3, 4, 5], [0, 1, 2, 3, 4, 5], [0, 1, 2, 3, 4, 5], [2, 3, 4, 5], [0, 1, 2, 3, 4, 5], [0, 1, 2, 3, 4, 5], [0, 1, 2, 3, 4, 5], [3, 4, 5], [4, 5], [5], [5]], [[0], [0], [0], [0, 1], [0, 1], [0, 1], [0, 1, 2], [0, 1, 2], [0, 1, 2], [0, 1, 2], [0, 1, 2, 3], [0, 1, 2, 3, 4], [0, 1, 2, 3, 4, 5]], [(4, 0, 0), (7, 0, 0), (7, 1, 0)], 5⟩),
    (7, ⟨[(0, [3]), (0, [5]), (1, [31]), (2, [32]), (0, [5]), (1, [34]), (2, [35]), (0, [5]), (1, [37]), (2, [38]), (2, [30, 33, 36, 39]), (2, [40]), (0, [5]), (1, [42]), (2, [43]), (2, [44]), (2, [41, 45]), (0, [46])], [([], 0, 0), ([3], 0, 1), ([3, 6], 0, 2), ([3, 6, 9], 0, 3), ([3, 6, 9, 10], 0, 4), ([3, 6, 9, 10, 11], 0, 5), ([3, 6, 9, 10, 11, 14], 0, 6), ([3, 6, 9, 10, 11, 14, 15], 0, 7), ([3, 6, 9, 10, 11, 14, 15, 16], 0, 8)], [0, 1, 2, 3, 4, 5, 6, 7, 8], [[0, 1, 2, 3, 4, 5, 6, 7, 8], [0, 1, 2, 3, 4, 5, 6, 7, 8], [0, 1, 2, 3, 4, 5, 6, 7, 8], [1, 2, 3, 4, 5, 6, 7, 8], [0, 1, 2, 3, 4, 5, 6, 7, 8], [0, 1, 2, 3, 4, 5, 6, 7, 8], [2, 3, 4, 5, 6, 7, 8], [0, 1, 2, 3, 4, 5, 6, 7, 8], [0, 1, 2, 3, 4, 5, 6, 7, 8], [3, 4, 5, 6, 7, 8], [4, 5, 6, 7, 8], [5, 6, 7, 8], [0, 1, 2, 3, 4, 5, 6, 7, 8], [0, 1, 2, 3, 4, 5, 6, 7, 8], [6, 7, 8], [7, 8], [8], [8]], [[0, 1, 2, 3], [0], [0], [0], [0, 1], [0, 1], [0, 1], [0, 1, 2], [0, 1, 2], [0, 1, 2], [0, 1, 2, 3], [0, 1, 2, 3, 4], [0, 1, 2, 3, 4, 5], [0, 1, 2, 3, 4, 5], [0, 1, 2, 3, 4, 5], [0, 1, 2, 3, 4, 5, 6], [0, 1, 2, 3, 4, 5, 6, 7], [0, 1, 2, 3, 4, 5, 6, 7, 8]], [(5, 0, 0), (8, 0, 0), (8, 1, 0), (13, 0, 0), (13, 1, 0), (13, 2, 0), (13, 3, 0), (13, 4, 0)], 8⟩),
    (13, ⟨[(0, [3]), (0, [7]), (1, [62]), (2, [63]), (0, [7]), (1, [65]), (2, [66]), (2, [61, 64, 67]), (2, [68]), (0, [7]), (1, [70]), (2, [71]), (2, [72]), (2, [69, 73]), (0, [74])], [([], 0, 0), ([3], 0, 1), ([3, 6], 0, 2), ([3, 6, 7], 0, 3), ([3, 6, 7, 8], 0, 4), ([3, 6, 7, 8, 11], 0, 5), ([3, 6, 7, 8, 11, 12], 0, 6), ([3, 6, 7, 8, 11, 12, 13], 0, 7)], [0, 1, 2, 3, 4, 5, 6, 7], [[0, 1, 2, 3, 4, 5, 6, 7], [0, 1, 2, 3, 4, 5, 6, 7], [0, 1, 2, 3, 4, 5, 6, 7], [1, 2, 3, 4, 5, 6, 7], [0, 1, 2, 3, 4, 5, 6, 7], [0, 1, 2, 3, 4, 5, 6, 7], [2, 3, 4, 5, 6, 7], [3, 4, 5, 6, 7], [4, 5, 6, 7], [0, 1, 2, 3, 4, 5, 6, 7], [0, 1, 2, 3, 4, 5, 6, 7], [5, 6, 7], [6, 7], [7], [7]], [[0, 1, 2], [0], [0], [0], [0, 1], [0, 1], [0, 1], [0, 1, 2], [0, 1, 2, 3], [0, 1, 2, 3, 4], [0, 1, 2, 3, 4], [0, 1, 2, 3, 4], [0, 1, 2, 3, 4, 5], [0, 1, 2, 3, 4, 5, 6], [0, 1, 2, 3, 4, 5, 6, 7]], [(5, 0, 0), (10, 0, 0), (10, 1, 0), (10, 2, 0), (10, 3, 0)], 7⟩)]),
  (34, [(19, ⟨[(1, [2]), (0, [5]), (0, [111]), (0, [112]), (1, [113]), (2, [2, 110]), (0, [114]), (0, [])], [([], 0, 0), ([5], 0, 1)], [0, 1], [[0, 1], [0, 1], [0, 1], [0, 1], [0, 1], [1], [1], [1]], [[0], [0, 1], [0, 1], [0, 1], [0, 1], [0], [0, 1], [0, 1]], [(4, 1, 0)], 1⟩)]),
  (92, [(6, ⟨[(0, [0]), (0, [5]), (1, [16, 17]), (1, [18]), (0, [1]), (0, [5]), (1, [20, 21]), (1, [22]), (0, [19, 23])], [([], 0, 0)], [0], [[0], [0], [0], [0], [0], [0], [0], [0], [0]], [[0], [0], [0], [0], [0], [0], [0], [0], [0]], [], 0⟩)]),
  (93, [(6, ⟨[(0, [0]), (0, [5]), (1, [16, 17]), (1, [18]), (0, [1]), (0, [5]), (1, [20, 21]), (1, [22]), (0, [19, 23])], [([], 0, 0)], [0], [[0], [0], [0], [0], [0], [0], [0], [0], [0]], [[0], [0], [0], [0], [0], [0], [0], [0], [0]], [], 0⟩)]),
  (96, [(6, ⟨[(0, [0]), (0, [3]), (1, [16, 17]), (1, [18]), (0, [0]), (0, [3]), (0, [21]), (1, [20, 22]), (1, [23]), (0, [19, 24])], [([], 0, 0)], [0], [[0], [0], [0], [0], [0], [0], [0], [0], [0], [0]], [[0], [0], [0], [0], [0], [0], [0], [0], [0], [0]], [], 0⟩),
    (11, ⟨[(0, [4]), (0, [5]), (1, [35, 36]), (1, [37]), (0, [4]), (0, [5]), (0, [40]), (1, [39, 41]), (1, [42]), (0, [38, 43])], [([], 0, 0)], [0], [[0], [0], [0], [0], [0], [0], [0], [0], [0], [0]], [[0], [0], [0], [0], [0], [0], [0], [0], [0], [0]], [], 0⟩)]),
  (99, [(1, ⟨[(0, [0]), (1, [1]), (2, [5, 6]), (1, [2]), (0, [7, 8]), (0, [9])], [([], 0, 0), ([2], 0, 1)], [0, 1], [[0, 1], [0, 1], [1], [0, 1], [1], [1]], [[0], [0], [0], [0, 1], [0, 1], [0, 1]], [(3, 0, 0)], 1⟩)]),
  (100, [(1, ⟨[(0, [0]), (0, [7]), (0, [8]), (1, [9]), (0, [0]), (0, [11]), (0, [12]), (1, [13]), (1, [10, 14]), (2, [15]), (0, [16]), (0, [6]), (0, [6]), (0, [6]), (0, [17]), (0, [18]), (0, [19])], [([], 0, 0), ([9], 0, 1)], [0, 1], [[0, 1], [0, 1], [0, 1], [0, 1], [0, 1], [0, 1], [0, 1], [0, 1], [0, 1], [1], [1], [1], [1], [1], [1], [1], [1]], [[0], [0], [0], [0], [0], [0], [0], [0], [0], [0], [0, 1], [0, 1], [0, 1], [0, 1], [0, 1], [0, 1], [0, 1]], [], 1⟩)]),
  (101, [(1, ⟨[(0, [0]), (0, [7]), (0, [8]), (1, [9]), (0, [0]), (0, [11]), (0, [12]), (1, [13]), (1, [10, 14]), (2, [15]), (0, [16]), (0, [6]), (0, [6]), (0, [6]), (0, [17]), (0, [18]), (0, [19])], [([], 0, 0), ([9], 0, 1)], [0, 1], [[0, 1], [0, 1], [0, 1], [0, 1], [0, 1], [0, 1], [0, 1], [0, 1], [0, 1], [1], [1], [1], [1], [1], [1], [1], [1]], [[0], [0], [0], [0], [0], [0], [0], [0], [0], [0], [0, 1], [0, 1], [0, 1], [0, 1], [0, 1], [0, 1], [0, 1]], [], 1⟩)]),
  (142, [(17, ⟨[(0, [1]), (0, [73]), (0, [74]), (0, [0]), (0, [1]), (0, [77]), (1, [76, 78]), (1, [79]), (0, [0]), (0, [11]), (1, [81, 82]), (1, [83]), (2, [80, 84]), (0, [85]), (0, [75, 86])], [([], 0, 0), ([12], 0, 1)], [0, 1], [[0, 1], [0, 1], [0, 1], [0, 1], [0, 1], [0, 1], [0, 1], [0, 1], [0, 1], [0, 1], [0, 1], [0, 1], [1], [1], [1]], [[0], [0], [0], [0], [0], [0], [0], [0], [0], [0], [0], [0], [0], [0, 1], [0, 1]], [], 1⟩)]),
  (175, [(4, ⟨[(0, [7]), (0, [1]), (0, [16, 17]), (0, [18]), (0, [0]), (0, [7]), (1, [20, 21]), (1, [22]), (0, [0]), (0, [7]), (0, [25]), (1, [24, 26]), (1, [27]), (2, [23, 28]), (0, [19, 29])], [([], 0, 0), ([13], 0, 1)], [0, 1], [[0, 1], [0, 1], [0, 1], [0, 1], [0, 1], [0, 1], [0, 1], [0, 1], [0, 1], [0, 1], [0, 1], [0, 1], [0, 1], [1], [1]], [[0], [0], [0], [0], [0], [0], [0], [0], [0], [0], [0], [0], [0], [0], [0, 1]], [], 1⟩),
    (6, ⟨[(0, [0]), (0, [7]), (0, [0]), (0, [7]), (0, [36]), (0, [0]), (0, [7]), (0, [39]), (1, [38, 40]), (1, [41]), (0, [0]), (0, [7]), (1, [43, 44]), (1, [45]), (1, [33, 34]), (2, [47, 42]), (1, [35, 37]), (2, [48, 46])], [([], 0, 0), ([15], 0, 1), ([15, 17], 0, 2)], [0, 1, 2], [[0, 1, 2], [0, 1, 2], [0, 1, 2], [0, 1, 2], [0, 1, 2], [0, 1, 2], [0, 1, 2], [0, 1, 2], [0, 1, 2], [0, 1, 2], [0, 1, 2], [0, 1, 2], [0, 1, 2], [0, 1, 2], [0, 1, 2], [1, 2], [1, 2], [2]], [[0], [0], [0, 1], [0, 1], [0, 1], [0], [0], [0], [0], [0], [0], [0], [0], [0], [0], [0], [0, 1], [0, 1]], [], 2⟩)]),
  (176, [(10, ⟨[(0, [0]), (0, [6]), (0, [0]), (0, [6]), (0, [10]), (0, [36, 37]), (0, [0]), (0, [6]), (0, [10]), (0, [40, 41]), (1, [39, 42]), (1, [43]), (0, [0]), (0, [6]), (1, [45, 46]), (1, [47]), (1, [33, 34]), (2, [49, 44]), (1, [35, 38]), (2, [50, 48])], [([], 0, 0), ([17], 0, 1), ([17, 19], 0, 2)], [0, 1, 2], [[0, 1, 2], [0, 1, 2], [0, 1, 2], [0, 1, 2], [0, 1, 2], [0, 1, 2], [0, 1, 2], [0, 1, 2], [0, 1, 2], [0, 1, 2], [0, 1, 2], [0, 1, 2], [0, 1, 2], [0, 1, 2], [0, 1, 2], [0, 1, 2], [0, 1, 2], [1, 2], [1, 2], [2]], [[0], [0], [0, 1], [0, 1], [0, 1], [0, 1], [0], [0], [0], [0], [0], [0], [0], [0], [0], [0], [0], [0], [0, 1], [0, 1]], [], 2⟩)]),
  (177, [(10, ⟨[(0, [0]), (0, [9]), (0, [0]), (0, [1]), (0, [10]), (0, [50, 51]), (0, [0]), (0, [1]), (0, [10]), (0, [54, 55]), (1, [53, 56]), (1, [57]), (0, [0]), (0, [9]), (1, [59, 60]), (1, [61]), (1, [47, 48]), (2, [63, 58]), (1, [49, 52]), (2, [64, 62])], [([], 0, 0), ([17], 0, 1), ([17, 19], 0, 2)], [0, 1, 2], [[0, 1, 2], [0, 1, 2], [0, 1, 2], [0, 1, 2], [0, 1, 2], [0, 1, 2], [0, 1, 2], [0, 1, 2], [0, 1, 2], [0, 1, 2], [0, 1, 2], [0, 1, 2], [0, 1, 2], [0, 1, 2], [0, 1, 2], [0, 1, 2], [0, 1, 2], [1, 2], [1, 2], [2]], [[0], [0], [0, 1], [0, 1], [0, 1], [0, 1], [0], [0], [0], [0], [0], [0], [0], [0], [0], [0], [0], [0], [0, 1], [0, 1]], [], 2⟩)]),
  (179, [(3, ⟨[(0, [0]), (0, [6]), (0, [0]), (0, [7]), (0, [0]), (0, [7]), (1, [18, 19]), (1, [20]), (0, [0]), (0, [6]), (1, [22, 23]), (1, [24]), (1, [14, 15]), (2, [26, 21]), (1, [16, 17]), (2, [27, 25])], [([], 0, 0), ([13], 0, 1), ([13, 15], 0, 2)], [0, 1, 2], [[0, 1, 2], [0, 1, 2], [0, 1, 2], [0, 1, 2], [0, 1, 2], [0, 1, 2], [0, 1, 2], [0, 1, 2], [0, 1, 2], [0, 1, 2], [0, 1, 2], [0, 1, 2], [0, 1, 2], [1, 2], [1, 2], [2]], [[0], [0], [0, 1], [0, 1], [0], [0], [0], [0], [0], [0], [0], [0], [0], [0], [0, 1], [0, 1]], [], 2⟩)]),
  (180, [(5, ⟨[(0, [7]), (0, [2]), (0, [17, 18]), (0, [19]), (0, [0]), (0, [7]), (1, [21, 22]), (1, [23]), (0, [0]), (0, [7]), (0, [26]), (1, [25, 27]), (1, [28]), (2, [24, 29]), (0, [30]), (0, [20, 31])], [([], 0, 0), ([13], 0, 1)], [0, 1], [[0, 1], [0, 1], [0, 1], [0, 1], [0, 1], [0, 1], [0, 1], [0, 1], [0, 1], [0, 1], [0, 1], [0, 1], [0, 1], [1], [1], [1]], [[0], [0], [0], [0], [0], [0], [0], [0], [0], [0], [0], [0], [0], [0], [0, 1], [0, 1]], [], 1⟩),
    (11, ⟨[(0, [0]), (0, [7]), (0, [0]), (0, [7]), (0, [45]), (0, [0]), (0, [7]), (0, [48]), (1, [47, 49]), (1, [50]), (0, [0]), (0, [7]), (1, [52, 53]), (1, [54]), (1, [42, 43]), (2, [56, 51]), (1, [44, 46]), (2, [57, 55])], [([], 0, 0), ([15], 0, 1), ([15, 17], 0, 2)], [0, 1, 2], [[0, 1, 2], [0, 1, 2], [0, 1, 2], [0, 1, 2], [0, 1, 2], [0, 1, 2], [0, 1, 2], [0, 1, 2], [0, 1, 2], [0, 1, 2], [0, 1, 2], [0, 1, 2], [0, 1, 2], [0, 1, 2], [0, 1, 2], [1, 2], [1, 2], [2]], [[0], [0], [0, 1], [0, 1], [0, 1], [0], [0], [0], [0], [0], [0], [0], [0], [0], [0], [0], [0, 1], [0, 1]], [], 2⟩),
    (16, ⟨[(0, [0]), (0, [9]), (1, [68, 69]), (1, [70]), (0, [0]), (0, [9]), (0, [73]), (1, [72, 74]), (1, [75]), (2, [71, 76]), (0, [77])], [([], 0, 0), ([9], 0, 1)], [0, 1], [[0, 1], [0, 1], [0, 1], [0, 1], [0, 1], [0, 1], [0, 1], [0, 1], [0, 1], [1], [1]], [[0], [0], [0], [0], [0], [0], [0], [0], [0], [0], [0, 1]], [], 1⟩),
    (17, ⟨[(0, [0]), (0, [9]), (0, [0]), (0, [9]), (0, [82]), (0, [0]), (0, [9]), (0, [85]), (1, [84, 86]), (1, [87]), (0, [0]), (0, [9]), (1, [89, 90]), (1, [91]), (1, [79, 80]), (2, [93, 88]), (1, [81, 83]), (2, [94, 92])], [([], 0, 0), ([15], 0, 1), ([15, 17], 0, 2)], [0, 1, 2], [[0, 1, 2], [0, 1, 2], [0, 1, 2], [0, 1, 2], [0, 1, 2], [0, 1, 2], [0, 1, 2], [0, 1, 2], [0, 1, 2], [0, 1, 2], [0, 1, 2], [0, 1, 2], [0, 1, 2], [0, 1, 2], [0, 1, 2], [1, 2], [1, 2], [2]], [[0], [0], [0, 1], [0, 1], [0, 1], [0], [0], [0], [0], [0], [0], [0], [0], [0], [0], [0], [0, 1], [0, 1]], [], 2⟩),
    (22, ⟨[(0, [0]), (0, [10]), (1, [106, 107]), (1, [108]), (0, [0]), (0, [10]), (0, [111]), (1, [110, 112]), (1, [113]), (2, [109, 114]), (0, [115])], [([], 0, 0), ([9], 0, 1)], [0, 1], [[0, 1], [0, 1], [0, 1], [0, 1], [0, 1], [0, 1], [0, 1], [0, 1], [0, 1], [1], [1]], [[0], [0], [0], [0], [0], [0], [0], [0], [0], [0], [0, 1]], [], 1⟩),
    (23, ⟨[(0, [0]), (0, [10]), (0, [0]), (0, [10]), (0, [120]), (0, [0]), (0, [10]), (0, [123]), (1, [122, 124]), (1, [125]), (0, [0]), (0, [10]), (1, [127, 128]), (1, [129]), (1, [117, 118]), (2, [131, 126]), (1, [119, 121]), (2, [132, 130])], [([], 0, 0), ([15], 0, 1), ([15, 17], 0, 2)], [0, 1, 2], [[0, 1, 2], [0, 1, 2], [0, 1, 2], [0, 1, 2], [0, 1, 2], [0, 1, 2], [0, 1, 2], [0, 1, 2], [0, 1, 2], [0, 1, 2], [0, 1, 2], [0, 1, 2], [0, 1, 2], [0, 1, 2], [0, 1, 2], [1, 2], [1, 2], [2]], [[0], [0], [0, 1], [0, 1], [0, 1], [0], [0], [0], [0], [0], [0], [0], [0], [0], [0], [0], [0, 1], [0, 1]], [], 2⟩)]),
  (182, [(1, ⟨[(0, [0]), (0, [1]), (0, [0]), (0, [3]), (0, [0]), (0, [3]), (1, [15, 16]), (1, [17]), (0, [0]), (0, [1]), (1, [19, 20]), (1, [21]), (1, [11, 12]), (2, [23, 18]), (1, [13, 14]), (2, [24, 22])], [([], 0, 0), ([13], 0, 1), ([13, 15], 0, 2)], [0, 1, 2], [[0, 1, 2], [0, 1, 2], [0, 1, 2], [0, 1, 2], [0, 1, 2], [0, 1, 2], [0, 1, 2], [0, 1, 2], [0, 1, 2], [0, 1, 2], [0, 1, 2], [0, 1, 2], [0, 1, 2], [1, 2], [1, 2], [2]], [[0], [0], [0, 1], [0, 1], [0], [0], [0], [0], [0], [0], [0], [0], [0], [0], [0, 1], [0, 1]], [], 2⟩),
    (3, ⟨[(0, [9]), (0, [10]), (0, [29, 30]), (0, [31]), (0, [0]), (0, [1]), (1, [33, 34]), (1, [35]), (0, [0]), (0, [9]), (1, [37, 38]), (1, [39]), (2, [36, 40]), (0, [41]), (0, [32, 42])], [([], 0, 0), ([12], 0, 1)], [0, 1], [[0, 1], [0, 1], [0, 1], [0, 1], [0, 1], [0, 1], [0, 1], [0, 1], [0, 1], [0, 1], [0, 1], [0, 1], [1], [1], [1]], [[0], [0], [0], [0], [0], [0], [0], [0], [0], [0], [0], [0], [0], [0, 1], [0, 1]], [], 1⟩),
    (5, ⟨[(0, [9]), (0, [10]), (0, [46, 47]), (0, [48]), (0, [0]), (0, [1]), (1, [50, 51]), (1, [52]), (0, [0]), (0, [10]), (1, [54, 55]), (1, [56]), (2, [53, 57]), (0, [49, 58])], [([], 0, 0), ([12], 0, 1)], [0, 1], [[0, 1], [0, 1], [0, 1], [0, 1], [0, 1], [0, 1], [0, 1], [0, 1], [0, 1], [0, 1], [0, 1], [0, 1], [1], [1]], [[0], [0], [0], [0], [0], [0], [0], [0], [0], [0], [0], [0], [0], [0, 1]], [], 1⟩),
    (8, ⟨[(0, [0]), (0, [9]), (0, [0]), (0, [10]), (0, [0]), (0, [10]), (1, [69, 70]), (1, [71]), (0, [0]), (0, [9]), (1, [73, 74]), (1, [75]), (1, [65, 66]), (2, [77, 72]), (1, [67, 68]), (2, [78, 76])], [([], 0, 0), ([13], 0, 1), ([13, 15], 0, 2)], [0, 1, 2], [[0, 1, 2], [0, 1, 2], [0, 1, 2], [0, 1, 2], [0, 1, 2], [0, 1, 2], [0, 1, 2], [0, 1, 2], [0, 1, 2], [0, 1, 2], [0, 1, 2], [0, 1, 2], [0, 1, 2], [1, 2], [1, 2], [2]], [[0], [0], [0, 1], [0, 1], [0], [0], [0], [0], [0], [0], [0], [0], [0], [0], [0, 1], [0, 1]], [], 2⟩)]),
  (183, [(1, ⟨[(0, [0]), (0, [1]), (0, [0]), (0, [3]), (0, [0]), (0, [3]), (1, [16, 17]), (1, [18]), (0, [0]), (0, [1]), (1, [20, 21]), (1, [22]), (1, [12, 13]), (2, [24, 19]), (1, [14, 15]), (2, [25, 23])], [([], 0, 0), ([13], 0, 1), ([13, 15], 0, 2)], [0, 1, 2], [[0, 1, 2], [0, 1, 2], [0, 1, 2], [0, 1, 2], [0, 1, 2], [0, 1, 2], [0, 1, 2], [0, 1, 2], [0, 1, 2], [0, 1, 2], [0, 1, 2], [0, 1, 2], [0, 1, 2], [1, 2], [1, 2], [2]], [[0], [0], [0, 1], [0, 1], [0], [0], [0], [0], [0], [0], [0], [0], [0], [0], [0, 1], [0, 1]], [], 2⟩),
    (3, ⟨[(0, [10]), (0, [11]), (0, [30, 31]), (0, [32]), (0, [0]), (0, [10]), (1, [34, 35]), (1, [36]), (0, [0]), (0, [1]), (1, [38, 39]), (1, [40]), (2, [37, 41]), (0, [33, 42])], [([], 0, 0), ([12], 0, 1)], [0, 1], [[0, 1], [0, 1], [0, 1], [0, 1], [0, 1], [0, 1], [0, 1], [0, 1], [0, 1], [0, 1], [0, 1], [0, 1], [1], [1]], [[0], [0], [0], [0], [0], [0], [0], [0], [0], [0], [0], [0], [0], [0, 1]], [], 1⟩),
    (5, ⟨[(0, [10]), (0, [11]), (0, [46, 47]), (0, [48]), (0, [0]), (0, [11]), (1, [50, 51]), (1, [52]), (0, [0]), (0, [1]), (1, [54, 55]), (1, [56]), (2, [53, 57]), (0, [58]), (0, [49, 59])], [([], 0, 0), ([12], 0, 1)], [0, 1], [[0, 1], [0, 1], [0, 1], [0, 1], [0, 1], [0, 1], [0, 1], [0, 1], [0, 1], [0, 1], [0, 1], [0, 1], [1], [1], [1]], [[0], [0], [0], [0], [0], [0], [0], [0], [0], [0], [0], [0], [0], [0, 1], [0, 1]], [], 1⟩),
    (8, ⟨[(0, [0]), (0, [11]), (0, [0]), (0, [1]), (0, [0]), (0, [1]), (1, [70, 71]), (1, [72]), (0, [0]), (0, [11]), (1, [74, 75]), (1, [76]), (1, [66, 67]), (2, [78, 73]), (1, [68, 69]), (2, [79, 77])], [([], 0, 0), ([13], 0, 1), ([13, 15], 0, 2)], [0, 1, 2], [[0, 1, 2], [0, 1, 2], [0, 1, 2], [0, 1, 2], [0, 1, 2], [0, 1, 2], [0, 1, 2], [0, 1, 2], [0, 1, 2], [0, 1, 2], [0, 1, 2], [0, 1, 2], [0, 1, 2], [1, 2], [1, 2], [2]], [[0], [0], [0, 1], [0, 1], [0], [0], [0], [0], [0], [0], [0], [0], [0], [0], [0, 1], [0, 1]], [], 2⟩),
    (10, ⟨[(0, [0]), (0, [10]), (0, [0]), (0, [11]), (0, [0]), (0, [11]), (1, [85, 86]), (1, [87]), (0, [0]), (0, [10]), (1, [89, 90]), (1, [91]), (1, [81, 82]), (2, [93, 88]), (1, [83, 84]), (2, [94, 92])], [([], 0, 0), ([13], 0, 1), ([13, 15], 0, 2)], [0, 1, 2], [[0, 1, 2], [0, 1, 2], [0, 1, 2], [0, 1, 2], [0, 1, 2], [0, 1, 2], [0, 1, 2], [0, 1, 2], [0, 1, 2], [0, 1, 2], [0, 1, 2], [0, 1, 2], [0, 1, 2], [1, 2], [1, 2], [2]], [[0], [0], [0, 1], [0, 1], [0], [0], [0], [0], [0], [0], [0], [0], [0], [0], [0, 1], [0, 1]], [], 2⟩),
    (13, ⟨[(0, [10]), (0, [11]), (0, [99, 100]), (0, [101]), (0, [0]), (0, [10]), (1, [103, 104]), (1, [105]), (0, [0]), (0, [1]), (1, [107, 108]), (1, [109]), (2, [106, 110]), (0, [102, 111])], [([], 0, 0), ([12], 0, 1)], [0, 1], [[0, 1], [0, 1], [0, 1], [0, 1], [0, 1], [0, 1], [0, 1], [0, 1], [0, 1], [0, 1], [0, 1], [0, 1], [1], [1]], [[0], [0], [0], [0], [0], [0], [0], [0], [0], [0], [0], [0], [0], [0, 1]], [], 1⟩),
    (15, ⟨[(0, [10]), (0, [11]), (0, [115, 116]), (0, [117]), (0, [0]), (0, [11]), (1, [119, 120]), (1, [121]), (0, [0]), (0, [1]), (1, [123, 124]), (1, [125]), (2, [122, 126]), (0, [127]), (0, [118, 128])], [([], 0, 0), ([12], 0, 1)], [0, 1], [[0, 1], [0, 1], [0, 1], [0, 1], [0, 1], [0, 1], [0, 1], [0, 1], [0, 1], [0, 1], [0, 1], [0, 1], [1], [1], [1]], [[0], [0], [0], [0], [0], [0], [0], [0], [0], [0], [0], [0], [0], [0, 1], [0, 1]], [], 1⟩),
    (18, ⟨[(0, [0]), (0, [10]), (0, [0]), (0, [11]), (0, [0]), (0, [11]), (1, [139, 140]), (1, [141]), (0, [0]), (0, [10]), (1, [143, 144]), (1, [145]), (1, [135, 136]), (2, [147, 142]), (1, [137, 138]), (2, [148, 146])], [([], 0, 0), ([13], 0, 1), ([13, 15], 0, 2)], [0, 1, 2], [[0, 1, 2], [0, 1, 2], [0, 1, 2], [0, 1, 2], [0, 1, 2], [0, 1, 2], [0, 1, 2], [0, 1, 2], [0, 1, 2], [0, 1, 2], [0, 1, 2], [0, 1, 2], [0, 1, 2], [1, 2], [1, 2], [2]], [[0], [0], [0, 1], [0, 1], [0], [0], [0], [0], [0], [0], [0], [0], [0], [0], [0, 1], [0, 1]], [], 2⟩),
    (21, ⟨[(0, [0]), (0, [11]), (0, [0]), (0, [1]), (0, [0]), (0, [1]), (1, [157, 158]), (1, [159]), (0, [0]), (0, [11]), (1, [161, 162]), (1, [163]), (1, [153, 154]), (2, [165, 160]), (1, [155, 156]), (2, [166, 164])], [([], 0, 0), ([13], 0, 1), ([13, 15], 0, 2)], [0, 1, 2], [[0, 1, 2], [0, 1, 2], [0, 1, 2], [0, 1, 2], [0, 1, 2], [0, 1, 2], [0, 1, 2], [0, 1, 2], [0, 1, 2], [0, 1, 2], [0, 1, 2], [0, 1, 2], [0, 1, 2], [1, 2], [1, 2], [2]], [[0], [0], [0, 1], [0, 1], [0], [0], [0], [0], [0], [0], [0], [0], [0], [0], [0, 1], [0, 1]], [], 2⟩)]),
  (192, [(3, ⟨[(0, [9]), (0, [17]), (0, [2]), (0, [18, 19]), (0, [20]), (0, [0]), (0, [3]), (0, [9]), (0, [23, 24]), (1, [22, 25]), (1, [26]), (0, [0]), (0, [3]), (0, [9]), (0, [29, 30]), (0, [31]), (1, [28, 32]), (1, [33]), (2, [27, 34]), (0, [21, 35])], [([], 0, 0), ([18], 0, 1)], [0, 1], [[0, 1], [0, 1], [0, 1], [0, 1], [0, 1], [0, 1], [0, 1], [0, 1], [0, 1], [0, 1], [0, 1], [0, 1], [0, 1], [0, 1], [0, 1], [0, 1], [0, 1], [0, 1], [1], [1]], [[0], [0], [0], [0], [0], [0], [0], [0], [0], [0], [0], [0], [0], [0], [0], [0], [0], [0], [0], [0, 1]], [], 1⟩),
    (5, ⟨[(0, [0]), (0, [3]), (0, [8]), (0, [40, 41]), (1, [39, 42]), (1, [43]), (0, [0]), (0, [3]), (0, [9]), (0, [46, 47]), (1, [45, 48]), (1, [49]), (2, [44, 50]), (0, [51])], [([], 0, 0), ([12], 0, 1)], [0, 1], [[0, 1], [0, 1], [0, 1], [0, 1], [0, 1], [0, 1], [0, 1], [0, 1], [0, 1], [0, 1], [0, 1], [0, 1], [1], [1]], [[0], [0], [0], [0], [0], [0], [0], [0], [0], [0], [0], [0], [0], [0, 1]], [], 1⟩),
    (6, ⟨[(0, [0]), (0, [3]), (0, [8]), (0, [54, 55]), (0, [0]), (0, [3]), (0, [9]), (0, [58, 59]), (0, [0]), (0, [3]), (0, [9]), (0, [62, 63]), (1, [61, 64]), (1, [65]), (0, [0]), (0, [3]), (0, [8]), (0, [68, 69]), (1, [67, 70]), (1, [71]), (1, [53, 56]), (2, [73, 66]), (1, [57, 60]), (2, [74, 72])], [([], 0, 0), ([21], 0, 1), ([21, 23], 0, 2)], [0, 1, 2], [[0, 1, 2], [0, 1, 2], [0, 1, 2], [0, 1, 2], [0, 1, 2], [0, 1, 2], [0, 1, 2], [0, 1, 2], [0, 1, 2], [0, 1, 2], [0, 1, 2], [0, 1, 2], [0, 1, 2], [0, 1, 2], [0, 1, 2], [0, 1, 2], [0, 1, 2], [0, 1, 2], [0, 1, 2], [0, 1, 2], [0, 1, 2], [1, 2], [1, 2], [2]], [[0], [0], [0], [0], [0, 1], [0, 1], [0, 1], [0, 1], [0], [0], [0], [0], [0], [0], [0], [0], [0], [0], [0], [0], [0], [0], [0, 1], [0, 1]], [], 2⟩)]),
  (194, [(1, ⟨[(0, [0]), (0, [3]), (1, [4]), (0, [0]), (0, [6]), (1, [7]), (0, [8]), (0, [5, 9]), (0, [3]), (2, [11, 10])], [([], 0, 0), ([9], 0, 1)], [0, 1], [[0, 1], [0, 1], [0, 1], [0, 1], [0, 1], [0, 1], [0, 1], [0, 1], [0, 1], [1]], [[0], [0], [0], [0], [0], [0], [0], [0], [0], [0]], [], 1⟩),
    (2, ⟨[(0, [0]), (0, [12]), (1, [13]), (0, [0]), (0, [15]), (1, [16]), (0, [17]), (0, [14, 18]), (0, [12]), (2, [20, 19])], [([], 0, 0), ([9], 0, 1)], [0, 1], [[0, 1], [0, 1], [0, 1], [0, 1], [0, 1], [0, 1], [0, 1], [0, 1], [0, 1], [1]], [[0], [0], [0], [0], [0], [0], [0], [0], [0], [0]], [], 1⟩),
    (3, ⟨[(0, [0]), (0, [21]), (1, [22]), (0, [0]), (0, [24]), (1, [25]), (0, [26]), (0, [23, 27]), (0, [21]), (2, [29, 28])], [([], 0, 0), ([9], 0, 1)], [0, 1], [[0, 1], [0, 1], [0, 1], [0, 1], [0, 1], [0, 1], [0, 1], [0, 1], [0, 1], [1]], [[0], [0], [0], [0], [0], [0], [0], [0], [0], [0]], [], 1⟩)]),
  (202, [(1, ⟨[(0, [0]), (0, [2]), (1, [10, 11]), (1, [12]), (0, [0]), (0, [1]), (1, [14, 15]), (1, [16]), (2, [13, 17])], [([], 0, 0), ([8], 0, 1)], [0, 1], [[0, 1], [0, 1], [0, 1], [0, 1], [0, 1], [0, 1], [0, 1], [0, 1], [1]], [[0], [0], [0], [0], [0], [0], [0], [0], [0]], [], 1⟩)])]
def pu : Nat → Bool := memF [19, 23, 25, 27, 29, 31, 34, 76, 77, 78, 79, 80, 81, 82, 83, 85, 86, 87, 88, 92, 93, 94, 97, 98, 99, 102, 137, 138, 139, 143, 144, 146, 148, 149, 174, 181, 184, 185, 186, 187]
abbrev cfg : List EN → Cfg := cfgT (look2 planRows) pu
def tab0 : List EN := []
theorem mixed : Try.prog.follows .mixedOrders = true := by kernel_rfl
theorem tb0 : Tab Try.prog cfg tab0 := .nil
end Runbegun5
theorem law_begun5 : AC Try.prog 19 [] [] 0 false (fun r _ _ => r = .bool true) := ac_yes Runbegun5.mixed Runbegun5.tb0 300 (by kernel_rfl)
end Go.Proofs.Ytloddmbbfkejcaa.Abs
end
section
/-
  A transaction touches just the shards of its keys, and its reads' shards are of those.
-/
namespace Go.Proofs.Ytloddmbbfkejcaa.Abs

/-- Which of the first three shards are some key's. -/
def marks (ks : List (List UInt8)) (k : Int) : List Bool := (List.range 3).map fun s => ks.any fun x => decide (shardI x k = (s : Nat))

theorem marks_len (ks : List (List UInt8)) (k : Int) : (marks ks k).length = 3 := by simp [marks]
theorem marks_get (ks : List (List UInt8)) (k : Int) (s : Nat) (hs : s < 3) : (marks ks k)[s]? = some (ks.any fun x => decide (shardI x k = (s : Nat))) := by
  unfold marks
  rw [List.getElem?_map, List.getElem?_range hs]
  rfl
theorem marks_snoc (ks : List (List UInt8)) (x : List UInt8) (k : Int) (h0 : 0 ≤ shardI x k) (h1 : shardI x k < 3) : (marks ks k).set (shardI x k).toNat true = marks (ks ++ [x]) k := by
  refine List.ext_getElem? fun j => ?_
  by_cases hj : j < 3
  · rw [marks_get _ _ _ hj]
    by_cases e : (shardI x k).toNat = j
    · rw [e, List.getElem?_set_self (by rw [marks_len]; exact hj)]
      have : shardI x k = (j : Int) := by omega
      simp [this]
    · rw [List.getElem?_set_ne e, marks_get _ _ _ hj]
      have : ¬ shardI x k = (j : Int) := by omega
      simp [this]
  · rw [List.getElem?_eq_none (by rw [List.length_set, marks_len]; omega), List.getElem?_eq_none (by rw [marks_len]; omega)]

theorem ren_marks (σ : Nat → Nat) (L : List Bool) : (Blk.cells 3 [.agg (L.map AV.bool)]).ren σ = .cells 3 [.agg (L.map AV.bool)] := by
  simp [Blk.ren, AV.ren, rens_map, Function.comp_def]

theorem pkTx_keys (l : List UInt8) (n most : Nat) : (∀ r ∈ (pkTx l n most).1.reads, r.key.length ≤ 8) ∧ ∀ r ∈ (pkTx l n most).1.writes, r.key.length ≤ 8 := by
  have h := pkTx_may l n most
  unfold mayTxB at h
  simp only [Bool.and_eq_true, decide_eq_true_eq] at h
  obtain ⟨_, _, _, _, _, h6, _, h8, _, _⟩ := h
  exact ⟨fun r hr => (mayB_len (rising_key h6 _ (List.mem_map_of_mem hr))).2, fun r hr => (mayB_len (rising_key h8 _ (List.mem_map_of_mem hr))).2⟩

theorem set_marks {L M : List Bool} {o : Nat} (h : L.set o true = M) : (L.map AV.bool).set (0 + o * 1) (.bool true) = M.map AV.bool := by
  rw [← h, List.map_set, Nat.zero_add, Nat.mul_one]

theorem adjL_le : ∀ (l : List Int), (adjL l).length ≤ l.length
  | [] => Nat.le_refl _
  | [a] => Nat.le_refl _
  | a :: b :: t => by
    have ih := adjL_le (b :: t)
    simp only [adjL]
    split
    · simp only [List.length_cons] at ih ⊢; omega
    · simp only [List.length_cons] at ih ⊢; omega
theorem readsL_len (ks : List (List UInt8)) (n : Int) : (readsL ks n).length ≤ ks.length := by
  have := adjL_le (sortL (shardsL ks n) ((shardsL ks n).length - 1))
  rw [sortL_len, shardsL_len] at this
  unfold readsL
  rw [shardsL_len]
  exact this

/-- Where the next of the rising ones stands. -/
theorem rise_at {l : List Int} {a : Nat} {s : Int} (hu : l.Pairwise (· < ·)) (h1 : ∀ x ∈ l.take a, x < s) (h2 : ∀ x ∈ l.drop a, s ≤ x) (hs : s ∈ l) : l[a]? = some s := by
  have hm : s ∈ l.drop a := by
    rw [← List.take_append_drop a l] at hs
    rcases List.mem_append.1 hs with h | h
    · have := h1 s h; omega
    · exact h
  have hud : (l.drop a).Pairwise (· < ·) := hu.sublist (List.drop_sublist a l)
  rw [← Nat.add_zero a, ← List.getElem?_drop]
  cases hd : l.drop a with
  | nil => rw [hd] at hm; cases hm
  | cons y r =>
    rw [hd] at hm hud h2
    rcases List.mem_cons.1 hm with rfl | hr
    · rfl
    · have := List.rel_of_pairwise_cons hud hr
      have := h2 y List.mem_cons_self
      omega

set_option maxRecDepth 100000 in
set_option maxHeartbeats 4000000 in
theorem law_TxnTouch (x0 : List UInt8) (x1 : Int)
    (g0 : (fun l : List UInt8 => l.length ≤ reachBytes) x0)
    (g1 : (fun n : Int => (Lit.int .u8 n).wf = true) x1) :
    AC Try.prog 6 [(fun l : List UInt8 => AV.sl 1 (bl l)) x0, (AV.int .u8) x1] [] 0 false (fun r _ _ => r = .bool true) := by
  have hb := law_begun5.yes
  have hbl0 : (bl x0).length = x0.length := bl_len x0
  obtain ⟨K, hK, hK1, hK3⟩ : ∃ K : Int, IntKind.i64.wrap (1 + IntKind.i64.wrap (x1.tmod 3)) = K ∧ 1 ≤ K ∧ K ≤ 3 := by
    refine ⟨_, rfl, ?_⟩
    have hg : 0 ≤ x1 := by
      have h := g1
      simp only [Lit.wf, Bool.and_eq_true, decide_eq_true_eq] at h
      have : IntKind.u8.min = 0 := rfl
      omega
    have h1 : 0 ≤ x1.tmod 3 := Int.tmod_nonneg _ hg
    have h2 : x1.tmod 3 < 3 := Int.tmod_lt_of_pos _ (by decide)
    rw [wrap_i64 (z := x1.tmod 3) (by omega) (by omega), wrap_i64 (by omega) (by omega)]
    omega
  by_cases h0 : x0.length ≤ 30
  · have hm0 := pk_Made x0
    have ht0 := pk_Txn x0 0 5 (by omega) (by omega) (by omega)
    obtain ⟨hr0, hw0⟩ := pkTx_len x0 0 5
    obtain ⟨hk1, hk2⟩ := pkTx_keys x0 0 5
    generalize (pkTx x0 0 5).2 = n0 at ht0
    generalize (pkTx x0 0 5).1 = t at ht0 hr0 hw0 hk1 hk2
    have hkr : ∀ r ∈ t.reads, r.key.length ≤ 281474976710656 := fun r hr => by have := hk1 r hr; omega
    have hkw : ∀ r ∈ t.writes, r.key.length ≤ 281474976710656 := fun r hr => by have := hk2 r hr; omega
    have hReads := txn_Reads t K (by omega) (by omega) hkr (by omega)
    have hTouch := fun s : Int => txn_Touches t s K (by omega) (by omega) hkr hkw (by omega)
    have hshr : ∀ r ∈ t.reads, _ := fun r hm => ref_ShardOf r.key K (hkr r hm) (by omega)
    have hshw : ∀ r ∈ t.writes, _ := fun r hm => ref_ShardOf r.key K (hkw r hm) (by omega)
    have hrng := fun k => shardI_range k K hK1
    have hml : ∀ ks, ((marks ks K).map AV.bool).length = 3 := fun ks => by rw [List.length_map, marks_len]
    obtain ⟨ses, seq, rl, wl⟩ := t
    dsimp only [txA] at ht0 hr0 hw0 hkr hkw hReads hTouch hshr hshw
    have hram : (rl.map rdA).length = rl.length := List.length_map _
    have hwam : (wl.map wrA).length = wl.length := List.length_map _
    refine ac_fn Try.func6 rfl rfl rfl rfl (fun w0 S0 r0 => ?_)
    refine aw_seq ?_
    refine aw_region ?_
    refine st_p (mva rfl) rfl ?_
    refine al_nil ?_
    refine nm ?_
    refine aw_seq ?_
    refine aw_seq ?_
    refine aw_region ?_
    -- STOP: call diwan/diwanlaw5.begun() -> 14
    refine st_o ((op_callq (hb) Try.func19 ⟨rfl, rfl⟩ rfl rfl (fun nx => .nil) (by rintro _ _ _ ⟨rfl, rfl, rfl⟩; exact .same rfl)).ok) rfl ?_
    refine st_p (op_notT rfl) rfl ?_
    refine al_nil ?_
    refine nm ?_
    -- IF t15
    refine aw_no (rfl) ?_
    refine aw_skip ?_
    refine nm ?_
    refine aw_seq ?_
    refine aw_seq ?_
    refine aw_region ?_
    refine st_p (mv rfl) rfl ?_
    refine st_p (op_len Try.underlying22 rfl) rfl ?_
    refine st_p (OpP.conv (op_gt rfl rfl) (no (by first | assumption | omega))) rfl ?_
    refine al_nil ?_
    refine nm ?_
    -- IF t18
    refine aw_no (rfl) ?_
    refine aw_skip ?_
    refine nm ?_
    refine aw_seq ?_
    refine aw_region ?_
    refine st_p (mv rfl) rfl ?_
    refine st_p (op_rem rfl rfl (by omega)) rfl ?_
    refine st_p (op_conv (by rw [Try.underlying5]; rfl) Try.underlying3 rfl) rfl ?_
    refine st_p (op_add rfl rfl) rfl ?_
    refine st_p (mva rfl) rfl ?_
    refine al_nil ?_
    refine nm ?_
    refine aw_seq ?_
    refine aw_region ?_
    refine st_p (mv rfl) rfl ?_
    -- STOP: call diwan/diwanplay.Made(t23) -> 24
    refine st_o (op_callg [] 0 true [] [] (hm0) Try.func21 ⟨rfl, rfl⟩ rfl rfl rfl rfl (by omega) (by intro p hp; cases hp) rfl (.cons (.same (by rfl)) .nil) rfl rfl rfl) rfl ?_
    -- STOP: call (*diwan/diwanplay.Picks).Txn(t24, ('app', 'Operand.const', [('app', 'Value.int', ['IntKind.i64', 5])])) -> 25
    refine st_o (op_callg [(0, 0)] 1 true [(0, pkB x0 0)] [0] (ht0) Try.func22 ⟨rfl, rfl⟩ rfl rfl rfl rfl (by omega) (by intro p hp; simp only [List.mem_cons, List.not_mem_nil, or_false] at hp; rcases hp with rfl <;> exact ⟨by first | rfl | ((simp [hget, swp, Blk.ren, AV.ren, ints, Function.comp_def]) <;> rfl), rfl⟩) rfl (.cons (.same (by rfl)) (.cons (.same (by rfl)) .nil)) rfl rfl rfl) rfl ?_
    refine st_o (op_alloc a26 rfl rfl) rfl ?_
    refine st_n (stA z26 rfl rfl rfl rfl rfl rfl rfl rfl rfl rfl) ?_
    refine al_nil ?_
    refine nm ?_
    refine aw_seq ?_
    refine aw_region ?_
    refine st_o (op_alloc a49 rfl rfl) rfl ?_
    refine st_o (op_alloc a49 rfl rfl) rfl ?_
    refine al_nil ?_
    refine nm ?_
    refine aw_seq ?_
    refine aw_seq ?_
    refine aw_region ?_
    refine st_p (mva rfl) rfl ?_
    refine al_nil ?_
    refine nm ?_
    refine aw_block ?_
    -- LOOP
    refine aw_loop (fun i : {i : Nat // i ≤ rl.length} => ⟨[(5, .int .i64 K), (6, .ptr 0 0 0), (7, .ptr 1 0 0), (8, .ptr 2 0 0), (9, .int .i64 i.1)], [(0, .cells 4 [.agg [.int .i64 ses, .int .i64 seq, .sl 4 (rl.map rdA), .sl 3 (wl.map wrA)]]), (1, .cells 3 [.agg ((marks ((rl.map RD.key).take i.1) K).map AV.bool)]), (2, .cells 3 [.agg ((marks ((rl.map RD.key).take i.1) K).map AV.bool)])], 3⟩) (fun i => rl.length - i.1) ⟨0, Nat.zero_le _⟩ ?_ ?_
    · exact le_to [(0, 2), (1, 3), (2, 4)] rfl rfl rfl rfl rfl ⟨congrArg (AV.int .i64) hK, rfl, rfl, rfl, rfl, trivial⟩ ⟨rfl, rfl, rfl, trivial⟩
    · rintro ⟨i, hi⟩
      dsimp only
      by_cases hlt : i < rl.length
      · obtain ⟨x, hx⟩ : ∃ x, rl[i]? = some x := ⟨_, List.getElem?_eq_getElem hlt⟩
        have hxb : (rl.map rdA)[((i : Nat) : Int).toNat]? = some (.agg [sb x.key, .int .i64 x.ver, sb x.val, .bool x.there]) := by rw [Int.toNat_natCast, List.getElem?_map, hx]; rfl
        have hs := hshr x (List.mem_of_getElem? hx)
        have hq := hrng x.key
        have hmi := hml ((rl.map RD.key).take i)
        have hsn := marks_snoc ((rl.map RD.key).take i) x.key K hq.1 (by omega)
        rw [show (rl.map RD.key).take i ++ [x.key] = (rl.map RD.key).take (i + 1) from by rw [List.take_add_one, List.getElem?_map, hx]; rfl] at hsn
        generalize shardI x.key K = q at hs hq hsn
        refine aw_seq ?_
        refine aw_seq ?_
        refine aw_region ?_
        refine st_p (mv rfl) rfl ?_
        refine st_p (op_fieldAddr Try.underlying26 rfl z23 (by decide) rfl) rfl ?_
        refine st_p (op_load1 Try.underlying23 rfl rfl rfl rfl rfl) rfl ?_
        refine st_p (op_len Try.underlying23 rfl) rfl ?_
        refine st_p (OpP.conv (op_lt rfl rfl) (yes (by first | assumption | omega))) rfl ?_
        refine al_nil ?_
        refine nm ?_
        -- IF t30
        refine aw_yes (rfl) ?_
        refine aw_skip ?_
        refine nm ?_
        refine aw_seq ?_
        refine aw_block ?_
        refine dr_go ?_
        refine dr_f 0 0 [6] rfl (fun H => op_fieldAddr Try.underlying26 rfl z23 (by decide) rfl) ?_
        refine dr_q 0 0 [33] rfl (op_load1 Try.underlying23 rfl rfl rfl rfl rfl) ?_
        refine dr_f 0 0 [9] rfl (fun H => mv rfl) ?_
        refine dr_q 0 0 [34, 35] rfl (op_indexAddrL Try.underlying23 z46 rfl rfl (by omega) (by first | assumption | rfl)) ?_
        refine dr_f 0 0 [36] rfl (fun H => op_fieldAddrL Try.underlying46 rfl z9 (by decide) rfl) ?_
        refine dr_q 0 0 [37] rfl (op_load1L Try.underlying9 rfl rfl rfl) ?_
        refine dr_f 0 0 [5] rfl (fun H => mv rfl) ?_
        -- STOP: call diwan/diwanref1.ShardOf(t38, t39) -> 40
        refine dr_fq 0 0 [38, 39] rfl (fun H => op_callq (hs) Try.func37 ⟨rfl, rfl⟩ rfl rfl (fun nx => (.cons (.same (by rfl)) (.cons (.same (by rfl)) .nil))) (by rintro _ _ _ ⟨rfl, rfl, rfl⟩; exact .same rfl)) ?_
        refine dr_f 0 0 [6] rfl (fun H => op_fieldAddr Try.underlying26 rfl z23 (by decide) rfl) ?_
        refine dr_q 0 0 [41] rfl (op_load1 Try.underlying23 rfl rfl rfl rfl rfl) ?_
        refine dr_f 0 0 [9] rfl (fun H => mv rfl) ?_
        refine dr_q 0 0 [42, 43] rfl (op_indexAddrL Try.underlying23 z46 rfl rfl (by omega) (by first | assumption | rfl)) ?_
        refine dr_f 0 0 [44] rfl (fun H => op_fieldAddrL Try.underlying46 rfl z9 (by decide) rfl) ?_
        refine dr_q 0 0 [45] rfl (op_load1L Try.underlying9 rfl rfl rfl) ?_
        refine dr_f 0 0 [5] rfl (fun H => mv rfl) ?_
        -- STOP: call diwan/diwanref1.ShardOf(t46, t47) -> 48
        refine dr_fq 0 0 [46, 47] rfl (fun H => op_callq (hs) Try.func37 ⟨rfl, rfl⟩ rfl rfl (fun nx => (.cons (.same (by rfl)) (.cons (.same (by rfl)) .nil))) (by rintro _ _ _ ⟨rfl, rfl, rfl⟩; exact .same rfl)) ?_
        refine dr_q 0 0 [7, 40] rfl (op_indexAddrA Try.underlying49 z4 rfl rfl (by omega) (by omega)) ?_
        refine dr_n 0 [49] rfl (stE z4 rfl rfl rfl rfl (by omega) rfl rfl) ?_
        refine dr_q 1 1 [8, 48] rfl (op_indexAddrA Try.underlying49 z4 rfl rfl (by omega) (by omega)) ?_
        refine dr_n 1 [50] rfl (stE z4 rfl rfl rfl rfl (by omega) rfl rfl) ?_
        refine dr_end [] (by kernel_rfl) (by kernel_rfl) (by kernel_rfl) (by kernel_rfl) trivial ?_
        refine nmb ?_
        refine nm ?_
        refine aw_region ?_
        refine st_p (mv rfl) rfl ?_
        refine st_p (op_addi rfl rfl (by omega)) rfl ?_
        refine st_p (mva rfl) rfl ?_
        refine al_nil ?_
        refine nm ?_
        exact ⟨⟨i + 1, hlt⟩, by dsimp only; omega, le_to [] rfl rfl rfl rfl rfl ⟨rfl, rfl, rfl, rfl, rfl, trivial⟩ ⟨rfl, by rw [ren_marks, ← set_marks hsn]; rfl, by rw [ren_marks, ← set_marks hsn]; rfl, trivial⟩⟩
      · have e : (rl.map RD.key).take i = rl.map RD.key := List.take_of_length_le (by rw [List.length_map]; omega)
        rw [e]
        refine aw_seq ?_
        refine aw_seq ?_
        refine aw_region ?_
        refine st_p (mv rfl) rfl ?_
        refine st_p (op_fieldAddr Try.underlying26 rfl z23 (by decide) rfl) rfl ?_
        refine st_p (op_load1 Try.underlying23 rfl rfl rfl rfl rfl) rfl ?_
        refine st_p (op_len Try.underlying23 rfl) rfl ?_
        refine st_p (OpP.conv (op_lt rfl rfl) (no (by first | assumption | omega))) rfl ?_
        refine al_nil ?_
        refine nm ?_
        -- IF t30
        refine aw_no (rfl) ?_
        refine aw_exit ?_
        refine xs ?_
        refine xs ?_
        refine xb ?_
        refine nm ?_
        refine aw_seq ?_
        refine aw_seq ?_
        refine aw_region ?_
        refine st_p (mva rfl) rfl ?_
        refine al_nil ?_
        refine nm ?_
        refine aw_block ?_
        -- LOOP
        refine aw_loop (fun i : {i : Nat // i ≤ wl.length} => ⟨[(5, .int .i64 K), (6, .ptr 0 0 0), (7, .ptr 1 0 0), (8, .ptr 2 0 0), (10, .int .i64 i.1)], [(0, .cells 4 [.agg [.int .i64 ses, .int .i64 seq, .sl 4 (rl.map rdA), .sl 3 (wl.map wrA)]]), (1, .cells 3 [.agg ((marks (rl.map RD.key) K).map AV.bool)]), (2, .cells 3 [.agg ((marks (rl.map RD.key ++ (wl.map WR.key).take i.1) K).map AV.bool)])], 3⟩) (fun i => wl.length - i.1) ⟨0, Nat.zero_le _⟩ ?_ ?_
        · exact le_to [] rfl rfl rfl rfl rfl ⟨rfl, rfl, rfl, rfl, rfl, trivial⟩ ⟨rfl, by rw [ren_marks]; rfl, by rw [ren_marks, List.take_zero, List.append_nil]; rfl, trivial⟩
        · rintro ⟨i, hi⟩
          dsimp only
          by_cases hlt : i < wl.length
          · obtain ⟨x, hx⟩ : ∃ x, wl[i]? = some x := ⟨_, List.getElem?_eq_getElem hlt⟩
            have hxb : (wl.map wrA)[((i : Nat) : Int).toNat]? = some (.agg [sb x.key, sb x.val, .bool x.gone]) := by rw [Int.toNat_natCast, List.getElem?_map, hx]; rfl
            have hs := hshw x (List.mem_of_getElem? hx)
            have hq := hrng x.key
            have hmi := hml (rl.map RD.key ++ (wl.map WR.key).take i)
            have hsn := marks_snoc (rl.map RD.key ++ (wl.map WR.key).take i) x.key K hq.1 (by omega)
            rw [show rl.map RD.key ++ (wl.map WR.key).take i ++ [x.key] = rl.map RD.key ++ (wl.map WR.key).take (i + 1) from by rw [List.take_add_one, List.getElem?_map, hx, List.append_assoc]; rfl] at hsn
            generalize shardI x.key K = q at hs hq hsn
            refine aw_seq ?_
            refine aw_seq ?_
            refine aw_region ?_
            refine st_p (mv rfl) rfl ?_
            refine st_p (op_fieldAddr Try.underlying26 rfl z24 (by decide) rfl) rfl ?_
            refine st_p (op_load1 Try.underlying24 rfl rfl rfl rfl rfl) rfl ?_
            refine st_p (op_len Try.underlying24 rfl) rfl ?_
            refine st_p (OpP.conv (op_lt rfl rfl) (yes (by first | assumption | omega))) rfl ?_
            refine al_nil ?_
            refine nm ?_
            -- IF t55
            refine aw_yes (rfl) ?_
            refine aw_skip ?_
            refine nm ?_
            refine aw_seq ?_
            refine aw_block ?_
            refine aw_region ?_
            refine st_p (op_fieldAddr Try.underlying26 rfl z24 (by decide) rfl) rfl ?_
            refine st_p (op_load1 Try.underlying24 rfl rfl rfl rfl rfl) rfl ?_
            refine st_p (mv rfl) rfl ?_
            refine st_p (op_indexAddrL Try.underlying24 z48 rfl rfl (by omega) (by first | assumption | rfl)) rfl ?_
            refine st_p (op_fieldAddrL Try.underlying48 rfl z9 (by decide) rfl) rfl ?_
            refine st_p (op_load1L Try.underlying9 rfl rfl rfl) rfl ?_
            refine st_p (mv rfl) rfl ?_
            -- STOP: call diwan/diwanref1.ShardOf(t63, t64) -> 65
            refine st_o ((op_callq (hs) Try.func37 ⟨rfl, rfl⟩ rfl rfl (fun nx => (.cons (.same (by rfl)) (.cons (.same (by rfl)) .nil))) (by rintro _ _ _ ⟨rfl, rfl, rfl⟩; exact .same rfl)).ok) rfl ?_
            refine st_p (op_indexAddrA Try.underlying49 z4 rfl rfl (by omega) (by omega)) rfl ?_
            refine st_n (stE z4 rfl rfl rfl rfl (by omega) rfl rfl) ?_
            refine al_nil ?_
            refine nmb ?_
            refine nm ?_
            refine aw_region ?_
            refine st_p (mv rfl) rfl ?_
            refine st_p (op_addi rfl rfl (by omega)) rfl ?_
            refine st_p (mva rfl) rfl ?_
            refine al_nil ?_
            refine nm ?_
            exact ⟨⟨i + 1, hlt⟩, by dsimp only; omega, le_to [] rfl rfl rfl rfl rfl ⟨rfl, rfl, rfl, rfl, rfl, trivial⟩ ⟨rfl, by rw [ren_marks]; rfl, by rw [ren_marks, ← set_marks hsn]; rfl, trivial⟩⟩
          · have e : (wl.map WR.key).take i = wl.map WR.key := List.take_of_length_le (by rw [List.length_map]; omega)
            rw [e]
            have hil := ints_len (readsL (rl.map RD.key) K)
            have hip : (ints (readsL (rl.map RD.key) K)).all AV.plain = true := by simp [AV.plain, ints]
            have hup := readsL_up (rl.map RD.key) K
            have hRL := readsL_len (rl.map RD.key) K
            rw [List.length_map] at hRL
            have hmem := readsL_mem (rl.map RD.key) K
            have hTB : ∀ s : Int, touchB ⟨ses, seq, rl, wl⟩ s K = (rl.map RD.key ++ wl.map WR.key).any (fun k => decide (shardI k K = s)) := fun s => by unfold touchB; rw [List.any_append, List.any_map, List.any_map]; rfl
            have hout : ∀ s : Int, ¬ (0 ≤ s ∧ s < K) → touchB ⟨ses, seq, rl, wl⟩ s K = false := fun s hs => by
              rw [hTB, List.any_eq_false]
              intro k _ h
              have := hrng k
              rw [decide_eq_true_eq] at h
              omega
            have hTK := hTouch K
            rw [hout K (by omega)] at hTK
            have hTn := hTouch (-1)
            rw [hout (-1) (by omega)] at hTn
            generalize readsL (rl.map RD.key) K = RL at hReads hil hip hup hmem hRL
            refine aw_seq ?_
            refine aw_seq ?_
            refine aw_region ?_
            refine st_p (mv rfl) rfl ?_
            refine st_p (op_fieldAddr Try.underlying26 rfl z24 (by decide) rfl) rfl ?_
            refine st_p (op_load1 Try.underlying24 rfl rfl rfl rfl rfl) rfl ?_
            refine st_p (op_len Try.underlying24 rfl) rfl ?_
            refine st_p (OpP.conv (op_lt rfl rfl) (no (by first | assumption | omega))) rfl ?_
            refine al_nil ?_
            refine nm ?_
            -- IF t55
            refine aw_no (rfl) ?_
            refine aw_exit ?_
            refine xs ?_
            refine xs ?_
            refine xb ?_
            refine nm ?_
            refine aw_seq ?_
            refine aw_region ?_
            refine st_p (op_loadA Try.underlying26 rfl z26 rfl rfl rfl rfl) rfl ?_
            refine st_p (mv rfl) rfl ?_
            -- STOP: call diwan/txn.Reads(t67, t68) -> 69
            refine st_o ((op_callq (hReads) Try.func29 ⟨rfl, rfl⟩ rfl rfl (fun nx => (.cons (.same (by rfl)) (.cons (.same (by rfl)) .nil))) (by rintro _ _ _ ⟨rfl, rfl, rfl⟩; exact (.whole rfl hil.symm hip))).ok) rfl ?_
            refine st_p (mva rfl) rfl ?_
            refine al_nil ?_
            refine nm ?_
            refine aw_seq ?_
            refine aw_region ?_
            refine st_p (mva rfl) rfl ?_
            refine al_nil ?_
            refine nm ?_
            refine aw_seq ?_
            refine aw_seq ?_
            refine aw_region ?_
            refine st_p (mva rfl) rfl ?_
            refine al_nil ?_
            refine nm ?_
            refine aw_block ?_
            -- LOOP
            refine aw_loop (fun p : {p : Nat × Nat // (p.1 : Int) ≤ K ∧ p.2 ≤ RL.length ∧ (∀ x ∈ RL.take p.2, x < (p.1 : Int)) ∧ ∀ x ∈ RL.drop p.2, (p.1 : Int) ≤ x} => ⟨[(5, .int .i64 K), (6, .ptr 0 0 0), (7, .ptr 1 0 0), (8, .ptr 2 0 0), (11, .sl 1 (ints RL)), (12, .int .i64 p.1.2), (13, .int .i64 p.1.1)], [(0, .cells 4 [.agg [.int .i64 ses, .int .i64 seq, .sl 4 (rl.map rdA), .sl 3 (wl.map wrA)]]), (1, .cells 3 [.agg ((marks (rl.map RD.key) K).map AV.bool)]), (2, .cells 3 [.agg ((marks (rl.map RD.key ++ wl.map WR.key) K).map AV.bool)])], 3⟩) (fun p => (K - p.1.1).toNat) ⟨(0, 0), by dsimp only; refine ⟨by omega, Nat.zero_le _, (fun x hx => absurd hx List.not_mem_nil), fun x hx => ?_⟩; obtain ⟨k, _, rfl⟩ := (hmem x).1 hx; exact (hrng k).1⟩ ?_ ?_
            · exact le_to [] rfl rfl rfl rfl rfl ⟨rfl, rfl, rfl, rfl, rfl, rfl, rfl, trivial⟩ ⟨rfl, by rw [ren_marks]; rfl, by rw [ren_marks]; rfl, trivial⟩
            · rintro ⟨⟨s, a⟩, q1, q2, q3, q4⟩
              dsimp only at q1 q2 q3 q4 ⊢
              by_cases hsK : (s : Int) < K
              · have hT := hTouch s
                rw [hTB] at hT
                have hA : ((marks (rl.map RD.key ++ wl.map WR.key) K).map AV.bool)[0 + ((s : Nat) : Int).toNat * 1]? = some (.bool ((rl.map RD.key ++ wl.map WR.key).any (fun k => decide (shardI k K = (s : Nat))))) := by
                  rw [Nat.zero_add, Nat.mul_one, Int.toNat_natCast, List.getElem?_map, marks_get _ _ _ (by omega)]; rfl
                have hR : ((marks (rl.map RD.key) K).map AV.bool)[0 + ((s : Nat) : Int).toNat * 1]? = some (.bool ((rl.map RD.key).any (fun k => decide (shardI k K = (s : Nat))))) := by
                  rw [Nat.zero_add, Nat.mul_one, Int.toNat_natCast, List.getElem?_map, marks_get _ _ _ (by omega)]; rfl
                have hRm : (rl.map RD.key).any (fun k => decide (shardI k K = (s : Nat))) = true ↔ (s : Int) ∈ RL := by
                  rw [hmem, List.any_eq_true]
                  simp only [decide_eq_true_eq]
                generalize (rl.map RD.key ++ wl.map WR.key).any (fun k => decide (shardI k K = (s : Nat))) = B at hT hA
                generalize (rl.map RD.key).any (fun k => decide (shardI k K = (s : Nat))) = R at hR hRm
                cases R with
                | true =>
                  have hat := rise_at hup q3 q4 (hRm.1 rfl)
                  have hlt : a < RL.length := (List.getElem?_eq_some_iff.1 hat).1
                  have hx : (ints RL)[((a : Nat) : Int).toNat]? = some (.int .i64 (s : Nat)) := by rw [Int.toNat_natCast, ints, List.getElem?_map, hat]; rfl
                  have q3' : ∀ x ∈ RL.take (a + 1), x < ((s + 1 : Nat) : Int) := fun x hm => by
                    rw [List.take_add_one, hat] at hm
                    rcases List.mem_append.1 hm with h | h
                    · have := q3 x h; omega
                    · simp at h; omega
                  have q4' : ∀ x ∈ RL.drop (a + 1), ((s + 1 : Nat) : Int) ≤ x := fun x hm => by
                    have hd : RL.drop a = (s : Int) :: RL.drop (a + 1) := by
                      rw [List.drop_eq_getElem_cons hlt]
                      have := List.getElem?_eq_getElem hlt
                      rw [hat] at this
                      rw [← Option.some.inj this]
                    have hud : (RL.drop a).Pairwise (· < ·) := hup.sublist (List.drop_sublist a RL)
                    rw [hd] at hud
                    have := List.rel_of_pairwise_cons hud hm
                    omega
                  cases B with
                  | true =>
                    refine aw_seq ?_
                    refine aw_seq ?_
                    refine aw_region ?_
                    refine st_p (mv rfl) rfl ?_
                    refine st_p (mv rfl) rfl ?_
                    refine st_p (OpP.conv (op_lt rfl rfl) (yes (by first | assumption | omega))) rfl ?_
                    refine al_nil ?_
                    refine nm ?_
                    -- IF t72
                    refine aw_yes (rfl) ?_
                    refine aw_skip ?_
                    refine nm ?_
                    refine aw_seq ?_
                    refine aw_block ?_
                    refine aw_seq ?_
                    refine aw_seq ?_
                    refine dr_go ?_
                    refine dr_q 0 0 [6] rfl (op_loadA Try.underlying26 rfl z26 rfl rfl rfl rfl) ?_
                    refine dr_f 0 0 [13] rfl (fun H => mv rfl) ?_
                    refine dr_f 0 0 [5] rfl (fun H => mv rfl) ?_
                    -- STOP: call diwan/txn.Touches(t75, t76, t77) -> 78
                    refine dr_fq 0 0 [75, 76, 77] rfl (fun H => op_callq (hT) Try.func31 ⟨rfl, rfl⟩ rfl rfl (fun nx => (.cons (.same (by rfl)) (.cons (.same (by rfl)) (.cons (.same (by rfl)) .nil)))) (by rintro _ _ _ ⟨rfl, rfl, rfl⟩; exact .same rfl)) ?_
                    refine dr_f 0 0 [13] rfl (fun H => mv rfl) ?_
                    refine dr_q 0 0 [8, 79] rfl (op_indexAddrA Try.underlying49 z4 rfl rfl (by omega) (by omega)) ?_
                    refine dr_q 0 0 [80] rfl (op_load1 Try.underlying4 rfl rfl rfl rfl (by assumption)) ?_
                    refine dr_f 0 0 [78, 81] rfl (fun H => op_neb Try.underlying4 rfl rfl) ?_
                    refine dr_end [] (by kernel_rfl) (by kernel_rfl) (by kernel_rfl) (by kernel_rfl) trivial ?_
                    refine nm ?_
                    -- IF t82
                    refine aw_no (rfl) ?_
                    refine aw_skip ?_
                    refine nm ?_
                    refine aw_seq ?_
                    refine aw_seq ?_
                    refine aw_region ?_
                    refine st_p (mv rfl) rfl ?_
                    refine st_p (op_indexAddrA Try.underlying49 z4 rfl rfl (by omega) (by omega)) rfl ?_
                    refine st_p (op_load1 Try.underlying4 rfl rfl rfl rfl (by assumption)) rfl ?_
                    refine st_p (op_notT rfl) rfl ?_
                    refine al_nil ?_
                    refine nm ?_
                    -- IF t86
                    refine aw_no (rfl) ?_
                    refine aw_skip ?_
                    refine nm ?_
                    refine aw_seq ?_
                    refine aw_seq ?_
                    refine aw_region ?_
                    refine st_p (mv rfl) rfl ?_
                    refine st_p (mv rfl) rfl ?_
                    refine st_p (op_len Try.underlying35 rfl) rfl ?_
                    refine st_p (OpP.conv (op_ge rfl rfl) (no (by first | assumption | omega))) rfl ?_
                    refine st_p (mv rfl) rfl ?_
                    refine st_pg rfl rfl rfl (mv rfl) rfl ?_
                    refine st_pg rfl rfl rfl (mv rfl) rfl ?_
                    refine st_pg rfl rfl rfl (op_indexAddrL Try.underlying35 z3 rfl rfl (by omega) (by first | assumption | rfl)) rfl ?_
                    refine st_pg rfl rfl rfl (op_load1L Try.underlying3 rfl rfl rfl) rfl ?_
                    refine st_pg rfl rfl rfl (mv rfl) rfl ?_
                    refine st_pg rfl rfl rfl (OpP.conv (op_ne rfl rfl) (no (by first | assumption | omega))) rfl ?_
                    refine st_p (pkF rfl rfl) rfl ?_
                    refine al_nil ?_
                    refine nm ?_
                    -- IF t98
                    refine aw_no (rfl) ?_
                    refine aw_skip ?_
                    refine nm ?_
                    refine aw_region ?_
                    refine st_p (mv rfl) rfl ?_
                    refine st_p (op_addi rfl rfl (by omega)) rfl ?_
                    refine st_p (mva rfl) rfl ?_
                    refine al_nil ?_
                    refine nmb ?_
                    refine nm ?_
                    refine aw_region ?_
                    refine st_p (mv rfl) rfl ?_
                    refine st_p (op_addi rfl rfl (by omega)) rfl ?_
                    refine st_p (mva rfl) rfl ?_
                    refine al_nil ?_
                    refine nm ?_
                    exact ⟨⟨(s + 1, a + 1), by dsimp only; exact ⟨by omega, hlt, q3', q4'⟩⟩, by dsimp only; omega, le_to [] rfl rfl rfl rfl rfl ⟨rfl, rfl, rfl, rfl, rfl, rfl, rfl, trivial⟩ ⟨rfl, by rw [ren_marks]; rfl, by rw [ren_marks]; rfl, trivial⟩⟩
                  | false =>
                    refine aw_seq ?_
                    refine aw_seq ?_
                    refine aw_region ?_
                    refine st_p (mv rfl) rfl ?_
                    refine st_p (mv rfl) rfl ?_
                    refine st_p (OpP.conv (op_lt rfl rfl) (yes (by first | assumption | omega))) rfl ?_
                    refine al_nil ?_
                    refine nm ?_
                    -- IF t72
                    refine aw_yes (rfl) ?_
                    refine aw_skip ?_
                    refine nm ?_
                    refine aw_seq ?_
                    refine aw_block ?_
                    refine aw_seq ?_
                    refine aw_seq ?_
                    refine dr_go ?_
                    refine dr_q 0 0 [6] rfl (op_loadA Try.underlying26 rfl z26 rfl rfl rfl rfl) ?_
                    refine dr_f 0 0 [13] rfl (fun H => mv rfl) ?_
                    refine dr_f 0 0 [5] rfl (fun H => mv rfl) ?_
                    -- STOP: call diwan/txn.Touches(t75, t76, t77) -> 78
                    refine dr_fq 0 0 [75, 76, 77] rfl (fun H => op_callq (hT) Try.func31 ⟨rfl, rfl⟩ rfl rfl (fun nx => (.cons (.same (by rfl)) (.cons (.same (by rfl)) (.cons (.same (by rfl)) .nil)))) (by rintro _ _ _ ⟨rfl, rfl, rfl⟩; exact .same rfl)) ?_
                    refine dr_f 0 0 [13] rfl (fun H => mv rfl) ?_
                    refine dr_q 0 0 [8, 79] rfl (op_indexAddrA Try.underlying49 z4 rfl rfl (by omega) (by omega)) ?_
                    refine dr_q 0 0 [80] rfl (op_load1 Try.underlying4 rfl rfl rfl rfl (by assumption)) ?_
                    refine dr_f 0 0 [78, 81] rfl (fun H => op_neb Try.underlying4 rfl rfl) ?_
                    refine dr_end [] (by kernel_rfl) (by kernel_rfl) (by kernel_rfl) (by kernel_rfl) trivial ?_
                    refine nm ?_
                    -- IF t82
                    refine aw_no (rfl) ?_
                    refine aw_skip ?_
                    refine nm ?_
                    refine aw_seq ?_
                    refine aw_seq ?_
                    refine aw_region ?_
                    refine st_p (mv rfl) rfl ?_
                    refine st_p (op_indexAddrA Try.underlying49 z4 rfl rfl (by omega) (by omega)) rfl ?_
                    refine st_p (op_load1 Try.underlying4 rfl rfl rfl rfl (by assumption)) rfl ?_
                    refine st_p (op_notT rfl) rfl ?_
                    refine al_nil ?_
                    refine nm ?_
                    -- IF t86
                    refine aw_no (rfl) ?_
                    refine aw_skip ?_
                    refine nm ?_
                    refine aw_seq ?_
                    refine aw_seq ?_
                    refine aw_region ?_
                    refine st_p (mv rfl) rfl ?_
                    refine st_p (mv rfl) rfl ?_
                    refine st_p (op_len Try.underlying35 rfl) rfl ?_
                    refine st_p (OpP.conv (op_ge rfl rfl) (no (by first | assumption | omega))) rfl ?_
                    refine st_p (mv rfl) rfl ?_
                    refine st_pg rfl rfl rfl (mv rfl) rfl ?_
                    refine st_pg rfl rfl rfl (mv rfl) rfl ?_
                    refine st_pg rfl rfl rfl (op_indexAddrL Try.underlying35 z3 rfl rfl (by omega) (by first | assumption | rfl)) rfl ?_
                    refine st_pg rfl rfl rfl (op_load1L Try.underlying3 rfl rfl rfl) rfl ?_
                    refine st_pg rfl rfl rfl (mv rfl) rfl ?_
                    refine st_pg rfl rfl rfl (OpP.conv (op_ne rfl rfl) (no (by first | assumption | omega))) rfl ?_
                    refine st_p (pkF rfl rfl) rfl ?_
                    refine al_nil ?_
                    refine nm ?_
                    -- IF t98
                    refine aw_no (rfl) ?_
                    refine aw_skip ?_
                    refine nm ?_
                    refine aw_region ?_
                    refine st_p (mv rfl) rfl ?_
                    refine st_p (op_addi rfl rfl (by omega)) rfl ?_
                    refine st_p (mva rfl) rfl ?_
                    refine al_nil ?_
                    refine nmb ?_
                    refine nm ?_
                    refine aw_region ?_
                    refine st_p (mv rfl) rfl ?_
                    refine st_p (op_addi rfl rfl (by omega)) rfl ?_
                    refine st_p (mva rfl) rfl ?_
                    refine al_nil ?_
                    refine nm ?_
                    exact ⟨⟨(s + 1, a + 1), by dsimp only; exact ⟨by omega, hlt, q3', q4'⟩⟩, by dsimp only; omega, le_to [] rfl rfl rfl rfl rfl ⟨rfl, rfl, rfl, rfl, rfl, rfl, rfl, trivial⟩ ⟨rfl, by rw [ren_marks]; rfl, by rw [ren_marks]; rfl, trivial⟩⟩
                | false =>
                  have hns : ¬ (s : Int) ∈ RL := fun h => by cases hRm.2 h
                  have q4' : ∀ x ∈ RL.drop a, ((s + 1 : Nat) : Int) ≤ x := fun x hm => by
                    have := q4 x hm
                    rcases Int.lt_or_eq_of_le this with h | h
                    · omega
                    · exact absurd (h ▸ List.mem_of_mem_drop hm) hns
                  cases B with
                  | true =>
                    refine aw_seq ?_
                    refine aw_seq ?_
                    refine aw_region ?_
                    refine st_p (mv rfl) rfl ?_
                    refine st_p (mv rfl) rfl ?_
                    refine st_p (OpP.conv (op_lt rfl rfl) (yes (by first | assumption | omega))) rfl ?_
                    refine al_nil ?_
                    refine nm ?_
                    -- IF t72
                    refine aw_yes (rfl) ?_
                    refine aw_skip ?_
                    refine nm ?_
                    refine aw_seq ?_
                    refine aw_block ?_
                    refine aw_seq ?_
                    refine aw_seq ?_
                    refine dr_go ?_
                    refine dr_q 0 0 [6] rfl (op_loadA Try.underlying26 rfl z26 rfl rfl rfl rfl) ?_
                    refine dr_f 0 0 [13] rfl (fun H => mv rfl) ?_
                    refine dr_f 0 0 [5] rfl (fun H => mv rfl) ?_
                    -- STOP: call diwan/txn.Touches(t75, t76, t77) -> 78
                    refine dr_fq 0 0 [75, 76, 77] rfl (fun H => op_callq (hT) Try.func31 ⟨rfl, rfl⟩ rfl rfl (fun nx => (.cons (.same (by rfl)) (.cons (.same (by rfl)) (.cons (.same (by rfl)) .nil)))) (by rintro _ _ _ ⟨rfl, rfl, rfl⟩; exact .same rfl)) ?_
                    refine dr_f 0 0 [13] rfl (fun H => mv rfl) ?_
                    refine dr_q 0 0 [8, 79] rfl (op_indexAddrA Try.underlying49 z4 rfl rfl (by omega) (by omega)) ?_
                    refine dr_q 0 0 [80] rfl (op_load1 Try.underlying4 rfl rfl rfl rfl (by assumption)) ?_
                    refine dr_f 0 0 [78, 81] rfl (fun H => op_neb Try.underlying4 rfl rfl) ?_
                    refine dr_end [] (by kernel_rfl) (by kernel_rfl) (by kernel_rfl) (by kernel_rfl) trivial ?_
                    refine nm ?_
                    -- IF t82
                    refine aw_no (rfl) ?_
                    refine aw_skip ?_
                    refine nm ?_
                    refine aw_seq ?_
                    refine aw_seq ?_
                    refine aw_region ?_
                    refine st_p (mv rfl) rfl ?_
                    refine st_p (op_indexAddrA Try.underlying49 z4 rfl rfl (by omega) (by omega)) rfl ?_
                    refine st_p (op_load1 Try.underlying4 rfl rfl rfl rfl (by assumption)) rfl ?_
                    refine st_p (op_notF rfl) rfl ?_
                    refine al_nil ?_
                    refine nm ?_
                    -- IF t86
                    refine aw_yes (rfl) ?_
                    refine aw_exit ?_
                    refine xs ?_
                    refine xb ?_
                    refine nm ?_
                    refine aw_region ?_
                    refine st_p (mv rfl) rfl ?_
                    refine st_p (op_addi rfl rfl (by omega)) rfl ?_
                    refine st_p (mva rfl) rfl ?_
                    refine al_nil ?_
                    refine nm ?_
                    exact ⟨⟨(s + 1, a), by dsimp only; exact ⟨by omega, q2, fun x hm => by have := q3 x hm; omega, q4'⟩⟩, by dsimp only; omega, le_to [] rfl rfl rfl rfl rfl ⟨rfl, rfl, rfl, rfl, rfl, rfl, rfl, trivial⟩ ⟨rfl, by rw [ren_marks]; rfl, by rw [ren_marks]; rfl, trivial⟩⟩
                  | false =>
                    refine aw_seq ?_
                    refine aw_seq ?_
                    refine aw_region ?_
                    refine st_p (mv rfl) rfl ?_
                    refine st_p (mv rfl) rfl ?_
                    refine st_p (OpP.conv (op_lt rfl rfl) (yes (by first | assumption | omega))) rfl ?_
                    refine al_nil ?_
                    refine nm ?_
                    -- IF t72
                    refine aw_yes (rfl) ?_
                    refine aw_skip ?_
                    refine nm ?_
                    refine aw_seq ?_
                    refine aw_block ?_
                    refine aw_seq ?_
                    refine aw_seq ?_
                    refine dr_go ?_
                    refine dr_q 0 0 [6] rfl (op_loadA Try.underlying26 rfl z26 rfl rfl rfl rfl) ?_
                    refine dr_f 0 0 [13] rfl (fun H => mv rfl) ?_
                    refine dr_f 0 0 [5] rfl (fun H => mv rfl) ?_
                    -- STOP: call diwan/txn.Touches(t75, t76, t77) -> 78
                    refine dr_fq 0 0 [75, 76, 77] rfl (fun H => op_callq (hT) Try.func31 ⟨rfl, rfl⟩ rfl rfl (fun nx => (.cons (.same (by rfl)) (.cons (.same (by rfl)) (.cons (.same (by rfl)) .nil)))) (by rintro _ _ _ ⟨rfl, rfl, rfl⟩; exact .same rfl)) ?_
                    refine dr_f 0 0 [13] rfl (fun H => mv rfl) ?_
                    refine dr_q 0 0 [8, 79] rfl (op_indexAddrA Try.underlying49 z4 rfl rfl (by omega) (by omega)) ?_
                    refine dr_q 0 0 [80] rfl (op_load1 Try.underlying4 rfl rfl rfl rfl (by assumption)) ?_
                    refine dr_f 0 0 [78, 81] rfl (fun H => op_neb Try.underlying4 rfl rfl) ?_
                    refine dr_end [] (by kernel_rfl) (by kernel_rfl) (by kernel_rfl) (by kernel_rfl) trivial ?_
                    refine nm ?_
                    -- IF t82
                    refine aw_no (rfl) ?_
                    refine aw_skip ?_
                    refine nm ?_
                    refine aw_seq ?_
                    refine aw_seq ?_
                    refine aw_region ?_
                    refine st_p (mv rfl) rfl ?_
                    refine st_p (op_indexAddrA Try.underlying49 z4 rfl rfl (by omega) (by omega)) rfl ?_
                    refine st_p (op_load1 Try.underlying4 rfl rfl rfl rfl (by assumption)) rfl ?_
                    refine st_p (op_notF rfl) rfl ?_
                    refine al_nil ?_
                    refine nm ?_
                    -- IF t86
                    refine aw_yes (rfl) ?_
                    refine aw_exit ?_
                    refine xs ?_
                    refine xb ?_
                    refine nm ?_
                    refine aw_region ?_
                    refine st_p (mv rfl) rfl ?_
                    refine st_p (op_addi rfl rfl (by omega)) rfl ?_
                    refine st_p (mva rfl) rfl ?_
                    refine al_nil ?_
                    refine nm ?_
                    exact ⟨⟨(s + 1, a), by dsimp only; exact ⟨by omega, q2, fun x hm => by have := q3 x hm; omega, q4'⟩⟩, by dsimp only; omega, le_to [] rfl rfl rfl rfl rfl ⟨rfl, rfl, rfl, rfl, rfl, rfl, rfl, trivial⟩ ⟨rfl, by rw [ren_marks]; rfl, by rw [ren_marks]; rfl, trivial⟩⟩
              · have hal : a = RL.length := by
                  refine Nat.le_antisymm q2 (Nat.le_of_not_lt fun hlt => ?_)
                  have hm : RL[a] ∈ RL.drop a := by rw [List.drop_eq_getElem_cons hlt]; exact List.mem_cons_self
                  have h1 := q4 _ hm
                  obtain ⟨k, _, hk⟩ := (hmem _).1 (List.getElem_mem hlt)
                  have := hrng k
                  omega
                refine aw_seq ?_
                refine aw_seq ?_
                refine aw_region ?_
                refine st_p (mv rfl) rfl ?_
                refine st_p (mv rfl) rfl ?_
                refine st_p (OpP.conv (op_lt rfl rfl) (no (by first | assumption | omega))) rfl ?_
                refine al_nil ?_
                refine nm ?_
                -- IF t72
                refine aw_no (rfl) ?_
                refine aw_exit ?_
                refine xs ?_
                refine xs ?_
                refine xb ?_
                refine nm ?_
                refine aw_seq ?_
                refine aw_region ?_
                refine st_p (mv rfl) rfl ?_
                refine st_p (mv rfl) rfl ?_
                refine st_p (op_len Try.underlying35 rfl) rfl ?_
                refine st_p (OpP.conv (op_eq rfl rfl) (yes (by first | assumption | omega))) rfl ?_
                refine st_p (mv rfl) rfl ?_
                refine st_pg rfl rfl rfl (op_loadA Try.underlying26 rfl z26 rfl rfl rfl rfl) rfl ?_
                refine st_pg rfl rfl rfl (mv rfl) rfl ?_
                refine st_pg rfl rfl rfl (mv rfl) rfl ?_
                -- STOP: call diwan/txn.Touches(t106, t107, t108) -> 109
                refine st_og rfl rfl rfl ((op_callq (hTK) Try.func31 ⟨rfl, rfl⟩ rfl rfl (fun nx => (.cons (.same (by rfl)) (.cons (.same (by rfl)) (.cons (.same (by rfl)) .nil)))) (by rintro _ _ _ ⟨rfl, rfl, rfl⟩; exact .same rfl)).ok) rfl ?_
                refine st_pg rfl rfl rfl (op_notF rfl) rfl ?_
                refine st_p (pkT rfl rfl) rfl ?_
                refine st_p (mv rfl) rfl ?_
                refine st_pg rfl rfl rfl (op_loadA Try.underlying26 rfl z26 rfl rfl rfl rfl) rfl ?_
                refine st_pg rfl rfl rfl (mv rfl) rfl ?_
                -- STOP: call diwan/txn.Touches(t113, ('app', 'Operand.const', [('app', 'Value.int', ['IntKind.i64', -1])]), t114) -> 115
                refine st_og rfl rfl rfl ((op_callq (hTn) Try.func31 ⟨rfl, rfl⟩ rfl rfl (fun nx => (.cons (.same (by rfl)) (.cons (.same (by rfl)) (.cons (.same (by rfl)) .nil)))) (by rintro _ _ _ ⟨rfl, rfl, rfl⟩; exact .same rfl)).ok) rfl ?_
                refine st_pg rfl rfl rfl (op_notF rfl) rfl ?_
                refine st_p (pkT rfl rfl) rfl ?_
                refine st_p (mva rfl) rfl ?_
                refine al_nil ?_
                refine nm ?_
                refine aw_ret ?_
                exact ret_a ⟨[(4, .bool true)], [], 0⟩ (le_to [] rfl rfl rfl rfl rfl ⟨rfl, trivial⟩ trivial) (res1 Try.results6) (.inr ⟨rfl, rfl⟩) rfl
  · skip
    refine ac_fn Try.func6 rfl rfl rfl rfl (fun w0 S0 r0 => ?_)
    refine aw_seq ?_
    refine aw_region ?_
    refine st_p (mva rfl) rfl ?_
    refine al_nil ?_
    refine nm ?_
    refine aw_seq ?_
    refine aw_seq ?_
    refine aw_region ?_
    -- STOP: call diwan/diwanlaw5.begun() -> 14
    refine st_o ((op_callq (hb) Try.func19 ⟨rfl, rfl⟩ rfl rfl (fun nx => .nil) (by rintro _ _ _ ⟨rfl, rfl, rfl⟩; exact .same rfl)).ok) rfl ?_
    refine st_p (op_notT rfl) rfl ?_
    refine al_nil ?_
    refine nm ?_
    -- IF t15
    refine aw_no (rfl) ?_
    refine aw_skip ?_
    refine nm ?_
    refine aw_seq ?_
    refine aw_seq ?_
    refine aw_region ?_
    refine st_p (mv rfl) rfl ?_
    refine st_p (op_len Try.underlying22 rfl) rfl ?_
    refine st_p (OpP.conv (op_gt rfl rfl) (yes (by first | assumption | omega))) rfl ?_
    refine al_nil ?_
    refine nm ?_
    -- IF t18
    refine aw_yes (rfl) ?_
    refine aw_seq ?_
    refine aw_region ?_
    refine st_p (mva rfl) rfl ?_
    refine al_nil ?_
    refine nm ?_
    refine aw_ret ?_
    refine rs ?_
    exact ret_v (res1 Try.results6) (.inr ⟨rfl, rfl⟩) rfl

end Go.Proofs.Ytloddmbbfkejcaa.Abs
end
