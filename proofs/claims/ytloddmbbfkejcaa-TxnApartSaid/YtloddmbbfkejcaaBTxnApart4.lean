/- Texts of this session, merged: AbsZ, RunBegun5, ALawTxnApart. -/
import Derived.Test.YtloddmbbfkejcaaBTxnApart3
import Derived.Test.YtloddmbbfkejcaaBTxnApart1
set_option linter.unusedVariables false
set_option linter.unusedSimpArgs false
section
/-
  A machine that runs codes whose inputs are known: what it comes to is what the program comes to. It holds of any program.
-/
namespace Go.Proofs.Ytloddmbbfkejcaa.Abs

section
variable {P : Program}

theorem mkSg_ok {cf : CF} {l : List Oper} {its : List IV} {hs : List (Heap × Nat)} : ∀ (sp : List (List Nat × Nat × Nat)) (acc sg : List SG), mkSg P cf l its hs sp acc = some sg →
    ∃ tail, sg = acc ++ tail ∧ tail.length = sp.length ∧ ∀ (s : Nat) (q : List Nat × Nat × Nat) (g : SG), sp[s]? = some q → tail[s]? = some g → g.e = q.1 ∧ (q.2.1 = 0 → hs[q.2.2]? = some (g.h, g.x)) := by
  intro sp
  induction sp with
  | nil => intro acc sg h; simp only [mkSg, Option.some.injEq] at h; exact ⟨[], by simp [h], rfl, fun s q g hq => by simp at hq⟩
  | cons q sp ih =>
    intro acc sg h
    obtain ⟨e, p, k⟩ := q
    have step : ∀ (g0 : SG), g0.e = e → (p = 0 → hs[k]? = some (g0.h, g0.x)) → mkSg P cf l its hs sp (acc ++ [g0]) = some sg → ∃ tail, sg = acc ++ tail ∧ tail.length = ((e, p, k) :: sp).length ∧ ∀ (s : Nat) (q : List Nat × Nat × Nat) (g : SG), ((e, p, k) :: sp)[s]? = some q → tail[s]? = some g → g.e = q.1 ∧ (q.2.1 = 0 → hs[q.2.2]? = some (g.h, g.x)) := by
      intro g0 h1 h2 h3
      obtain ⟨tail, t1, t2, t3⟩ := ih _ _ h3
      refine ⟨g0 :: tail, by rw [t1]; simp, by simp [t2], fun s q g hq hg => ?_⟩
      cases s with
      | zero =>
        simp only [List.getElem?_cons_zero, Option.some.injEq] at hq hg
        subst hq; subst hg
        exact ⟨h1, h2⟩
      | succ s => simp only [List.getElem?_cons_succ] at hq hg; exact t3 s q g hq hg
    cases p with
    | zero =>
      simp only [mkSg] at h
      split at h
      · rename_i hh x hk
        exact step ⟨e, hh, x⟩ rfl (fun _ => hk) h
      · cases h
    | succ p =>
      simp only [mkSg] at h
      split at h
      · rename_i g o it h1 h2 h3
        split at h
        · exact step ⟨e, g.h, b1of its hs k⟩ rfl (fun e => by cases e) h
        · split at h
          · rename_i v h' x' hv
            exact step ⟨e, h', x'⟩ rfl (fun e => by cases e) h
          · cases h
      · cases h

def toIX (its : List IV) (hs : List (Heap × Nat)) : List IX := its.mapIdx fun i it => ⟨it.v, it.ef, b0of its hs i, b1of its hs i, it.tm⟩

theorem toIX_get {its : List IV} {hs : List (Heap × Nat)} {i : Nat} : (toIX its hs)[i]? = (its[i]?).map fun it => ⟨it.v, it.ef, b0of its hs i, b1of its hs i, it.tm⟩ := by
  unfold toIX
  rw [List.getElem?_mapIdx]

theorem toIX_some {its : List IV} {hs : List (Heap × Nat)} {i : Nat} {ix : IX} (h : (toIX its hs)[i]? = some ix) : ∃ it, its[i]? = some it ∧ ix = ⟨it.v, it.ef, b0of its hs i, b1of its hs i, it.tm⟩ := by
  rw [toIX_get] at h
  obtain ⟨it, h1, h2⟩ := Option.map_eq_some_iff.1 h
  exact ⟨it, h1, h2.symm⟩

theorem hrOK_ok {X β β1 k : Nat} {H1 H2 : Heap} (h : hrOK X β β1 k H1 H2 = true) : HR X β β1 H1 H2 := by
  intro b B hb
  have mem : ∀ (H : Heap) (B : Blk), hget H b = some B → ∃ p ∈ H, p.1 = b := by
    intro H
    induction H with
    | nil => intro B e; cases e
    | cons q t ih =>
      obtain ⟨j, v⟩ := q
      intro B e
      by_cases ej : j = b
      · exact ⟨(j, v), List.mem_cons_self, ej⟩
      · simp only [hget, ej, if_false] at e
        obtain ⟨p, hp, he⟩ := ih B e
        exact ⟨p, List.mem_cons_of_mem _ hp, he⟩
  obtain ⟨p, hp, rfl⟩ := mem H2 B hb
  unfold hrOK at h
  have := List.all_eq_true.1 h p hp
  split at this
  · rename_i B' hB'
    rw [hgetF_eq, hb] at hB'
    obtain rfl := Option.some.inj hB'
    simp only [] at this
    generalize (if (Nat.ble β p.fst && p.fst.blt (β + k)) = true then p.fst - β + X else p.fst) = b1 at this
    split at this
    · rename_i B1 hB1
      simp only [Bool.and_eq_true, Bool.or_eq_true] at this
      obtain ⟨⟨h1, h2⟩, h3⟩ := this
      refine ⟨b1, B1, hgO hB1, Nat.eq_of_beq_eq_true h1, blkEq_ok h2, fun hlt => ?_⟩
      rcases h3 with (h3 | h3) | h3
      · have := Nat.le_of_ble_eq_true h3; omega
      · exact .inl (by simpa using h3)
      · exact .inr (Nat.le_of_ble_eq_true h3)
    · cases this
  · cases this

/-- What another place of an operation says. -/
def ExX (P : Program) (its : List IV) (hs : List (Heap × Nat)) (sg : List SG) (i s' : Nat) (o : Oper) (it : IV) (g : SG) : Prop :=
  if it.ef then ∃ g', sg[s']? = some g' ∧ EffX P o.op it.tm g g' ⟨it.v, it.ef, b0of its hs i, b1of its hs i, it.tm⟩ else OpQ P o.op it.tm g.h it.v

theorem exOK_ok {cf : CF} (hcf : CFok P cf) {l : List Oper} {its : List IV} {hs : List (Heap × Nat)} {sg : List SG} {q : Nat × Nat × Nat} (h : exOK P cf l its hs sg q = true) {o : Oper} {it : IV} {g : SG} (ho : l[q.1]? = some o) (hit : its[q.1]? = some it) (hg : sg[q.2.1]? = some g) :
    match o.guard with
    | none => ExX P its hs sg q.1 q.2.2 o it g
    | some (j, b) => ∃ r w, its[j]? = some r ∧ gv r.v = some w ∧ (w = some b → ExX P its hs sg q.1 q.2.2 o it g) ∧ (w ≠ some b → it.ef = true → ∃ g', sg[q.2.2]? = some g' ∧ g'.h = g.h ∧ g.x ≤ g'.x) := by
  have go : exOK.go P cf its hs sg q o it g = true → ExX P its hs sg q.1 q.2.2 o it g := by
    intro hh
    unfold exOK.go at hh
    unfold ExX
    cases hef : it.ef with
    | true =>
      rw [hef] at hh
      simp only [if_true] at hh ⊢
      split at hh
      · rename_i g' hg'
        refine ⟨g', hg', ?_⟩
        split at hh
        · rename_i hle
          split at hh
          · rename_i v h' x' hv
            simp only [Bool.and_eq_true] at hh
            obtain ⟨⟨⟨k1, k2⟩, k3⟩, k4⟩ := hh
            have k1 := avEq_ok _ _ k1
            have k2 := heapEq_ok _ _ k2
            have k3 := Nat.eq_of_beq_eq_true k3
            have k4 := Nat.eq_of_beq_eq_true k4
            subst k1 k2
            refine .inl ⟨Nat.le_of_ble_eq_true hle, by rw [k4]; exact k3, ?_⟩
            rw [k4]
            exact stepAny_ok hcf hv
          · cases hh
        · simp only [Bool.and_eq_true] at hh
          obtain ⟨⟨k1, k2⟩, hh⟩ := hh
          split at hh
          · rename_i v1 h1 x1 hv
            simp only [Bool.and_eq_true] at hh
            obtain ⟨⟨⟨k3, k4⟩, k5⟩, k6⟩ := hh
            have k3 := Nat.le_of_ble_eq_true k3
            refine .inr ⟨Nat.le_of_ble_eq_true k1, Nat.eq_of_beq_eq_true k2, v1, h1, x1 - g.x, ?_, Nat.le_of_ble_eq_true k4, avEq_ok _ _ k5, hrOK_ok k6⟩
            rw [Nat.add_sub_cancel' k3]
            exact stepAny_ok hcf hv
          · cases hh
      · cases hh
    | false =>
      rw [hef] at hh
      simp only [Bool.false_eq_true, if_false] at hh ⊢
      split at hh
      · rename_i v hv
        rw [← avEq_ok _ _ hh]
        exact stepQ_ok hcf hv
      · cases hh
  unfold exOK at h
  rw [ho, hit, hg] at h
  simp only [] at h
  split at h
  · rename_i j b hgd
    rw [hgd]
    simp only []
    split at h
    · rename_i r hr
      split at h
      · rename_i w hw
        refine ⟨r, w, hr, hw, fun e => ?_, fun e hef => ?_⟩
        · rw [if_pos (by simp [e])] at h; exact go h
        · rw [if_neg (by simpa using e), if_pos hef] at h
          split at h
          · rename_i g' hg'
            simp only [Bool.and_eq_true] at h
            exact ⟨g', hg', (heapEq_ok _ _ h.1).symm, Nat.le_of_ble_eq_true h.2⟩
          · cases h
      · cases h
    · cases h
  · rename_i hgd
    rw [hgd]
    exact go h

theorem rankP_eq {ps : List (Nat × List Nat)} {its : List IV} (hl : ps.length = its.length) (he : ∀ (i : Nat) (p : Nat × List Nat) (it : IV), ps[i]? = some p → its[i]? = some it → it.ef = Nat.ble 2 p.1) (i : Nat) : rankP ps i = rankV its i := by
  have e : its.map (·.ef) = ps.map (fun p => Nat.ble 2 p.1) := by
    refine List.ext_getElem? fun k => ?_
    rw [List.getElem?_map, List.getElem?_map]
    cases h1 : its[k]? with
    | none =>
      rw [List.getElem?_eq_none_iff] at h1
      rw [List.getElem?_eq_none (by omega)]; rfl
    | some it =>
      obtain ⟨p, hp⟩ : ∃ p, ps[k]? = some p := ⟨_, List.getElem?_eq_getElem (by rw [hl]; exact (List.getElem?_eq_some_iff.1 h1).1)⟩
      rw [hp, Option.map_some, Option.map_some, he k p it hp h1]
  unfold rankP rankV
  have c1 : (ps.take i).countP (fun p => Nat.ble 2 p.1) = ((ps.map (fun p => Nat.ble 2 p.1)).take i).countP id := by rw [← List.map_take, List.countP_map]; rfl
  have c2 : (its.take i).countP (fun it => it.ef) = ((its.map (·.ef)).take i).countP id := by rw [← List.map_take, List.countP_map]; rfl
  rw [c1, c2, e]

theorem monoX_ok : ∀ (hs : List (Heap × Nat)), monoX hs = true → ∀ (j i : Nat) (p q : Heap × Nat), i ≤ j → hs[i]? = some p → hs[j]? = some q → p.2 ≤ q.2
  | [], _, j, i, p, q, _, hp, _ => by simp at hp
  | [a], _, j, i, p, q, hij, hp, hq => by
    have h1 : i < 1 := (List.getElem?_eq_some_iff.1 hp).1
    have h2 : j < 1 := (List.getElem?_eq_some_iff.1 hq).1
    obtain rfl : i = 0 := by omega
    obtain rfl : j = 0 := by omega
    rw [hp] at hq
    obtain rfl := Option.some.inj hq
    exact Nat.le_refl _
  | a :: b :: t, h, j, i, p, q, hij, hp, hq => by
    simp only [monoX, Bool.and_eq_true] at h
    cases j with
    | zero =>
      obtain rfl : i = 0 := by omega
      rw [hp] at hq
      obtain rfl := Option.some.inj hq
      exact Nat.le_refl _
    | succ j =>
      rw [List.getElem?_cons_succ] at hq
      cases i with
      | zero =>
        simp only [List.getElem?_cons_zero, Option.some.injEq] at hp
        subst hp
        exact Nat.le_trans (Nat.le_of_ble_eq_true h.1) (monoX_ok (b :: t) h.2 j 0 b q (Nat.zero_le _) rfl hq)
      | succ i =>
        rw [List.getElem?_cons_succ] at hp
        exact monoX_ok (b :: t) h.2 j i p q (by omega) hp hq

theorem sameS_ok {l l' : List Nat} (h : sameS l l' = true) (j : Nat) : j ∈ l ↔ j ∈ l' := by
  unfold sameS at h
  simp only [Bool.and_eq_true] at h
  constructor
  · intro hj; have := List.all_eq_true.1 h.1 j hj; simpa using this
  · intro hj; have := List.all_eq_true.1 h.2 j hj; simpa using this

/-- A region whose order is open. -/
theorem drawn_ok {cf : CF} (hcf : CFok P cf) (hm : P.follows .mixedOrders = true) {c : Ctx} {n id : Nat} {Q : Exit → St → Prop} {l : List Oper} {pl : PL} {st st' : St} (h : drawn P cf n l pl st = some st') (hQ : Q .normal st') : AW P c n (.region id l.toArray true) Q st := by
  unfold drawn at h
  split at h
  · rename_i hchk
    rw [Bool.and_eq_true] at hchk
    obtain ⟨hchk, hdn⟩ := hchk
    split at h
    · rename_i its0 hs0 fr st1 hrun
      split at h
      · rename_i hmono
        split at h
        · rename_i sg hsg
          split at h
          · rename_i hex
            obtain rfl := Option.some.inj h
            have hF := runDraw_ok (P := P) hcf (st0 := st) l pl.its [] [] [] [(st.h, st.nx)] [] st its0 hs0 fr st1 hrun
              ⟨rfl, rfl, fun i p it h => by simp at h, rfl, rfl, rfl, fun i o it h => by simp at h, fun i p it x h => by simp at h, fun i o it x h => by simp at h, fun _ _ => rfl, fun i hi => by cases hi⟩
            rw [List.nil_append, List.nil_append] at hF
            generalize its0.reverse = its at hF hsg hex
            generalize hs0.reverse = hs at hF hsg hex hmono
            obtain ⟨tail, t1, t2, t3⟩ := mkSg_ok _ _ _ hsg
            rw [List.nil_append] at t1
            subst t1
            have hefp := hF.efp
            have hrk : ∀ i, rankP pl.its i = rankV its i := rankP_eq hF.plen (fun i p it a b => (hefp i p it a b).1)
            unfold chkX at hchk
            simp only [Bool.and_eq_true] at hchk
            obtain ⟨⟨⟨⟨⟨⟨cA, cB⟩, cC⟩, cD⟩, cE⟩, cF⟩, cG⟩ := hchk
            -- an operation's checks
            have one : ∀ (i : Nat) (o : Oper), l[i]? = some o → ∃ k ks it, pl.its[i]? = some (k, ks) ∧ its[i]? = some it ∧ it.ef = Nat.ble 2 k ∧ chkX1 l pl i o k ks = true := fun i o ho => by
              have hil : i < l.length := (List.getElem?_eq_some_iff.1 ho).1
              obtain ⟨it, hit⟩ : ∃ it, its[i]? = some it := ⟨_, List.getElem?_eq_getElem (by rw [← hF.len]; exact hil)⟩
              obtain ⟨p, hp⟩ : ∃ p, pl.its[i]? = some p := ⟨_, List.getElem?_eq_getElem (by rw [hF.plen, ← hF.len]; exact hil)⟩
              have := List.all_eq_true.1 cB i (List.mem_range.2 hil)
              rw [ho, hp] at this
              exact ⟨p.1, p.2, it, hp, hit, (hefp i p it hp hit).1, this⟩
            have o_of : ∀ (i : Nat) (it : IV), its[i]? = some it → ∃ o, l[i]? = some o := fun i it h => ⟨_, List.getElem?_eq_getElem (by rw [hF.len]; exact (List.getElem?_eq_some_iff.1 h).1)⟩
            have q_of : ∀ (s : Nat) (g : SG), sg[s]? = some g → ∃ q, pl.sp[s]? = some q ∧ g.e = q.1 ∧ (q.2.1 = 0 → hs[q.2.2]? = some (g.h, g.x)) := fun s g hg => by
              obtain ⟨q, hq⟩ : ∃ q, pl.sp[s]? = some q := ⟨_, List.getElem?_eq_getElem (by rw [← t2]; exact (List.getElem?_eq_some_iff.1 hg).1)⟩
              exact ⟨q, hq, t3 s q g hq hg⟩
            have g_of : ∀ (s : Nat) (q : List Nat × Nat × Nat), pl.sp[s]? = some q → ∃ g, sg[s]? = some g ∧ g.e = q.1 ∧ (q.2.1 = 0 → hs[q.2.2]? = some (g.h, g.x)) := fun s q hq => by
              obtain ⟨g, hg⟩ : ∃ g, sg[s]? = some g := ⟨_, List.getElem?_eq_getElem (by rw [t2]; exact (List.getElem?_eq_some_iff.1 hq).1)⟩
              exact ⟨g, hg, t3 s q g hq hg⟩
            have up : ∀ (i : Nat) (o : Oper), l[i]? = some o → ∀ p ∈ edges o, p < i := fun i o ho p hp => by
              obtain ⟨k, ks, it, _, _, _, hc⟩ := one i o ho
              unfold chkX1 at hc
              simp only [Bool.and_eq_true] at hc
              have := List.all_eq_true.1 hc.1.1.1.1.1.1 p hp
              simpa using this
            have dist0 : ∀ (i j : Nat) (o o' : Oper) (d : Nat), j < i → l[i]? = some o → l[j]? = some o' → o.dst = some d → o'.dst = some d → False := fun i j o o' d hij ho ho' hd hd' => by
              obtain ⟨k, ks, it, _, _, _, hc⟩ := one i o ho
              unfold chkX1 at hc
              simp only [Bool.and_eq_true] at hc
              have h2 := hc.1.1.1.1.1.2
              rw [hd] at h2
              simp only [] at h2
              have hm : o' ∈ l.take i := List.mem_of_getElem? (i := j) (by rw [List.getElem?_take_of_lt hij]; exact ho')
              have := List.all_eq_true.1 h2 o' hm
              rw [dstIs_iff.2 hd'] at this
              cases this
            have dist : ∀ (i j : Nat) (o o' : Oper) (d : Nat), l[i]? = some o → l[j]? = some o' → o.dst = some d → o'.dst = some d → i = j := fun i j o o' d ho ho' hd hd' => by
              rcases Nat.lt_trichotomy i j with h1 | h1 | h1
              · exact (dist0 j i o' o d h1 ho' ho hd' hd).elim
              · exact h1
              · exact (dist0 i j o o' d h1 ho ho' hd hd').elim
            have hlen : sg.length = pl.sp.length := t2
            have hrank : ∀ i, i ≤ its.length → ∃ p, hs[rankV its i]? = some p := fun i hi => ⟨_, List.getElem?_eq_getElem (by rw [hF.hlen]; have := rankV_mono its hi; omega)⟩
            have hb : ∀ (i : Nat) (it : IV), its[i]? = some it → it.ef = true → ∃ p q, hs[rankV its i]? = some p ∧ hs[rankV its i + 1]? = some q ∧ b0of its hs i = p.2 ∧ b1of its hs i = q.2 ∧ p.2 ≤ q.2 := fun i it hit hef => by
              have hil : i < its.length := (List.getElem?_eq_some_iff.1 hit).1
              obtain ⟨p, hp⟩ := hrank i (by omega)
              have hlt := rankV_lt (j := its.length) hil hit hef
              obtain ⟨q, hq⟩ : ∃ q, hs[rankV its i + 1]? = some q := ⟨_, List.getElem?_eq_getElem (by rw [hF.hlen]; omega)⟩
              exact ⟨p, q, hp, hq, by unfold b0of; rw [hp], by unfold b1of; rw [hq], monoX_ok hs hmono _ _ p q (by omega) hp hq⟩
            have hplan : PlanX l (toIX its hs) sg pl.m (dnF pl.dn) (dnF pl.un) := by
              refine ⟨by unfold toIX; rw [List.length_mapIdx]; exact hF.len, up, dist, fun i s ix g hix hef hg => ?_, fun i s o ix ho hix hef hs' hall => ?_, fun i s ix hix hef hs' hall => ?_, fun i j ix jx hix hjx hef hjf hne => ?_, fun s g hg hall => ?_, fun i o j b ho hgd => ?_⟩
              · obtain ⟨it, hit, rfl⟩ := toIX_some hix
                obtain ⟨o, ho⟩ := o_of i it hit
                obtain ⟨k, ks, it', hp, hit', hk, hc⟩ := one i o ho
                rw [hit] at hit'
                obtain rfl := Option.some.inj hit'
                unfold chkX1 at hc
                simp only [Bool.and_eq_true] at hc
                have h3 := hc.1.1.1.1.2
                rw [if_pos (by rw [← hk]; exact hef)] at h3
                obtain ⟨q, hq, hqe, _⟩ := q_of s g hg
                have := List.all_eq_true.1 h3 s (List.mem_range.2 (List.getElem?_eq_some_iff.1 hq).1)
                rw [hq] at this
                simp only [Bool.and_eq_true, Bool.or_eq_true, Bool.not_eq_true'] at this
                rw [hqe]
                exact ⟨fun hmem => this.1.resolve_left (by simp [hmem]), fun hmem => this.2.resolve_left (by simp [hmem])⟩
              · obtain ⟨it, hit, rfl⟩ := toIX_some hix
                obtain ⟨k, ks, it', hp, hit', hk, hc⟩ := one i o ho
                rw [hit] at hit'
                obtain rfl := Option.some.inj hit'
                unfold chkX1 at hc
                simp only [Bool.and_eq_true] at hc
                have h3 := hc.1.1.1.1.2
                have hef : it.ef = false := hef
                rw [if_neg (by rw [← hk, hef]; simp)] at h3
                have := List.all_eq_true.1 h3 s (List.mem_range.2 (by rw [← hlen]; exact hs'))
                simp only [Bool.and_eq_true, Bool.or_eq_true, Bool.not_eq_true'] at this
                refine this.1.resolve_left fun e => ?_
                have e2 : ((edges o).all fun p => dnF pl.dn p s) = true := List.all_eq_true.2 hall
                rw [e2] at e
                cases e
              · obtain ⟨it, hit, rfl⟩ := toIX_some hix
                obtain ⟨o, ho⟩ := o_of i it hit
                obtain ⟨k, ks, it', hp, hit', hk, hc⟩ := one i o ho
                rw [hit] at hit'
                obtain rfl := Option.some.inj hit'
                unfold chkX1 at hc
                simp only [Bool.and_eq_true] at hc
                have h3 := hc.1.1.1.1.2
                have hef : it.ef = false := hef
                rw [if_neg (by rw [← hk, hef]; simp)] at h3
                have := List.all_eq_true.1 h3 s (List.mem_range.2 (by rw [← hlen]; exact hs'))
                simp only [Bool.and_eq_true, Bool.or_eq_true, Bool.not_eq_true'] at this
                refine this.2.resolve_left fun e => ?_
                rw [← Bool.not_eq_true, List.all_eq_true] at e
                refine e fun j hj => ?_
                cases hj' : l[j]? with
                | none => rfl
                | some o' =>
                  simp only [Bool.or_eq_true, Bool.not_eq_true']
                  by_cases hmem : i ∈ edges o'
                  · exact .inr (hall j o' hj' hmem)
                  · exact .inl (by simpa using hmem)
              · obtain ⟨it, hit, rfl⟩ := toIX_some hix
                obtain ⟨jt, hjt, rfl⟩ := toIX_some hjx
                obtain ⟨p, q, p1, p2, p3, p4, p5⟩ := hb i it hit hef
                obtain ⟨p', q', r1, r2, r3, r4, r5⟩ := hb j jt hjt hjf
                show b1of its hs i ≤ b0of its hs j ∨ b1of its hs j ≤ b0of its hs i
                rcases Nat.lt_or_ge i j with hij | hij
                · have := rankV_lt hij hit hef
                  rw [p4, r3]
                  exact .inl (monoX_ok hs hmono _ _ q p' this p2 r1)
                · have := rankV_lt (show j < i by omega) hjt hjf
                  rw [r4, p3]
                  exact .inr (monoX_ok hs hmono _ _ q' p this r2 p1)
              · obtain ⟨q, hq, hqe, _⟩ := q_of s g hg
                have := List.all_eq_true.1 cC s (List.mem_range.2 (List.getElem?_eq_some_iff.1 hq).1)
                rw [hq] at this
                simp only [Bool.or_eq_true] at this
                rcases this with h1 | h1
                · exact Nat.eq_of_beq_eq_true h1
                · rw [List.any_eq_true] at h1
                  obtain ⟨i, hi, h2⟩ := h1
                  simp only [Bool.and_eq_true, Bool.not_eq_true'] at h2
                  have hil : i < its.length := by rw [← hF.plen]; exact List.mem_range.1 hi
                  obtain ⟨it, hit⟩ : ∃ it, its[i]? = some it := ⟨_, List.getElem?_eq_getElem hil⟩
                  obtain ⟨p, hp⟩ : ∃ p, pl.its[i]? = some p := ⟨_, List.getElem?_eq_getElem (by rw [hF.plen]; exact hil)⟩
                  have hef : it.ef = true := by
                    rw [(hefp i p it hp hit).1]
                    have := h2.1
                    unfold isEf at this
                    rw [hp] at this
                    exact this
                  have := hall i _ (by rw [toIX_get, hit]; rfl) hef
                  rw [hqe] at this
                  rw [List.contains_iff_mem.2 this] at h2
                  cases h2.2
              · obtain ⟨k, ks, it, _, _, _, hc⟩ := one i o ho
                unfold chkX1 at hc
                simp only [Bool.and_eq_true] at hc
                have h6 := hc.1.1.2
                rw [hgd] at h6
                simp only [Bool.and_eq_true] at h6
                refine ⟨by simpa using h6.1, ?_⟩
                cases ho' : l[j]? with
                | none => rw [ho'] at h6; cases h6.2
                | some o' =>
                  rw [ho'] at h6
                  obtain ⟨d, hd⟩ := Option.isSome_iff_exists.1 h6.2
                  exact ⟨o', d, rfl, hd⟩
            have hsees : SeesX l (toIX its hs) st.tm := by
              intro i o ix x ho hix
              obtain ⟨it, hit, rfl⟩ := toIX_some hix
              obtain ⟨k, ks, it', hp, hit', hk, hc⟩ := one i o ho
              rw [hit] at hit'
              obtain rfl := Option.some.inj hit'
              rcases hF.sees i (k, ks) it x hp hit with e | ⟨e1, e2, e3⟩
              · exact .inl e
              · refine .inr ?_
                unfold chkX1 at hc
                simp only [Bool.and_eq_true] at hc
                have := List.all_eq_true.1 hc.1.1.1.2 x e1
                rw [Bool.or_eq_true] at this
                rcases this with h5 | h5
                · rw [List.any_eq_true] at h5
                  obtain ⟨p, hp1, h5⟩ := h5
                  cases ho' : l[p]? with
                  | none => rw [ho'] at h5; cases h5
                  | some o' =>
                    rw [ho'] at h5
                    have hd := dstIs_iff.1 h5
                    obtain ⟨_, _, jt, _, hjt, _, _⟩ := one p o' ho'
                    have hpi := up i o ho p hp1
                    refine .inl ⟨p, hp1, o', _, ho', by rw [toIX_get, hjt]; rfl, hd, ?_⟩
                    exact e2 p o' jt hpi ho' hjt hd (fun k' o'' hk1 hk2 ho'' hd'' => by have := dist p k' o' o'' x ho' ho'' hd hd''; omega)
                · rw [List.all_eq_true] at h5
                  have key : ∀ (j : Nat) (o' : Oper), l[j]? = some o' → o'.dst = some x → i ∈ edges o' := fun j o' hj hd => by
                    have := h5 o' (List.mem_of_getElem? hj)
                    rw [dstIs_iff.2 hd] at this
                    simpa using this
                  exact .inr ⟨e3 fun j o' hj ho' hd => by have := up j o' ho' i (key j o' ho' hd); omega, key⟩
            have hE : ∀ x, tget st1.tm x = entX l (toIX its hs) st.tm x := fun x => by
              obtain ⟨e1, e2⟩ := entX_spec l (toIX its hs) st.tm x hplan.len dist
              by_cases hx : ∃ (i : Nat) (o : Oper), l[i]? = some o ∧ o.dst = some x
              · obtain ⟨i, o, ho, hx⟩ := hx
                obtain ⟨_, _, it, _, hit, _, _⟩ := one i o ho
                rw [e1 i o _ ho (by rw [toIX_get, hit]; rfl) hx]
                exact hF.val i o it x ho hit hx (fun j o' hij hj hd => by have := dist i j o o' x ho hj hx hd; omega)
              · rw [e2 (fun i o ho hx' => hx ⟨i, o, ho, hx'⟩)]
                exact hF.old x (fun i o ho hx' => hx ⟨i, o, ho, hx'⟩)
            -- the text's own stages
            have htp : ∀ (k s : Nat), pl.tp[k]? = some s → ∃ g, sg[s]? = some g ∧ hs[k]? = some (g.h, g.x) := fun k s hk => by
              have := List.all_eq_true.1 cE k (List.mem_range.2 (List.getElem?_eq_some_iff.1 hk).1)
              rw [hk] at this
              simp only [] at this
              split at this
              · rename_i e k' hq
                have e1 := Nat.eq_of_beq_eq_true this
                subst e1
                obtain ⟨g, hg, _, h2⟩ := g_of s _ hq
                exact ⟨g, hg, h2 rfl⟩
              · cases this
            have hm1 : pl.tp[rankV its its.length]? = some pl.m := by
              have := cG
              rw [← hF.plen, ← hrk]
              split at this
              · rename_i s hs'; rw [hs', Nat.eq_of_beq_eq_true this]
              · cases this
            obtain ⟨gm, hgm1, hgm2⟩ := htp _ _ hm1
            have hgl := hF.last
            rw [hgm2] at hgl
            obtain ⟨e1, e2⟩ := Prod.mk.inj (Option.some.inj hgl)
            have h00 : sg[0]? = some ⟨[], st.h, st.nx⟩ := by
              have := cF
              split at this
              · rename_i htp0 hsp0
                obtain ⟨g, hg, hge, hg2⟩ := g_of 0 _ hsp0
                have := hg2 rfl
                rw [hF.zero] at this
                obtain ⟨k1, k2⟩ := Prod.mk.inj (Option.some.inj this)
                rw [hg]
                obtain ⟨ge, gh, gx⟩ := g
                simp only at hge k1 k2
                rw [hge, k1, k2]
              · cases this
            refine aw_drawX hm hplan hsees (fun o ho d hd => ?_) hE (fun i ix hix hef => ?_) (fun i s o ho hs' hall hun => ?_) h00 rfl hgm1 (by rw [e1, e2]; exact hQ)
            · have := List.all_eq_true.1 hdn o ho
              exact dstOK_ok this d hd
            · obtain ⟨it, hit, rfl⟩ := toIX_some hix
              obtain ⟨p, q, p1, p2, p3, p4, p5⟩ := hb i it hit hef
              show st.nx ≤ b0of its hs i ∧ b0of its hs i ≤ b1of its hs i
              rw [p3, p4]
              exact ⟨monoX_ok hs hmono _ _ _ p (Nat.zero_le _) hF.zero p1, p5⟩
            · intro o' ix g ho' hix hg
              rw [ho] at ho'
              obtain rfl := Option.some.inj ho'
              obtain ⟨it, hit, rfl⟩ := toIX_some hix
              obtain ⟨k, ks, it', hp, hit', hk, hc⟩ := one i o ho
              rw [hit] at hit'
              obtain rfl := Option.some.inj hit'
              unfold chkX1 at hc
              simp only [Bool.and_eq_true] at hc
              have hcov := List.all_eq_true.1 hc.1.2 s (List.mem_range.2 (by rw [← hlen]; exact hs'))
              have hnext := hc.2
              have hK := hF.known i o it ho hit
              obtain ⟨r, hG, hrT, hrF⟩ := hK
              have hall' : ((edges o).all fun p => dnF pl.dn p s) = true := List.all_eq_true.2 hall
              rw [hall', hun] at hcov
              simp only [Bool.not_true, Bool.false_or, Bool.or_eq_true] at hcov
              -- the text's own place
              have own : (∃ s', pl.tp[rankV its i]? = some s' ∧ s = s') → (r = true → RunX P o.op i ⟨it.v, it.ef, b0of its hs i, b1of its hs i, it.tm⟩ it.tm sg g) ∧
                  (r = false → it.ef = true → ∃ (s' : Nat) (g' : SG), sg[s']? = some g' ∧ (∀ j, j ∈ g'.e ↔ j ∈ g.e ∨ j = i) ∧ g'.h = g.h ∧ g.x ≤ g'.x) := by
                rintro ⟨s', hs1, rfl⟩
                obtain ⟨g1, hg1, hg2⟩ := htp _ _ hs1
                rw [hg] at hg1
                obtain rfl := Option.some.inj hg1
                have nxt : it.ef = true → ∃ (s' : Nat) (g' : SG), sg[s']? = some g' ∧ (∀ j, j ∈ g'.e ↔ j ∈ g.e ∨ j = i) ∧ hs[rankV its i + 1]? = some (g'.h, g'.x) := fun hef => by
                  rw [← hk, hef] at hnext
                  simp only [Bool.not_true, Bool.false_or] at hnext
                  rw [hrk, hs1] at hnext
                  split at hnext
                  · rename_i a b ha hb'
                    obtain rfl := Option.some.inj ha
                    split at hnext
                    · rename_i q q' hq hq'
                      obtain ⟨g', hg', _⟩ := htp _ _ hb'
                      obtain ⟨_, h2⟩ := htp _ _ hb'
                      obtain ⟨g3, hg3, hge3, _⟩ := g_of b q' hq'
                      obtain ⟨g4, hg4, hge4, _⟩ := g_of s q hq
                      rw [hg] at hg4
                      obtain rfl := Option.some.inj hg4
                      obtain ⟨g5, hg5, hg6⟩ := htp _ _ hb'
                      rw [hg3] at hg5
                      obtain rfl := Option.some.inj hg5
                      refine ⟨b, g3, hg3, fun j => ?_, hg6⟩
                      rw [hge3, hge4, sameS_ok hnext j, List.mem_cons]
                      exact ⟨fun h => h.elim .inr .inl, fun h => h.elim .inr .inl⟩
                    · cases hnext
                  · cases hnext
                refine ⟨fun hr => ?_, fun hr hef => ?_⟩
                · obtain ⟨⟨H, X, k1, k2⟩, _⟩ := hrT hr
                  rw [hg2] at k1
                  obtain ⟨rfl, rfl⟩ := Prod.mk.inj (Option.some.inj k1)
                  unfold RunX
                  show (if it.ef = true then _ else _)
                  cases hef : it.ef with
                  | true =>
                    rw [hef] at k2
                    simp only [if_true] at k2 ⊢
                    obtain ⟨H', X', k3, k4⟩ := k2
                    obtain ⟨s', g', n1, n2, n3⟩ := nxt hef
                    rw [n3] at k3
                    obtain ⟨rfl, rfl⟩ := Prod.mk.inj (Option.some.inj k3)
                    refine ⟨s', g', n1, n2, .inl ?_⟩
                    have b0e : b0of its hs i = g.x := by unfold b0of; rw [hg2]
                    have b1e : b1of its hs i = g'.x := by unfold b1of; rw [n3]
                    exact ⟨Nat.le_of_eq b0e.symm, b1e.symm, by show OpOK P o.op ⟨it.tm, g.h, b0of its hs i⟩ it.v g'.h g'.x; rw [b0e]; exact k4⟩
                  | false =>
                    rw [hef] at k2
                    simp only [Bool.false_eq_true, if_false] at k2 ⊢
                    exact k2
                · obtain ⟨_, k5⟩ := hrF hr
                  obtain ⟨H, X, k1, k2⟩ := k5 hef
                  rw [hg2] at k1
                  obtain ⟨rfl, rfl⟩ := Prod.mk.inj (Option.some.inj k1)
                  obtain ⟨s', g', n1, n2, n3⟩ := nxt hef
                  rw [n3] at k2
                  obtain ⟨e5, e6⟩ := Prod.mk.inj (Option.some.inj k2)
                  exact ⟨s', g', n1, n2, e5, Nat.le_of_eq e6.symm⟩
              -- another place
              have oth : (∃ q ∈ pl.ex, q.1 = i ∧ q.2.1 = s) → match o.guard with
                  | none => RunX P o.op i ⟨it.v, it.ef, b0of its hs i, b1of its hs i, it.tm⟩ it.tm sg g
                  | some (j, b) => ∃ r w, its[j]? = some r ∧ gv r.v = some w ∧ (w = some b → RunX P o.op i ⟨it.v, it.ef, b0of its hs i, b1of its hs i, it.tm⟩ it.tm sg g) ∧
                    (w ≠ some b → it.ef = true → ∃ (s' : Nat) (g' : SG), sg[s']? = some g' ∧ (∀ j, j ∈ g'.e ↔ j ∈ g.e ∨ j = i) ∧ g'.h = g.h ∧ g.x ≤ g'.x) := by
                rintro ⟨⟨qi, qs, qt⟩, hq, rfl, rfl⟩
                have h1 := exOK_ok hcf (List.all_eq_true.1 hex _ hq) ho hit hg
                have hmem : it.ef = true → ∀ g', sg[qt]? = some g' → ∀ j, j ∈ g'.e ↔ j ∈ g.e ∨ j = qi := fun hef g' hg' j => by
                  have := List.all_eq_true.1 cD _ hq
                  simp only [] at this
                  split at this
                  · rename_i r1 r2 hr1 hr2
                    have hie : isEf pl qi = true := by
                      unfold isEf
                      rw [hp]
                      show Nat.ble 2 k = true
                      rw [← hk]; exact hef
                    rw [hie] at this
                    simp only [Bool.not_true, Bool.false_or] at this
                    obtain ⟨g3, hg3, hge3, _⟩ := g_of qt r2 hr2
                    obtain ⟨g4, hg4, hge4, _⟩ := g_of qs r1 hr1
                    rw [hg] at hg4
                    obtain rfl := Option.some.inj hg4
                    rw [hg'] at hg3
                    obtain rfl := Option.some.inj hg3
                    rw [hge3, hge4, sameS_ok this j, List.mem_cons]
                    exact ⟨fun h => h.elim .inr .inl, fun h => h.elim .inr .inl⟩
                  · cases this
                have conv : ExX P its hs sg qi qt o it g → RunX P o.op qi ⟨it.v, it.ef, b0of its hs qi, b1of its hs qi, it.tm⟩ it.tm sg g := fun hx => by
                  unfold ExX at hx
                  unfold RunX
                  show (if it.ef = true then _ else _)
                  cases hef : it.ef with
                  | true =>
                    rw [hef] at hx
                    simp only [if_true] at hx ⊢
                    obtain ⟨g', hg', hx⟩ := hx
                    exact ⟨qt, g', hg', hmem hef g' hg', hx⟩
                  | false =>
                    rw [hef] at hx
                    simp only [Bool.false_eq_true, if_false] at hx ⊢
                    exact hx
                split at h1
                · exact conv h1
                · obtain ⟨r1, w, k1, k2, k3, k4⟩ := h1
                  exact ⟨r1, w, k1, k2, fun e => conv (k3 e), fun e hef => by
                    obtain ⟨g', n1, n2, n3⟩ := k4 e hef
                    exact ⟨qt, g', n1, hmem hef g' n1, n2, n3⟩⟩
              have free : k = 0 → r = true → RunX P o.op i ⟨it.v, it.ef, b0of its hs i, b1of its hs i, it.tm⟩ it.tm sg g := fun hk0 hr => by
                obtain ⟨_, k2⟩ := hrT hr
                obtain ⟨k3, k4⟩ := k2 ((hefp i (k, ks) it hp hit).2 hk0)
                unfold RunX
                show (if it.ef = true then _ else _)
                rw [k3]
                simp only [Bool.false_eq_true, if_false]
                exact k4 _
              have sk0 : k = 0 → it.ef = true → False := fun hk0 hef => by rw [hk, hk0] at hef; cases hef
              cases hgd : o.guard with
              | none =>
                rw [hgd] at hG
                have hG : r = true := hG
                simp only []
                rcases hcov with (h1 | h1) | h1
                · exact free (Nat.eq_of_beq_eq_true h1) hG
                · refine (own ?_).1 hG
                  rw [hrk] at h1
                  split at h1
                  · rename_i s' hs1; exact ⟨s', hs1, Nat.eq_of_beq_eq_true h1⟩
                  · cases h1
                · rw [List.any_eq_true] at h1
                  obtain ⟨q, hq, h1⟩ := h1
                  simp only [Bool.and_eq_true] at h1
                  have := oth ⟨q, hq, Nat.eq_of_beq_eq_true h1.1, Nat.eq_of_beq_eq_true h1.2⟩
                  rw [hgd] at this
                  exact this
              | some jb =>
                obtain ⟨j, b⟩ := jb
                rw [hgd] at hG
                obtain ⟨qv, w, hqv, hw, hrw⟩ := hG
                have hqx : ∃ q, (toIX its hs)[j]? = some q ∧ gv q.v = some w := ⟨_, by rw [toIX_get, hqv]; rfl, hw⟩
                have hvn : w ≠ some b → it.v = .tup [] := fun e => (hrF (by rw [hrw]; simpa using e)).1
                simp only []
                rcases hcov with (h1 | h1) | h1
                · have hk0 := Nat.eq_of_beq_eq_true h1
                  exact ⟨w, hqx, fun e => free hk0 (by rw [hrw, e]; simp), fun e => ⟨hvn e, fun hef => (sk0 hk0 hef).elim⟩⟩
                · rw [hrk] at h1
                  split at h1
                  · rename_i s' hs1
                    obtain ⟨k1, k2⟩ := own ⟨s', hs1, Nat.eq_of_beq_eq_true h1⟩
                    exact ⟨w, hqx, fun e => k1 (by rw [hrw, e]; simp), fun e => ⟨hvn e, k2 (by rw [hrw]; simpa using e)⟩⟩
                  · cases h1
                · rw [List.any_eq_true] at h1
                  obtain ⟨q, hq, h1⟩ := h1
                  simp only [Bool.and_eq_true] at h1
                  have := oth ⟨q, hq, Nat.eq_of_beq_eq_true h1.1, Nat.eq_of_beq_eq_true h1.2⟩
                  rw [hgd] at this
                  obtain ⟨r1, w1, k1, k2, k3, k4⟩ := this
                  rw [hqv] at k1
                  obtain rfl := Option.some.inj k1
                  rw [hw] at k2
                  obtain rfl := Option.some.inj k2
                  exact ⟨w, hqx, k3, fun e => ⟨hvn e, k4 e⟩⟩
          · cases h
        · cases h
      · cases h
    · cases h
  · cases h

theorem loopN_ok {self : Self} (hs : RunOK P self) {n f : Nat} {x : Code} {ks : List Nat} {m : Nat} : ∀ (k : Nat) (st : St) (e : Exit) (st' : St), loopN (fun st => self n f x st) ks m k st = some (e, st') → ∀ c Q, Q e st' → LW P c n x Q st := by
  intro k
  induction k with
  | zero => intro st e st' h; simp only [loopN, reduceCtorEq] at h
  | succ k ih =>
    intro st e st' h c Q hQ
    simp only [loopN] at h
    split at h
    · rename_i st1 h1
      split at h
      · rename_i tm1 htm
        rw [forceL_eq] at h
        have hrest := ih _ _ _ h c Q hQ
        refine lw_round (hs _ _ _ _ _ _ h1 _ _ ?_)
        show LW P c n x Q st1
        intro ρ S a w hr
        exact hrest ρ S a w (hr.drop (selF_ok _ _ htm) (gcH_get _ _ _))
      · cases h
    · rename_i hne
      refine lw_round (hs _ _ _ _ _ _ h _ _ ?_)
      cases e with
      | normal => exact (hne st' h).elim
      | exit id => exact hQ
      | goto l => exact hQ
      | ret => exact hQ
      | panic ch => exact hQ
      | outgrown => exact hQ

theorem runStep_ok {T : Cfg} (hw : ∀ cf, CFok P cf → CFok P (T.wrap cf)) (hm : P.follows .mixedOrders = true) {self : Self} (hs : RunOK P self) : RunOK P (runStep P T self) := by
  intro n f code st e st' h c Q hQ
  unfold runStep at h
  split at h
  · simp only [Option.some.injEq, Prod.mk.injEq] at h; obtain ⟨rfl, rfl⟩ := h; exact aw_skip hQ
  · simp only [Option.some.injEq, Prod.mk.injEq] at h; obtain ⟨rfl, rfl⟩ := h; exact aw_exit hQ
  · simp only [Option.some.injEq, Prod.mk.injEq] at h; obtain ⟨rfl, rfl⟩ := h; exact aw_ret hQ
  · rename_i x y
    split at h
    · rename_i st1 h1
      exact aw_seq (hs _ _ _ _ _ _ h1 _ _ (hs _ _ _ _ _ _ h _ _ hQ))
    · rename_i hne
      refine aw_seq (hs _ _ _ _ _ _ h _ _ ?_)
      cases e with
      | normal => exact (hne st' h).elim
      | exit id => exact hQ
      | goto l => exact hQ
      | ret => exact hQ
      | panic ch => exact hQ
      | outgrown => exact hQ
  · rename_i id x
    split at h
    · rename_i id' st1 h1
      refine aw_block (hs _ _ _ _ _ _ h1 _ _ ?_)
      show (if id' = id then Q .normal st1 else Q (.exit id') st1)
      split at h
      · rename_i he
        rw [if_pos (Nat.eq_of_beq_eq_true he)]
        simp only [Option.some.injEq, Prod.mk.injEq] at h; obtain ⟨rfl, rfl⟩ := h; exact hQ
      · rename_i he
        rw [if_neg (fun e => he (by rw [e]; exact Nat.beq_refl _))]
        simp only [Option.some.injEq, Prod.mk.injEq] at h; obtain ⟨rfl, rfl⟩ := h; exact hQ
    · rename_i hne
      refine aw_block (hs _ _ _ _ _ _ h _ _ ?_)
      cases e with
      | exit id' => exact (hne id' st' h).elim
      | normal => exact hQ
      | goto l => exact hQ
      | ret => exact hQ
      | panic ch => exact hQ
      | outgrown => exact hQ
  · split at h
    · rename_i ho; exact aw_yes (oeO ho) (hs _ _ _ _ _ _ h _ _ hQ)
    · rename_i ho; exact aw_no (oeO ho) (hs _ _ _ _ _ _ h _ _ hQ)
    · cases h
  · exact lw_loop (loopN_ok hs _ _ _ _ h _ _ hQ)
  · rename_i id ops
    split at h
    · rename_i pl hpl
      split at h
      · rename_i st1 h1
        simp only [Option.some.injEq, Prod.mk.injEq] at h
        obtain ⟨rfl, rfl⟩ := h
        have := drawn_ok (hw _ (callFn_ok hs)) hm (c := c) (id := id) h1 hQ
        simpa using this
      · cases h
    · cases h
  · rename_i id ops
    split at h
    · rename_i st1 h1
      simp only [Option.some.injEq, Prod.mk.injEq] at h
      obtain ⟨rfl, rfl⟩ := h
      have := aw_region (id := id) (runOps_ok (hw _ (callFn_ok hs)) (c := c) _ _ _ h1 hQ)
      simpa using this
    · cases h
  · cases h

theorem run_ok {T : Cfg} (hw : ∀ cf, CFok P cf → CFok P (T.wrap cf)) (hm : P.follows .mixedOrders = true) (n : Nat) : RunOK P (run P T n) := by
  induction n with
  | zero => intro n f code st e st' h; cases h
  | succ n ih => exact runStep_ok hw hm ih

/-- What a run comes to is what a call comes to. -/
theorem runF_ok {T : Cfg} (hw : ∀ cf, CFok P cf → CFok P (T.wrap cf)) (hm : P.follows .mixedOrders = true) (n : Nat) : CFok P (runF P T n) := hw _ (callFn_ok (run_ok hw hm n))

/-- What is known of a call out of what an operation does. -/
theorem AC.of_op {f : FuncId} {fn : Func} (hf : P.funcs[f]? = some fn) (hn : (fn.name == "runtime.NumGoroutine") = false ∧ fn.body.isNone = false) {args : List AV} {h : Heap} {nx : Nat} {r : AV} {h' : Heap} {nx' : Nat} (hdom : h.all (fun p => p.1 < nx) = true) (hle : nx ≤ nx')
    (hop : OpOK P (.call { callee := .value (.func f), args := ((List.range args.length).map fun i => Operand.tmp i).toArray, argTypes := #[] }) ⟨argTm args, h, nx⟩ r h' nx') (al : Bool) (hal : al = true ∨ (r.nosl = true ∧ h'.all (fun p => p.2.nosl) = true)) :
    AC P f args h nx al (fun a b c => a = r ∧ b = h' ∧ c = nx') := by
  intro ρ S w vals hsim hfresh hargs
  have hrep : Rep ⟨w, Own ρ h, S, ρ, nx⟩ vals.size ⟨argTm args, h, nx⟩ ρ S { tmps := vals, defers := [] } w := by
    have hsz := hargs.1
    refine ⟨rfl, rfl, fun i => ?_, hsim, ⟨rfl, rfl, rfl, Nat.le_refl _, fun _ _ _ => rfl, fun _ h => h, fun _ h => .inl h, fun b B r h1 h2 => .inl ⟨b, B, r, h1, h2, rfl⟩, fun _ _ => rfl⟩, hfresh, Nat.le_refl _, fun b B hb => by simpa using hall_get hdom hb⟩
    rw [tget_argTm, if_pos (Nat.zero_le _), Nat.sub_zero]
    by_cases hi : i < args.length
    · have h1 : args[i]? = some args[i] := List.getElem?_eq_getElem hi
      have h2 : i < vals.size := by omega
      rw [h1]
      have h3 : vals.getD i undef = vals[i] := by simp [Array.getD_eq_getD_getElem?, h2]
      rw [h3]
      exact hargs.2 i _ _ h1 (by simp [h2])
    · rw [List.getElem?_eq_none (by omega)]
      exact .top
  have hd := hop _ _ ρ S _ w hrep ⟨none, _, 0, "", #[], none⟩ rfl
  unfold Does at hd
  have hv : (((List.range args.length).map fun i => Operand.tmp i).toArray.map (Act.eval { tmps := vals, defers := [] })) = vals := by
    refine Array.ext_getElem? fun i => ?_
    have hsz := hargs.1
    by_cases hi : i < args.length
    · have h2 : i < vals.size := by omega
      simp [hi, h2, Act.eval, Array.getD_eq_getD_getElem?]
    · have h2 : ¬ i < vals.size := by omega
      simp [hi, h2]
  have hrun : (execOp (Act.eval { tmps := vals, defers := [] }) ⟨none, .call { callee := .value (.func f), args := ((List.range args.length).map fun i => Operand.tmp i).toArray, argTypes := #[] }, 0, "", #[], none⟩).run P w = .ok (.enter f vals) w := by
    unfold execOp
    have he : Act.eval { tmps := vals, defers := [] } (.func f) = .func (.func f) #[] #[] := rfl
    simp only [resolve, he, Deferred.ofValue, Sem.run_bind, Sem.run_pure, Result.andThen_ok, invoke, hv]
    have := AC.calls (P := P) hf hn (#[] ++ vals ++ #[]) w
    simpa using this
  rw [hrun] at hd
  simp only [] at hd
  refine Calls.mono hd ?_
  rintro e w' ⟨v, rfl, ρ', S', hr, hvr, hext, hS⟩
  have hp := hr.post
  have hown : ∀ b, Own ρ' h' b → Own ρ h b ∨ w.heap.size ≤ b := by
    rintro b ⟨i, B, r, h1, h2, rfl⟩
    exact hp.own i B r h1 h2
  rcases hal with hal | ⟨hn1, hn2⟩
  · exact ⟨v, r, h', nx', ρ', S', rfl, ⟨rfl, rfl, rfl⟩, hvr, hr.sim, hr.fresh, hr.dom, hp.os, hp.tape, hp.output, hp.size, hp.keep, hown, fun b hb => (hp.sNew b hb).imp (fun h => ⟨hal, h⟩) id, hp.ids⟩
  · refine ⟨v, r, h', nx', ρ', fun b => S' b ∧ w.heap.size ≤ b, rfl, ⟨rfl, rfl, rfl⟩, hvr.nosl hn1, ⟨fun b B hb => ?_, hr.sim.inj, fun b hb => hr.sim.lt b hb.1⟩, hr.fresh, hr.dom, hp.os, hp.tape, hp.output, hp.size, hp.keep, hown, fun b hb => .inr hb.2, hp.ids⟩
    rcases hr.sim.blk b B hb with ⟨q, h1, h2, h3, h4⟩ | hv
    · exact .inl ⟨q, h1, h2.nosl (hall_get hn2 hb), fun hs => h3 hs.1, h4⟩
    · exact .inr hv

theorem lendCF_ok {pu : Nat → Bool} {cf : CF} (hcf : CFok P cf) : CFok P (lendCF pu cf) := by
  intro f args h nx r h' nx' he
  unfold lendCF at he
  split at he
  · exact hcf _ _ _ _ _ _ _ he
  · rename_i p t
    split at he
    · split at he
      · rename_i u largs hl
        split at he
        · rename_i r0 h0 n0 hr
          split at he
          · rename_i hc
            rw [forceL_eq] at he
            simp only [Bool.and_eq_true] at hc
            obtain ⟨hns, hdm⟩ := hc
            simp only [Option.some.injEq, Prod.mk.injEq] at he
            obtain ⟨rfl, rfl, rfl⟩ := he
            obtain ⟨⟨fn, q1, q2, q3⟩, q4⟩ := hcf _ _ _ _ _ _ _ hr
            refine ⟨⟨fn, q1, q2, q3⟩, fun al hal => ?_⟩
            have hdom : (p :: t).all (fun p => p.1 < nx) = true := by
              rw [List.all_eq_true]
              intro x hx
              have := List.all_eq_true.1 hdm x hx
              simpa using this
            have eτ : swp [] 0 nx = fun b => b + nx := by
              funext b
              simp only [swp]
              rw [if_neg (by omega)]
            refine AC.of_op q1 ⟨q2, q3⟩ hdom (by omega) ?_ al hal
            have key := op_callg (P := P) (tm := argTm args) (h := p :: t) (nx := nx) (fo := .func f) (xs := ((List.range args.length).map fun i => Operand.tmp i).toArray) (ts := #[]) (first := []) (caps := []) [] 0 false [] [] (args := args) (largs := largs)
              (q4 false (.inr hns)) q1 ⟨q2, q3⟩ rfl ?_ rfl rfl (Nat.zero_le _) (fun p hp => by cases hp) rfl ?_ rfl rfl rfl
            · rw [eτ] at key
              intro c n ρ S a w hr o ho
              refine (key c n ρ S a w hr o ho).mono fun v w' ⟨ρ', S', k1, k2, k3, k4⟩ => ⟨ρ', S', ?_, k2, k3, k4⟩
              refine k1.drop (fun i => .inr rfl) (fun b B hb => ?_)
              rw [hget_append] at hb ⊢
              cases hx : hget (h0.map fun q => (q.1 + nx, q.2.ren fun b => b + nx)) b with
              | none =>
                rw [hx] at hb
                have hb : hget (p :: t) b = some B := by simpa using hb
                show (hget (p :: t) b).or _ = some B
                rw [hb]; rfl
              | some C =>
                rw [hx] at hb
                have hb : C = B := by simpa using hb
                subst hb
                obtain ⟨j, X, j1, j2, _⟩ := hget_map_ren h0 (fun b => b + nx) b C hx
                have hno : hget (p :: t) b = none := by
                  cases hy : hget (p :: t) b with
                  | none => rfl
                  | some D =>
                    have := hall_get hdom hy
                    simp only [decide_eq_true_eq] at this
                    omega
                show (hget (p :: t) b).or _ = some C
                rw [hno]; rfl
            · -- the arguments, in their slots
              have go : ∀ (l : List AV) (k : Nat) (pre : List AV), args = pre ++ l → pre.length = k → oevsS (argTm args) ((List.range' k l.length).map fun i => Operand.tmp i) = some l := by
                intro l
                induction l with
                | nil => intro k pre _ _; rfl
                | cons x l ih =>
                  intro k pre h1 h2
                  have hk : tgetS (argTm args) k = some x := by
                    have gen : ∀ (aa : List AV) (i j : Nat) (y : AV), aa[j]? = some y → tgetS (argTm aa i) (i + j) = some y := by
                      intro aa
                      induction aa with
                      | nil => intro i j y hy; simp at hy
                      | cons z aa ih2 =>
                        intro i j y hy
                        simp only [argTm, tgetS]
                        cases j with
                        | zero => simp only [List.getElem?_cons_zero, Option.some.injEq] at hy; subst hy; simp
                        | succ j =>
                          rw [if_neg (by omega), show i + (j + 1) = (i + 1) + j from by omega]
                          exact ih2 (i + 1) j y (by simpa using hy)
                    have := gen args 0 k x (by rw [h1, List.getElem?_append_right (by omega)]; simp [h2])
                    simpa using this
                  rw [List.length_cons, List.range'_succ, List.map_cons]
                  simp only [oevsS, oevS]
                  rw [hk, ih (k + 1) (pre ++ [x]) (by rw [h1]; simp) (by simp [h2])]
              have := go args 0 [] rfl rfl
              rw [← List.range_eq_range'] at this
              simpa using this
            · have := lends_ok _ _ _ _ hl (swp [] 0 nx)
              simpa using this
          · exact hcf _ _ _ _ _ _ _ he
        · exact hcf _ _ _ _ _ _ _ he
      · exact hcf _ _ _ _ _ _ _ he
    · exact hcf _ _ _ _ _ _ _ he

def enOK (e : EN) : Option (AV × Heap × Nat) → Bool
  | some (r, h, nx) => avEq r e.r && heapEq h e.h && Nat.beq nx e.nx
  | none => false

theorem enOK_ok {e : EN} {o : Option (AV × Heap × Nat)} (h : enOK e o = true) : o = some (e.r, e.h, e.nx) := by
  unfold enOK at h
  split at h
  · simp only [Bool.and_eq_true] at h
    rw [avEq_ok _ _ h.1.1, heapEq_ok _ _ h.1.2, Nat.eq_of_beq_eq_true h.2]
  · cases h

/-- Known calls. -/
inductive Tab (P : Program) (T : List EN → Cfg) : List EN → Prop
  | nil : Tab P T []
  | cons {e t} (n : Nat) (h : Tab P T t) (he : enOK e (runF P (T t) n e.f e.args [] 0) = true) : Tab P T (e :: t)

theorem tabCF_ok {tab : List EN} (ht : ∀ e ∈ tab, (∃ fn, P.funcs[e.f]? = some fn ∧ (fn.name == "runtime.NumGoroutine") = false ∧ fn.body.isNone = false) ∧
    ∀ al, (al = true ∨ (e.r.nosl = true ∧ e.h.all (fun p => p.2.nosl) = true)) → AC P e.f e.args [] 0 al (fun a b c => a = e.r ∧ b = e.h ∧ c = e.nx)) {cf : CF} (hcf : CFok P cf) : CFok P (tabCF tab cf) := by
  have find : ∀ (tab : List EN) f args r, tabF f args tab = some r → ∃ e ∈ tab, e.f = f ∧ e.args = args ∧ r = (e.r, e.h, e.nx) := by
    intro tab
    induction tab with
    | nil => intro f args r h; simp only [tabF, reduceCtorEq] at h
    | cons e t ih =>
      intro f args r h
      simp only [tabF] at h
      split at h
      · rename_i h1
        split at h
        · rename_i h2
          exact ⟨e, List.mem_cons_self, Nat.eq_of_beq_eq_true h1, avsEq_ok _ _ h2, (Option.some.inj h).symm⟩
        · obtain ⟨e', a, b⟩ := ih f args r h; exact ⟨e', List.mem_cons_of_mem _ a, b⟩
      · obtain ⟨e', a, b⟩ := ih f args r h; exact ⟨e', List.mem_cons_of_mem _ a, b⟩
  intro f args h nx r h' nx' he
  unfold tabCF at he
  split at he
  · split at he
    · rename_i q hq
      obtain rfl := Option.some.inj he
      obtain ⟨e, e1, rfl, rfl, e4⟩ := find _ _ _ _ hq
      simp only [Prod.mk.injEq] at e4
      obtain ⟨rfl, rfl, rfl⟩ := e4
      exact ht e e1
    · exact hcf _ _ _ _ _ _ _ he
  · exact hcf _ _ _ _ _ _ _ he

/-- The run with known calls, and whose arguments are lent. -/
def cfgT (pl : Nat → Nat → Option PL) (pu : Nat → Bool) (tab : List EN) : Cfg := ⟨pl, fun cf => lendCF pu (tabCF tab cf)⟩

theorem tab_ok (hm : P.follows .mixedOrders = true) {pl : Nat → Nat → Option PL} {pu : Nat → Bool} {tab : List EN} (h : Tab P (cfgT pl pu) tab) (n : Nat) : CFok P (runF P (cfgT pl pu tab) n) := by
  have main : ∀ e ∈ tab, (∃ fn, P.funcs[e.f]? = some fn ∧ (fn.name == "runtime.NumGoroutine") = false ∧ fn.body.isNone = false) ∧
    ∀ al, (al = true ∨ (e.r.nosl = true ∧ e.h.all (fun p => p.2.nosl) = true)) → AC P e.f e.args [] 0 al (fun a b c => a = e.r ∧ b = e.h ∧ c = e.nx) := by
    clear n
    induction h with
    | nil => intro e he; cases he
    | @cons e t n h he ih =>
      intro e' he'
      rcases List.mem_cons.1 he' with rfl | h1
      · exact runF_ok (T := cfgT pl pu t) (fun cf hcf => lendCF_ok (tabCF_ok ih hcf)) hm n _ _ _ _ _ _ _ (enOK_ok he)
      · exact ih e' h1
  exact runF_ok (T := cfgT pl pu tab) (fun cf hcf => lendCF_ok (tabCF_ok main hcf)) hm n

def okB : Option (AV × Heap × Nat) → Bool
  | some (.bool true, h, _) => h.all fun p => p.2.nosl
  | _ => false

/-- A closed call that comes to yes. -/
theorem ac_yes (hm : P.follows .mixedOrders = true) {pl : Nat → Nat → Option PL} {pu : Nat → Bool} {tab : List EN} (h : Tab P (cfgT pl pu) tab) (n : Nat) {f : FuncId} {args : List AV}
    (he : okB (runF P (cfgT pl pu tab) n f args [] 0) = true) : AC P f args [] 0 false (fun r h nx => r = .bool true) := by
  unfold okB at he
  split at he
  · rename_i h' nx' hr
    refine ((tab_ok hm h n _ _ _ _ _ _ _ hr).2 false (.inr ⟨rfl, he⟩)).mono ?_
    rintro _ _ _ ⟨rfl, _, _⟩; rfl
  · cases he

def find1 {α : Type} : List (Nat × α) → Nat → Option α
  | [], _ => none
  | (k, p) :: u, id => match Nat.beq id k with
    | true => some p
    | false => find1 u id

def look2 (l : List (Nat × List (Nat × PL))) (f id : Nat) : Option PL :=
  match find1 l f with
  | some r => find1 r id
  | none => none

end
end Go.Proofs.Ytloddmbbfkejcaa.Abs
end
section
/-
  begun of diwanlaw5, run: it comes to yes.
-/
namespace Go.Proofs.Ytloddmbbfkejcaa.Abs
namespace Runbegun5
/-- The plans of the regions whose order is open. -/
def planRows : List (Nat × List (Nat × PL)) := [
  (25, [(3, ⟨[(0, [1]), (1, [11]), (2, [12]), (0, [1]), (1, [14]), (2, [15]), (0, [1]), (1, [17]), (0, [18]), (2, [19]), (2, [13, 16, 20]), (2, [21]), (0, [22])], [([], 0, 0), ([2], 0, 1), ([2, 5], 0, 2), ([2, 5, 9], 0, 3), ([2, 5, 9, 10], 0, 4), ([2, 5, 9, 10, 11], 0, 5)], [0, 1, 2, 3, 4, 5], [[0, 1, 2, 3, 4, 5], [0, 1, 2, 3, 4, 5], [1, 2, 3, 4, 5], [0, 1, 2, 3, 4, 5], [0, 1, 2, 3, 4, 5], [2, 3, 4, 5], [0, 1, 2, 3, 4, 5], [0, 1, 2, 3, 4, 5], [0, 1, 2, 3, 4, 5], [3, 4, 5], [4, 5], [5], [5]], [[0], [0], [0], [0, 1], [0, 1], [0, 1], [0, 1, 2], [0, 1, 2], [0, 1, 2], [0, 1, 2], [0, 1, 2, 3], [0, 1, 2, 3, 4], [0, 1, 2, 3, 4, 5]], [(4, 0, 0), (7, 0, 0), (7, 1, 0)], 5⟩),
    (7, ⟨[(0, [3]), (0, [5]), (1, [31]), (2, [32]), (0, [5]), (1, [34]), (2, [35]), (0, [5]), (1, [37]), (2, [38]), (2, [30, 33, 36, 39]), (2, [40]), (0, [5]), (1, [42]), (2, [43]), (2, [44]), (2, [41, 45]), (0, [46])], [([], 0, 0), ([3], 0, 1), ([3, 6], 0, 2), ([3, 6, 9], 0, 3), ([3, 6, 9, 10], 0, 4), ([3, 6, 9, 10, 11], 0, 5), ([3, 6, 9, 10, 11, 14], 0, 6), ([3, 6, 9, 10, 11, 14, 15], 0, 7), ([3, 6, 9, 10, 11, 14, 15, 16], 0, 8)], [0, 1, 2, 3, 4, 5, 6, 7, 8], [[0, 1, 2, 3, 4, 5, 6, 7, 8], [0, 1, 2, 3, 4, 5, 6, 7, 8], [0, 1, 2, 3, 4, 5, 6, 7, 8], [1, 2, 3, 4, 5, 6, 7, 8], [0, 1, 2, 3, 4, 5, 6, 7, 8], [0, 1, 2, 3, 4, 5, 6, 7, 8], [2, 3, 4, 5, 6, 7, 8], [0, 1, 2, 3, 4, 5, 6, 7, 8], [0, 1, 2, 3, 4, 5, 6, 7, 8], [3, 4, 5, 6, 7, 8], [4, 5, 6, 7, 8], [5, 6, 7, 8], [0, 1, 2, 3, 4, 5, 6, 7, 8], [0, 1, 2, 3, 4, 5, 6, 7, 8], [6, 7, 8], [7, 8], [8], [8]], [[0, 1, 2, 3], [0], [0], [0], [0, 1], [0, 1], [0, 1], [0, 1, 2], [0, 1, 2], [0, 1, 2], [0, 1, 2, 3], [0, 1, 2, 3, 4], [0, 1, 2, 3, 4, 5], [0, 1, 2, 3, 4, 5], [0, 1, 2, 3, 4, 5], [0, 1, 2, 3, 4, 5, 6], [0, 1, 2, 3, 4, 5, 6, 7], [0, 1, 2, 3, 4, 5, 6, 7, 8]], [(5, 0, 0), (8, 0, 0), (8, 1, 0), (13, 0, 0), (13, 1, 0), (13, 2, 0), (13, 3, 0), (13, 4, 0)], 8⟩),
    (13, ⟨[(0, [3]), (0, [7]), (1, [62]), (2, [63]), (0, [7]), (1, [65]), (2, [66]), (2, [61, 64, 67]), (2, [68]), (0, [7]), (1, [70]), (2, [71]), (2, [72]), (2, [69, 73]), (0, [74])], [([], 0, 0), ([3], 0, 1), ([3, 6], 0, 2), ([3, 6, 7], 0, 3), ([3, 6, 7, 8], 0, 4), ([3, 6, 7, 8, 11], 0, 5), ([3, 6, 7, 8, 11, 12], 0, 6), ([3, 6, 7, 8, 11, 12, 13], 0, 7)], [0, 1, 2, 3, 4, 5, 6, 7], [[0, 1, 2, 3, 4, 5, 6, 7], [0, 1, 2, 3, 4, 5, 6, 7], [0, 1, 2, 3, 4, 5, 6, 7], [1, 2, 3, 4, 5, 6, 7], [0, 1, 2, 3, 4, 5, 6, 7], [0, 1, 2, 3, 4, 5, 6, 7], [2, 3, 4, 5, 6, 7], [3, 4, 5, 6, 7], [4, 5, 6, 7], [0, 1, 2, 3, 4, 5, 6, 7], [0, 1, 2, 3, 4, 5, 6, 7], [5, 6, 7], [6, 7], [7], [7]], [[0, 1, 2], [0], [0], [0], [0, 1], [0, 1], [0, 1], [0, 1, 2], [0, 1, 2, 3], [0, 1, 2, 3, 4], [0, 1, 2, 3, 4], [0, 1, 2, 3, 4], [0, 1, 2, 3, 4, 5], [0, 1, 2, 3, 4, 5, 6], [0, 1, 2, 3, 4, 5, 6, 7]], [(5, 0, 0), (10, 0, 0), (10, 1, 0), (10, 2, 0), (10, 3, 0)], 7⟩)]),
  (34, [(19, ⟨[(1, [2]), (0, [5]), (0, [111]), (0, [112]), (1, [113]), (2, [2, 110]), (0, [114]), (0, [])], [([], 0, 0), ([5], 0, 1)], [0, 1], [[0, 1], [0, 1], [0, 1], [0, 1], [0, 1], [1], [1], [1]], [[0], [0, 1], [0, 1], [0, 1], [0, 1], [0], [0, 1], [0, 1]], [(4, 1, 0)], 1⟩)]),
  (92, [(6, ⟨[(0, [0]), (0, [5]), (1, [16, 17]), (1, [18]), (0, [1]), (0, [5]), (1, [20, 21]), (1, [22]), (0, [19, 23])], [([], 0, 0)], [0], [[0], [0], [0], [0], [0], [0], [0], [0], [0]], [[0], [0], [0], [0], [0], [0], [0], [0], [0]], [], 0⟩)]),
  (93, [(6, ⟨[(0, [0]), (0, [5]), (1, [16, 17]), (1, [18]), (0, [1]), (0, [5]), (1, [20, 21]), (1, [22]), (0, [19, 23])], [([], 0, 0)], [0], [[0], [0], [0], [0], [0], [0], [0], [0], [0]], [[0], [0], [0], [0], [0], [0], [0], [0], [0]], [], 0⟩)]),
  (96, [(6, ⟨[(0, [0]), (0, [3]), (1, [16, 17]), (1, [18]), (0, [0]), (0, [3]), (0, [21]), (1, [20, 22]), (1, [23]), (0, [19, 24])], [([], 0, 0)], [0], [[0], [0], [0], [0], [0], [0], [0], [0], [0], [0]], [[0], [0], [0], [0], [0], [0], [0], [0], [0], [0]], [], 0⟩),
    (11, ⟨[(0, [4]), (0, [5]), (1, [35, 36]), (1, [37]), (0, [4]), (0, [5]), (0, [40]), (1, [39, 41]), (1, [42]), (0, [38, 43])], [([], 0, 0)], [0], [[0], [0], [0], [0], [0], [0], [0], [0], [0], [0]], [[0], [0], [0], [0], [0], [0], [0], [0], [0], [0]], [], 0⟩)]),
  (99, [(1, ⟨[(0, [0]), (1, [1]), (2, [5, 6]), (1, [2]), (0, [7, 8]), (0, [9])], [([], 0, 0), ([2], 0, 1)], [0, 1], [[0, 1], [0, 1], [1], [0, 1], [1], [1]], [[0], [0], [0], [0, 1], [0, 1], [0, 1]], [(3, 0, 0)], 1⟩)]),
  (100, [(1, ⟨[(0, [0]), (0, [7]), (0, [8]), (1, [9]), (0, [0]), (0, [11]), (0, [12]), (1, [13]), (1, [10, 14]), (2, [15]), (0, [16]), (0, [6]), (0, [6]), (0, [6]), (0, [17]), (0, [18]), (0, [19])], [([], 0, 0), ([9], 0, 1)], [0, 1], [[0, 1], [0, 1], [0, 1], [0, 1], [0, 1], [0, 1], [0, 1], [0, 1], [0, 1], [1], [1], [1], [1], [1], [1], [1], [1]], [[0], [0], [0], [0], [0], [0], [0], [0], [0], [0], [0, 1], [0, 1], [0, 1], [0, 1], [0, 1], [0, 1], [0, 1]], [], 1⟩)]),
  (101, [(1, ⟨[(0, [0]), (0, [7]), (0, [8]), (1, [9]), (0, [0]), (0, [11]), (0, [12]), (1, [13]), (1, [10, 14]), (2, [15]), (0, [16]), (0, [6]), (0, [6]), (0, [6]), (0, [17]), (0, [18]), (0, [19])], [([], 0, 0), ([9], 0, 1)], [0, 1], [[0, 1], [0, 1], [0, 1], [0, 1], [0, 1], [0, 1], [0, 1], [0, 1], [0, 1], [1], [1], [1], [1], [1], [1], [1], [1]], [[0], [0], [0], [0], [0], [0], [0], [0], [0], [0], [0, 1], [0, 1], [0, 1], [0, 1], [0, 1], [0, 1], [0, 1]], [], 1⟩)]),
  (142, [(17, ⟨[(0, [1]), (0, [73]), (0, [74]), (0, [0]), (0, [1]), (0, [77]), (1, [76, 78]), (1, [79]), (0, [0]), (0, [11]), (1, [81, 82]), (1, [83]), (2, [80, 84]), (0, [85]), (0, [75, 86])], [([], 0, 0), ([12], 0, 1)], [0, 1], [[0, 1], [0, 1], [0, 1], [0, 1], [0, 1], [0, 1], [0, 1], [0, 1], [0, 1], [0, 1], [0, 1], [0, 1], [1], [1], [1]], [[0], [0], [0], [0], [0], [0], [0], [0], [0], [0], [0], [0], [0], [0, 1], [0, 1]], [], 1⟩)]),
  (175, [(4, ⟨[(0, [7]), (0, [1]), (0, [16, 17]), (0, [18]), (0, [0]), (0, [7]), (1, [20, 21]), (1, [22]), (0, [0]), (0, [7]), (0, [25]), (1, [24, 26]), (1, [27]), (2, [23, 28]), (0, [19, 29])], [([], 0, 0), ([13], 0, 1)], [0, 1], [[0, 1], [0, 1], [0, 1], [0, 1], [0, 1], [0, 1], [0, 1], [0, 1], [0, 1], [0, 1], [0, 1], [0, 1], [0, 1], [1], [1]], [[0], [0], [0], [0], [0], [0], [0], [0], [0], [0], [0], [0], [0], [0], [0, 1]], [], 1⟩),
    (6, ⟨[(0, [0]), (0, [7]), (0, [0]), (0, [7]), (0, [36]), (0, [0]), (0, [7]), (0, [39]), (1, [38, 40]), (1, [41]), (0, [0]), (0, [7]), (1, [43, 44]), (1, [45]), (1, [33, 34]), (2, [47, 42]), (1, [35, 37]), (2, [48, 46])], [([], 0, 0), ([15], 0, 1), ([15, 17], 0, 2)], [0, 1, 2], [[0, 1, 2], [0, 1, 2], [0, 1, 2], [0, 1, 2], [0, 1, 2], [0, 1, 2], [0, 1, 2], [0, 1, 2], [0, 1, 2], [0, 1, 2], [0, 1, 2], [0, 1, 2], [0, 1, 2], [0, 1, 2], [0, 1, 2], [1, 2], [1, 2], [2]], [[0], [0], [0, 1], [0, 1], [0, 1], [0], [0], [0], [0], [0], [0], [0], [0], [0], [0], [0], [0, 1], [0, 1]], [], 2⟩)]),
  (176, [(10, ⟨[(0, [0]), (0, [6]), (0, [0]), (0, [6]), (0, [10]), (0, [36, 37]), (0, [0]), (0, [6]), (0, [10]), (0, [40, 41]), (1, [39, 42]), (1, [43]), (0, [0]), (0, [6]), (1, [45, 46]), (1, [47]), (1, [33, 34]), (2, [49, 44]), (1, [35, 38]), (2, [50, 48])], [([], 0, 0), ([17], 0, 1), ([17, 19], 0, 2)], [0, 1, 2], [[0, 1, 2], [0, 1, 2], [0, 1, 2], [0, 1, 2], [0, 1, 2], [0, 1, 2], [0, 1, 2], [0, 1, 2], [0, 1, 2], [0, 1, 2], [0, 1, 2], [0, 1, 2], [0, 1, 2], [0, 1, 2], [0, 1, 2], [0, 1, 2], [0, 1, 2], [1, 2], [1, 2], [2]], [[0], [0], [0, 1], [0, 1], [0, 1], [0, 1], [0], [0], [0], [0], [0], [0], [0], [0], [0], [0], [0], [0], [0, 1], [0, 1]], [], 2⟩)]),
  (177, [(10, ⟨[(0, [0]), (0, [9]), (0, [0]), (0, [1]), (0, [10]), (0, [50, 51]), (0, [0]), (0, [1]), (0, [10]), (0, [54, 55]), (1, [53, 56]), (1, [57]), (0, [0]), (0, [9]), (1, [59, 60]), (1, [61]), (1, [47, 48]), (2, [63, 58]), (1, [49, 52]), (2, [64, 62])], [([], 0, 0), ([17], 0, 1), ([17, 19], 0, 2)], [0, 1, 2], [[0, 1, 2], [0, 1, 2], [0, 1, 2], [0, 1, 2], [0, 1, 2], [0, 1, 2], [0, 1, 2], [0, 1, 2], [0, 1, 2], [0, 1, 2], [0, 1, 2], [0, 1, 2], [0, 1, 2], [0, 1, 2], [0, 1, 2], [0, 1, 2], [0, 1, 2], [1, 2], [1, 2], [2]], [[0], [0], [0, 1], [0, 1], [0, 1], [0, 1], [0], [0], [0], [0], [0], [0], [0], [0], [0], [0], [0], [0], [0, 1], [0, 1]], [], 2⟩)]),
  (179, [(3, ⟨[(0, [0]), (0, [6]), (0, [0]), (0, [7]), (0, [0]), (0, [7]), (1, [18, 19]), (1, [20]), (0, [0]), (0, [6]), (1, [22, 23]), (1, [24]), (1, [14, 15]), (2, [26, 21]), (1, [16, 17]), (2, [27, 25])], [([], 0, 0), ([13], 0, 1), ([13, 15], 0, 2)], [0, 1, 2], [[0, 1, 2], [0, 1, 2], [0, 1, 2], [0, 1, 2], [0, 1, 2], [0, 1, 2], [0, 1, 2], [0, 1, 2], [0, 1, 2], [0, 1, 2], [0, 1, 2], [0, 1, 2], [0, 1, 2], [1, 2], [1, 2], [2]], [[0], [0], [0, 1], [0, 1], [0], [0], [0], [0], [0], [0], [0], [0], [0], [0], [0, 1], [0, 1]], [], 2⟩)]),
  (180, [(5, ⟨[(0, [7]), (0, [2]), (0, [17, 18]), (0, [19]), (0, [0]), (0, [7]), (1, [21, 22]), (1, [23]), (0, [0]), (0, [7]), (0, [26]), (1, [25, 27]), (1, [28]), (2, [24, 29]), (0, [30]), (0, [20, 31])], [([], 0, 0), ([13], 0, 1)], [0, 1], [[0, 1], [0, 1], [0, 1], [0, 1], [0, 1], [0, 1], [0, 1], [0, 1], [0, 1], [0, 1], [0, 1], [0, 1], [0, 1], [1], [1], [1]], [[0], [0], [0], [0], [0], [0], [0], [0], [0], [0], [0], [0], [0], [0], [0, 1], [0, 1]], [], 1⟩),
    (11, ⟨[(0, [0]), (0, [7]), (0, [0]), (0, [7]), (0, [45]), (0, [0]), (0, [7]), (0, [48]), (1, [47, 49]), (1, [50]), (0, [0]), (0, [7]), (1, [52, 53]), (1, [54]), (1, [42, 43]), (2, [56, 51]), (1, [44, 46]), (2, [57, 55])], [([], 0, 0), ([15], 0, 1), ([15, 17], 0, 2)], [0, 1, 2], [[0, 1, 2], [0, 1, 2], [0, 1, 2], [0, 1, 2], [0, 1, 2], [0, 1, 2], [0, 1, 2], [0, 1, 2], [0, 1, 2], [0, 1, 2], [0, 1, 2], [0, 1, 2], [0, 1, 2], [0, 1, 2], [0, 1, 2], [1, 2], [1, 2], [2]], [[0], [0], [0, 1], [0, 1], [0, 1], [0], [0], [0], [0], [0], [0], [0], [0], [0], [0], [0], [0, 1], [0, 1]], [], 2⟩),
    (16, ⟨[(0, [0]), (0, [9]), (1, [68, 69]), (1, [70]), (0, [0]), (0, [9]), (0, [73]), (1, [72, 74]), (1, [75]), (2, [71, 76]), (0, [77])], [([], 0, 0), ([9], 0, 1)], [0, 1], [[0, 1], [0, 1], [0, 1], [0, 1], [0, 1], [0, 1], [0, 1], [0, 1], [0, 1], [1], [1]], [[0], [0], [0], [0], [0], [0], [0], [0], [0], [0], [0, 1]], [], 1⟩),
    (17, ⟨[(0, [0]), (0, [9]), (0, [0]), (0, [9]), (0, [82]), (0, [0]), (0, [9]), (0, [85]), (1, [84, 86]), (1, [87]), (0, [0]), (0, [9]), (1, [89, 90]), (1, [91]), (1, [79, 80]), (2, [93, 88]), (1, [81, 83]), (2, [94, 92])], [([], 0, 0), ([15], 0, 1), ([15, 17], 0, 2)], [0, 1, 2], [[0, 1, 2], [0, 1, 2], [0, 1, 2], [0, 1, 2], [0, 1, 2], [0, 1, 2], [0, 1, 2], [0, 1, 2], [0, 1, 2], [0, 1, 2], [0, 1, 2], [0, 1, 2], [0, 1, 2], [0, 1, 2], [0, 1, 2], [1, 2], [1, 2], [2]], [[0], [0], [0, 1], [0, 1], [0, 1], [0], [0], [0], [0], [0], [0], [0], [0], [0], [0], [0], [0, 1], [0, 1]], [], 2⟩),
    (22, ⟨[(0, [0]), (0, [10]), (1, [106, 107]), (1, [108]), (0, [0]), (0, [10]), (0, [111]), (1, [110, 112]), (1, [113]), (2, [109, 114]), (0, [115])], [([], 0, 0), ([9], 0, 1)], [0, 1], [[0, 1], [0, 1], [0, 1], [0, 1], [0, 1], [0, 1], [0, 1], [0, 1], [0, 1], [1], [1]], [[0], [0], [0], [0], [0], [0], [0], [0], [0], [0], [0, 1]], [], 1⟩),
    (23, ⟨[(0, [0]), (0, [10]), (0, [0]), (0, [10]), (0, [120]), (0, [0]), (0, [10]), (0, [123]), (1, [122, 124]), (1, [125]), (0, [0]), (0, [10]), (1, [127, 128]), (1, [129]), (1, [117, 118]), (2, [131, 126]), (1, [119, 121]), (2, [132, 130])], [([], 0, 0), ([15], 0, 1), ([15, 17], 0, 2)], [0, 1, 2], [[0, 1, 2], [0, 1, 2], [0, 1, 2], [0, 1, 2], [0, 1, 2], [0, 1, 2], [0, 1, 2], [0, 1, 2], [0, 1, 2], [0, 1, 2], [0, 1, 2], [0, 1, 2], [0, 1, 2], [0, 1, 2], [0, 1, 2], [1, 2], [1, 2], [2]], [[0], [0], [0, 1], [0, 1], [0, 1], [0], [0], [0], [0], [0], [0], [0], [0], [0], [0], [0], [0, 1], [0, 1]], [], 2⟩)]),
  (182, [(1, ⟨[(0, [0]), (0, [1]), (0, [0]), (0, [3]), (0, [0]), (0, [3]), (1, [15, 16]), (1, [17]), (0, [0]), (0, [1]), (1, [19, 20]), (1, [21]), (1, [11, 12]), (2, [23, 18]), (1, [13, 14]), (2, [24, 22])], [([], 0, 0), ([13], 0, 1), ([13, 15], 0, 2)], [0, 1, 2], [[0, 1, 2], [0, 1, 2], [0, 1, 2], [0, 1, 2], [0, 1, 2], [0, 1, 2], [0, 1, 2], [0, 1, 2], [0, 1, 2], [0, 1, 2], [0, 1, 2], [0, 1, 2], [0, 1, 2], [1, 2], [1, 2], [2]], [[0], [0], [0, 1], [0, 1], [0], [0], [0], [0], [0], [0], [0], [0], [0], [0], [0, 1], [0, 1]], [], 2⟩),
    (3, ⟨[(0, [9]), (0, [10]), (0, [29, 30]), (0, [31]), (0, [0]), (0, [1]), (1, [33, 34]), (1, [35]), (0, [0]), (0, [9]), (1, [37, 38]), (1, [39]), (2, [36, 40]), (0, [41]), (0, [32, 42])], [([], 0, 0), ([12], 0, 1)], [0, 1], [[0, 1], [0, 1], [0, 1], [0, 1], [0, 1], [0, 1], [0, 1], [0, 1], [0, 1], [0, 1], [0, 1], [0, 1], [1], [1], [1]], [[0], [0], [0], [0], [0], [0], [0], [0], [0], [0], [0], [0], [0], [0, 1], [0, 1]], [], 1⟩),
    (5, ⟨[(0, [9]), (0, [10]), (0, [46, 47]), (0, [48]), (0, [0]), (0, [1]), (1, [50, 51]), (1, [52]), (0, [0]), (0, [10]), (1, [54, 55]), (1, [56]), (2, [53, 57]), (0, [49, 58])], [([], 0, 0), ([12], 0, 1)], [0, 1], [[0, 1], [0, 1], [0, 1], [0, 1], [0, 1], [0, 1], [0, 1], [0, 1], [0, 1], [0, 1], [0, 1], [0, 1], [1], [1]], [[0], [0], [0], [0], [0], [0], [0], [0], [0], [0], [0], [0], [0], [0, 1]], [], 1⟩),
    (8, ⟨[(0, [0]), (0, [9]), (0, [0]), (0, [10]), (0, [0]), (0, [10]), (1, [69, 70]), (1, [71]), (0, [0]), (0, [9]), (1, [73, 74]), (1, [75]), (1, [65, 66]), (2, [77, 72]), (1, [67, 68]), (2, [78, 76])], [([], 0, 0), ([13], 0, 1), ([13, 15], 0, 2)], [0, 1, 2], [[0, 1, 2], [0, 1, 2], [0, 1, 2], [0, 1, 2], [0, 1, 2], [0, 1, 2], [0, 1, 2], [0, 1, 2], [0, 1, 2], [0, 1, 2], [0, 1, 2], [0, 1, 2], [0, 1, 2], [1, 2], [1, 2], [2]], [[0], [0], [0, 1], [0, 1], [0], [0], [0], [0], [0], [0], [0], [0], [0], [0], [0, 1], [0, 1]], [], 2⟩)]),
  (183, [(1, ⟨[(0, [0]), (0, [1]), (0, [0]), (0, [3]), (0, [0]), (0, [3]), (1, [16, 17]), (1, [18]), (0, [0]), (0, [1]), (1, [20, 21]), (1, [22]), (1, [12, 13]), (2, [24, 19]), (1, [14, 15]), (2, [25, 23])], [([], 0, 0), ([13], 0, 1), ([13, 15], 0, 2)], [0, 1, 2], [[0, 1, 2], [0, 1, 2], [0, 1, 2], [0, 1, 2], [0, 1, 2], [0, 1, 2], [0, 1, 2], [0, 1, 2], [0, 1, 2], [0, 1, 2], [0, 1, 2], [0, 1, 2], [0, 1, 2], [1, 2], [1, 2], [2]], [[0], [0], [0, 1], [0, 1], [0], [0], [0], [0], [0], [0], [0], [0], [0], [0], [0, 1], [0, 1]], [], 2⟩),
    (3, ⟨[(0, [10]), (0, [11]), (0, [30, 31]), (0, [32]), (0, [0]), (0, [10]), (1, [34, 35]), (1, [36]), (0, [0]), (0, [1]), (1, [38, 39]), (1, [40]), (2, [37, 41]), (0, [33, 42])], [([], 0, 0), ([12], 0, 1)], [0, 1], [[0, 1], [0, 1], [0, 1], [0, 1], [0, 1], [0, 1], [0, 1], [0, 1], [0, 1], [0, 1], [0, 1], [0, 1], [1], [1]], [[0], [0], [0], [0], [0], [0], [0], [0], [0], [0], [0], [0], [0], [0, 1]], [], 1⟩),
    (5, ⟨[(0, [10]), (0, [11]), (0, [46, 47]), (0, [48]), (0, [0]), (0, [11]), (1, [50, 51]), (1, [52]), (0, [0]), (0, [1]), (1, [54, 55]), (1, [56]), (2, [53, 57]), (0, [58]), (0, [49, 59])], [([], 0, 0), ([12], 0, 1)], [0, 1], [[0, 1], [0, 1], [0, 1], [0, 1], [0, 1], [0, 1], [0, 1], [0, 1], [0, 1], [0, 1], [0, 1], [0, 1], [1], [1], [1]], [[0], [0], [0], [0], [0], [0], [0], [0], [0], [0], [0], [0], [0], [0, 1], [0, 1]], [], 1⟩),
    (8, ⟨[(0, [0]), (0, [11]), (0, [0]), (0, [1]), (0, [0]), (0, [1]), (1, [70, 71]), (1, [72]), (0, [0]), (0, [11]), (1, [74, 75]), (1, [76]), (1, [66, 67]), (2, [78, 73]), (1, [68, 69]), (2, [79, 77])], [([], 0, 0), ([13], 0, 1), ([13, 15], 0, 2)], [0, 1, 2], [[0, 1, 2], [0, 1, 2], [0, 1, 2], [0, 1, 2], [0, 1, 2], [0, 1, 2], [0, 1, 2], [0, 1, 2], [0, 1, 2], [0, 1, 2], [0, 1, 2], [0, 1, 2], [0, 1, 2], [1, 2], [1, 2], [2]], [[0], [0], [0, 1], [0, 1], [0], [0], [0], [0], [0], [0], [0], [0], [0], [0], [0, 1], [0, 1]], [], 2⟩),
    (10, ⟨[(0, [0]), (0, [10]), (0, [0]), (0, [11]), (0, [0]), (0, [11]), (1, [85, 86]), (1, [87]), (0, [0]), (0, [10]), (1, [89, 90]), (1, [91]), (1, [81, 82]), (2, [93, 88]), (1, [83, 84]), (2, [94, 92])], [([], 0, 0), ([13], 0, 1), ([13, 15], 0, 2)], [0, 1, 2], [[0, 1, 2], [0, 1, 2], [0, 1, 2], [0, 1, 2], [0, 1, 2], [0, 1, 2], [0, 1, 2], [0, 1, 2], [0, 1, 2], [0, 1, 2], [0, 1, 2], [0, 1, 2], [0, 1, 2], [1, 2], [1, 2], [2]], [[0], [0], [0, 1], [0, 1], [0], [0], [0], [0], [0], [0], [0], [0], [0], [0], [0, 1], [0, 1]], [], 2⟩),
    (13, ⟨[(0, [10]), (0, [11]), (0, [99, 100]), (0, [101]), (0, [0]), (0, [10]), (1, [103, 104]), (1, [105]), (0, [0]), (0, [1]), (1, [107, 108]), (1, [109]), (2, [106, 110]), (0, [102, 111])], [([], 0, 0), ([12], 0, 1)], [0, 1], [[0, 1], [0, 1], [0, 1], [0, 1], [0, 1], [0, 1], [0, 1], [0, 1], [0, 1], [0, 1], [0, 1], [0, 1], [1], [1]], [[0], [0], [0], [0], [0], [0], [0], [0], [0], [0], [0], [0], [0], [0, 1]], [], 1⟩),
    (15, ⟨[(0, [10]), (0, [11]), (0, [115, 116]), (0, [117]), (0, [0]), (0, [11]), (1, [119, 120]), (1, [121]), (0, [0]), (0, [1]), (1, [123, 124]), (1, [125]), (2, [122, 126]), (0, [127]), (0, [118, 128])], [([], 0, 0), ([12], 0, 1)], [0, 1], [[0, 1], [0, 1], [0, 1], [0, 1], [0, 1], [0, 1], [0, 1], [0, 1], [0, 1], [0, 1], [0, 1], [0, 1], [1], [1], [1]], [[0], [0], [0], [0], [0], [0], [0], [0], [0], [0], [0], [0], [0], [0, 1], [0, 1]], [], 1⟩),
    (18, ⟨[(0, [0]), (0, [10]), (0, [0]), (0, [11]), (0, [0]), (0, [11]), (1, [139, 140]), (1, [141]), (0, [0]), (0, [10]), (1, [143, 144]), (1, [145]), (1, [135, 136]), (2, [147, 142]), (1, [137, 138]), (2, [148, 146])], [([], 0, 0), ([13], 0, 1), ([13, 15], 0, 2)], [0, 1, 2], [[0, 1, 2], [0, 1, 2], [0, 1, 2], [0, 1, 2], [0, 1, 2], [0, 1, 2], [0, 1, 2], [0, 1, 2], [0, 1, 2], [0, 1, 2], [0, 1, 2], [0, 1, 2], [0, 1, 2], [1, 2], [1, 2], [2]], [[0], [0], [0, 1], [0, 1], [0], [0], [0], [0], [0], [0], [0], [0], [0], [0], [0, 1], [0, 1]], [], 2⟩),
    (21, ⟨[(0, [0]), (0, [11]), (0, [0]), (0, [1]), (0, [0]), (0, [1]), (1, [157, 158]), (1, [159]), (0, [0]), (0, [11]), (1, [161, 162]), (1, [163]), (1, [153, 154]), (2, [165, 160]), (1, [155, 156]), (2, [166, 164])], [([], 0, 0), ([13], 0, 1), ([13, 15], 0, 2)], [0, 1, 2], [[0, 1, 2], [0, 1, 2], [0, 1, 2], [0, 1, 2], [0, 1, 2], [0, 1, 2], [0, 1, 2], [0, 1, 2], [0, 1, 2], [0, 1, 2], [0, 1, 2], [0, 1, 2], [0, 1, 2], [1, 2], [1, 2], [2]], [[0], [0], [0, 1], [0, 1], [0], [0], [0], [0], [0], [0], [0], [0], [0], [0], [0, 1], [0, 1]], [], 2⟩)]),
  (192, [(3, ⟨[(0, [9]), (0, [17]), (0, [2]), (0, [18, 19]), (0, [20]), (0, [0]), (0, [3]), (0, [9]), (0, [23, 24]), (1, [22, 25]), (1, [26]), (0, [0]), (0, [3]), (0, [9]), (0, [29, 30]), (0, [31]), (1, [28, 32]), (1, [33]), (2, [27, 34]), (0, [21, 35])], [([], 0, 0), ([18], 0, 1)], [0, 1], [[0, 1], [0, 1], [0, 1], [0, 1], [0, 1], [0, 1], [0, 1], [0, 1], [0, 1], [0, 1], [0, 1], [0, 1], [0, 1], [0, 1], [0, 1], [0, 1], [0, 1], [0, 1], [1], [1]], [[0], [0], [0], [0], [0], [0], [0], [0], [0], [0], [0], [0], [0], [0], [0], [0], [0], [0], [0], [0, 1]], [], 1⟩),
    (5, ⟨[(0, [0]), (0, [3]), (0, [8]), (0, [40, 41]), (1, [39, 42]), (1, [43]), (0, [0]), (0, [3]), (0, [9]), (0, [46, 47]), (1, [45, 48]), (1, [49]), (2, [44, 50]), (0, [51])], [([], 0, 0), ([12], 0, 1)], [0, 1], [[0, 1], [0, 1], [0, 1], [0, 1], [0, 1], [0, 1], [0, 1], [0, 1], [0, 1], [0, 1], [0, 1], [0, 1], [1], [1]], [[0], [0], [0], [0], [0], [0], [0], [0], [0], [0], [0], [0], [0], [0, 1]], [], 1⟩),
    (6, ⟨[(0, [0]), (0, [3]), (0, [8]), (0, [54, 55]), (0, [0]), (0, [3]), (0, [9]), (0, [58, 59]), (0, [0]), (0, [3]), (0, [9]), (0, [62, 63]), (1, [61, 64]), (1, [65]), (0, [0]), (0, [3]), (0, [8]), (0, [68, 69]), (1, [67, 70]), (1, [71]), (1, [53, 56]), (2, [73, 66]), (1, [57, 60]), (2, [74, 72])], [([], 0, 0), ([21], 0, 1), ([21, 23], 0, 2)], [0, 1, 2], [[0, 1, 2], [0, 1, 2], [0, 1, 2], [0, 1, 2], [0, 1, 2], [0, 1, 2], [0, 1, 2], [0, 1, 2], [0, 1, 2], [0, 1, 2], [0, 1, 2], [0, 1, 2], [0, 1, 2], [0, 1, 2], [0, 1, 2], [0, 1, 2], [0, 1, 2], [0, 1, 2], [0, 1, 2], [0, 1, 2], [0, 1, 2], [1, 2], [1, 2], [2]], [[0], [0], [0], [0], [0, 1], [0, 1], [0, 1], [0, 1], [0], [0], [0], [0], [0], [0], [0], [0], [0], [0], [0], [0], [0], [0], [0, 1], [0, 1]], [], 2⟩)]),
  (194, [(1, ⟨[(0, [0]), (0, [3]), (1, [4]), (0, [0]), (0, [6]), (1, [7]), (0, [8]), (0, [5, 9]), (0, [3]), (2, [11, 10])], [([], 0, 0), ([9], 0, 1)], [0, 1], [[0, 1], [0, 1], [0, 1], [0, 1], [0, 1], [0, 1], [0, 1], [0, 1], [0, 1], [1]], [[0], [0], [0], [0], [0], [0], [0], [0], [0], [0]], [], 1⟩),
    (2, ⟨[(0, [0]), (0, [12]), (1, [13]), (0, [0]), (0, [15]), (1, [16]), (0, [17]), (0, [14, 18]), (0, [12]), (2, [20, 19])], [([], 0, 0), ([9], 0, 1)], [0, 1], [[0, 1], [0, 1], [0, 1], [0, 1], [0, 1], [0, 1], [0, 1], [0, 1], [0, 1], [1]], [[0], [0], [0], [0], [0], [0], [0], [0], [0], [0]], [], 1⟩),
    (3, ⟨[(0, [0]), (0, [21]), (1, [22]), (0, [0]), (0, [24]), (1, [25]), (0, [26]), (0, [23, 27]), (0, [21]), (2, [29, 28])], [([], 0, 0), ([9], 0, 1)], [0, 1], [[0, 1], [0, 1], [0, 1], [0, 1], [0, 1], [0, 1], [0, 1], [0, 1], [0, 1], [1]], [[0], [0], [0], [0], [0], [0], [0], [0], [0], [0]], [], 1⟩)]),
  (202, [(1, ⟨[(0, [0]), (0, [2]), (1, [10, 11]), (1, [12]), (0, [0]), (0, [1]), (1, [14, 15]), (1, [16]), (2, [13, 17])], [([], 0, 0), ([8], 0, 1)], [0, 1], [[0, 1], [0, 1], [0, 1], [0, 1], [0, 1], [0, 1], [0, 1], [0, 1], [1]], [[0], [0], [0], [0], [0], [0], [0], [0], [0]], [], 1⟩)])]
def pu : Nat → Bool := memF [19, 23, 25, 27, 29, 31, 34, 76, 77, 78, 79, 80, 81, 82, 83, 85, 86, 87, 88, 92, 93, 94, 97, 98, 99, 102, 137, 138, 139, 143, 144, 146, 148, 149, 174, 181, 184, 185, 186, 187]
abbrev cfg : List EN → Cfg := cfgT (look2 planRows) pu
def tab0 : List EN := []
theorem mixed : Try.prog.follows .mixedOrders = true := by kernel_rfl
theorem tb0 : Tab Try.prog cfg tab0 := .nil
end Runbegun5
theorem law_begun5 : AC Try.prog 19 [] [] 0 false (fun r _ _ => r = .bool true) := ac_yes Runbegun5.mixed Runbegun5.tb0 300 (by kernel_rfl)
end Go.Proofs.Ytloddmbbfkejcaa.Abs
end
section
/-
  Transactions that are unlike have unlike bytes, and none's bytes begin with another one's.
-/
namespace Go.Proofs.Ytloddmbbfkejcaa.Abs

theorem putTx_pos (t : TX) : 1 ≤ (putTx t).length := by
  have := putNum_pos t.ses.toNat
  unfold putTx txMid txHead
  simp only [List.flatten_cons, List.length_append]
  omega

/-- The same have the same bytes; unlike ones' bytes do not begin with each other. -/
theorem same_bytes {t u : TX} (ht : mayTxB t = true) (hu : mayTxB u = true) : (sameTxB t u = true ∧ putTx t = putTx u) ∨ (sameTxB t u = false ∧ ∀ z, putTx t ++ z ≠ putTx u) := by
  cases h : sameTxB t u with
  | true => rw [(sameTxB_iff t u).1 h]; exact .inl ⟨rfl, rfl⟩
  | false =>
    refine .inr ⟨rfl, fun z hz => ?_⟩
    have := putTx_pre (x := z) (y := []) ht hu (by rw [hz, List.append_nil])
    rw [(sameTxB_iff t u).2 this.1] at h
    cases h

set_option maxRecDepth 100000 in
set_option maxHeartbeats 4000000 in
theorem law_TxnApart (x0 : List UInt8) (x1 : List UInt8)
    (g0 : (fun l : List UInt8 => l.length ≤ reachBytes) x0)
    (g1 : (fun l : List UInt8 => l.length ≤ reachBytes) x1) :
    AC Try.prog 7 [(fun l : List UInt8 => AV.sl 1 (bl l)) x0, (fun l : List UInt8 => AV.sl 1 (bl l)) x1] [] 0 false (fun r _ _ => r = .bool true) := by
  have hb := law_begun5.yes
  have hbl0 : (bl x0).length = x0.length := bl_len x0
  have hbl1 : (bl x1).length = x1.length := bl_len x1
  by_cases h0 : x0.length ≤ 30
  · by_cases h1 : x1.length ≤ 30
    · have hm0 := pk_Made x0
      have hm1 := pk_Made x1
      have ht0 := pk_Txn x0 0 4 (by omega) (by omega) (by omega)
      have ht1 := pk_Txn x1 0 4 (by omega) (by omega) (by omega)
      have may0 := pkTx_may x0 0 4
      have may1 := pkTx_may x1 0 4
      have hv0 := pkTx_ver x0 0 4 (by omega)
      have hv1 := pkTx_ver x1 0 4 (by omega)
      obtain ⟨hr0, hw0⟩ := pkTx_len x0 0 4
      obtain ⟨hr1, hw1⟩ := pkTx_len x1 0 4
      generalize (pkTx x0 0 4).2 = n0 at ht0
      generalize (pkTx x1 0 4).2 = n1 at ht1
      generalize (pkTx x0 0 4).1 = t at ht0 may0 hv0 hr0 hw0
      generalize (pkTx x1 0 4).1 = u at ht1 may1 hv1 hr1 hw1
      have hp0 := txn_Put t may0 (fun r hr => by have := hv0 r hr; omega)
      have hp1 := txn_Put u may1 (fun r hr => by have := hv1 r hr; omega)
      have hs := ref_SameTxn t u (by omega) (by omega) (by omega) (by omega)
      have hs2 := txn_Same t u (by omega) (by omega) (by omega) (by omega)
      have hX := putTx_pos t
      have hY := putTx_pos u
      have hsb := same_bytes may0 may1
      have hblX : (bl (putTx t)).length = (putTx t).length := bl_len _
      have hblY : (bl (putTx u)).length = (putTx u).length := bl_len _
      generalize putTx t = X at hX hsb hp0 hblX
      generalize putTx u = Y at hY hsb hp1 hblY
      generalize sameTxB t u = s at hs hs2 hsb
      rcases hsb with ⟨rfl, rfl⟩ | ⟨rfl, hne⟩
      · have hq : List.take ((min ((bl X).length : Int) ((bl X).length : Int)).toNat - Int.toNat 0) (List.drop (Int.toNat 0) X) = X := by rw [hblX]; simp
        have hxx : X = X := rfl
        refine ac_fn Try.func7 rfl rfl rfl rfl (fun w0 S0 r0 => ?_)
        refine aw_seq ?_
        refine aw_region ?_
        refine st_p (mva rfl) rfl ?_
        refine al_nil ?_
        refine nm ?_
        refine aw_seq ?_
        refine aw_seq ?_
        refine aw_region ?_
        -- STOP: call diwan/diwanlaw5.begun() -> 11
        refine st_o ((op_callq (hb) Try.func19 ⟨rfl, rfl⟩ rfl rfl (fun nx => .nil) (by rintro _ _ _ ⟨rfl, rfl, rfl⟩; exact .same rfl)).ok) rfl ?_
        refine st_p (op_notT rfl) rfl ?_
        refine al_nil ?_
        refine nm ?_
        -- IF t12
        refine aw_no (rfl) ?_
        refine aw_skip ?_
        refine nm ?_
        refine aw_seq ?_
        refine aw_seq ?_
        refine aw_region ?_
        refine st_p (mv rfl) rfl ?_
        refine st_p (op_len Try.underlying22 rfl) rfl ?_
        refine st_p (OpP.conv (op_gt rfl rfl) (no (by first | assumption | omega))) rfl ?_
        refine st_p (mv rfl) rfl ?_
        refine st_pg rfl rfl rfl (mv rfl) rfl ?_
        refine st_pg rfl rfl rfl (op_len Try.underlying22 rfl) rfl ?_
        refine st_pg rfl rfl rfl (OpP.conv (op_gt rfl rfl) (no (by first | assumption | omega))) rfl ?_
        refine st_p (pkF rfl rfl) rfl ?_
        refine al_nil ?_
        refine nm ?_
        -- IF t20
        refine aw_no (rfl) ?_
        refine aw_skip ?_
        refine nm ?_
        refine aw_seq ?_
        refine aw_region ?_
        refine st_p (mv rfl) rfl ?_
        -- STOP: call diwan/diwanplay.Made(t21) -> 22
        refine st_o (op_callg [] 0 true [] [] (hm0) Try.func21 ⟨rfl, rfl⟩ rfl rfl rfl rfl (by omega) (by intro p hp; cases hp) rfl (.cons (.same (by rfl)) .nil) rfl rfl rfl) rfl ?_
        -- STOP: call (*diwan/diwanplay.Picks).Txn(t22, ('app', 'Operand.const', [('app', 'Value.int', ['IntKind.i64', 4])])) -> 23
        refine st_o (op_callg [(0, 0)] 1 true [(0, pkB x0 0)] [0] (ht0) Try.func22 ⟨rfl, rfl⟩ rfl rfl rfl rfl (by omega) (by intro p hp; simp only [List.mem_cons, List.not_mem_nil, or_false] at hp; rcases hp with rfl <;> exact ⟨rfl, rfl⟩) rfl (.cons (.same (by rfl)) (.cons (.same (by rfl)) .nil)) rfl rfl rfl) rfl ?_
        refine st_p (mv rfl) rfl ?_
        -- STOP: call diwan/diwanplay.Made(t24) -> 25
        refine st_o (op_callg [] 0 true [] [] (hm1) Try.func21 ⟨rfl, rfl⟩ rfl rfl rfl rfl (by omega) (by intro p hp; cases hp) rfl (.cons (.same (by rfl)) .nil) rfl rfl rfl) rfl ?_
        -- STOP: call (*diwan/diwanplay.Picks).Txn(t25, ('app', 'Operand.const', [('app', 'Value.int', ['IntKind.i64', 4])])) -> 26
        refine st_o (op_callg [(0, 2)] 1 true [(0, pkB x1 0)] [2] (ht1) Try.func22 ⟨rfl, rfl⟩ rfl rfl rfl rfl (by omega) (by intro p hp; simp only [List.mem_cons, List.not_mem_nil, or_false] at hp; rcases hp with rfl <;> exact ⟨rfl, rfl⟩) rfl (.cons (.same (by rfl)) (.cons (.same (by rfl)) .nil)) rfl rfl rfl) rfl ?_
        refine st_o (op_alloc a26 rfl rfl) rfl ?_
        refine st_o (op_alloc a26 rfl rfl) rfl ?_
        refine st_n (stA z26 rfl rfl rfl rfl rfl rfl rfl rfl rfl rfl) ?_
        refine st_n (stA z26 rfl rfl rfl rfl rfl rfl rfl rfl rfl rfl) ?_
        refine al_nil ?_
        refine nm ?_
        refine aw_seq ?_
        refine dr_go ?_
        refine dr_q 0 0 [5] rfl (op_loadA Try.underlying26 rfl z26 rfl rfl rfl rfl) ?_
        -- STOP: call diwan/txn.Put(t27) -> 28
        refine dr_fq 0 0 [27] rfl (fun H => op_callq (hp0) Try.func25 ⟨rfl, rfl⟩ rfl rfl (fun nx => (.cons (.same (by rfl)) .nil)) (by rintro _ _ _ ⟨rfl, rfl, rfl⟩; exact .whole rfl (by simp) (by first | rfl | simp [AV.plain, plains, bl_plain]))) ?_
        refine dr_q 0 0 [6] rfl (op_loadA Try.underlying26 rfl z26 rfl rfl rfl rfl) ?_
        -- STOP: call diwan/txn.Put(t29) -> 30
        refine dr_fq 0 0 [29] rfl (fun H => op_callq (hp1) Try.func25 ⟨rfl, rfl⟩ rfl rfl (fun nx => (.cons (.same (by rfl)) .nil)) (by rintro _ _ _ ⟨rfl, rfl, rfl⟩; exact .whole rfl (by simp) (by first | rfl | simp [AV.plain, plains, bl_plain]))) ?_
        refine dr_f 0 0 [28] rfl (fun H => mva rfl) ?_
        refine dr_f 0 0 [30] rfl (fun H => mva rfl) ?_
        refine dr_end [] (by kernel_rfl) (by kernel_rfl) (by kernel_rfl) (by kernel_rfl) trivial ?_
        refine nm ?_
        refine aw_seq ?_
        refine aw_region ?_
        refine st_p (op_loadA Try.underlying26 rfl z26 rfl rfl rfl rfl) rfl ?_
        refine st_p (op_loadA Try.underlying26 rfl z26 rfl rfl rfl rfl) rfl ?_
        -- STOP: call diwan/diwanref1.SameTxn(t31, t32) -> 33
        refine st_o ((op_callq (hs) Try.func28 ⟨rfl, rfl⟩ rfl rfl (fun nx => (.cons (.same (by rfl)) (.cons (.same (by rfl)) .nil))) (by rintro _ _ _ ⟨rfl, rfl, rfl⟩; exact .same rfl)).ok) rfl ?_
        refine st_p (mva rfl) rfl ?_
        refine al_nil ?_
        refine nm ?_
        refine aw_seq ?_
        refine aw_seq ?_
        refine aw_region ?_
        refine st_p (mv rfl) rfl ?_
        refine st_p (op_len Try.underlying22 rfl) rfl ?_
        refine st_p (OpP.conv (op_eq rfl rfl) (no (by first | assumption | omega))) rfl ?_
        refine st_p (mv rfl) rfl ?_
        refine st_pg rfl rfl rfl (mv rfl) rfl ?_
        refine st_pg rfl rfl rfl (op_len Try.underlying22 rfl) rfl ?_
        refine st_pg rfl rfl rfl (OpP.conv (op_eq rfl rfl) (no (by first | assumption | omega))) rfl ?_
        refine st_p (pkF rfl rfl) rfl ?_
        refine al_nil ?_
        refine nm ?_
        -- IF t41
        refine aw_no (rfl) ?_
        refine aw_skip ?_
        refine nm ?_
        refine aw_seq ?_
        refine dr_go ?_
        refine dr_f 0 0 [7] rfl (fun H => mv rfl) ?_
        refine dr_f 0 0 [42] rfl (fun H => op_len Try.underlying22 rfl) ?_
        refine dr_f 0 0 [8] rfl (fun H => mv rfl) ?_
        refine dr_f 0 0 [44] rfl (fun H => op_len Try.underlying22 rfl) ?_
        refine dr_f 0 0 [43, 45] rfl (fun H => OpP.conv (op_le rfl rfl) (yes (by first | assumption | omega))) ?_
        refine dr_f 0 0 [46] rfl (fun H => mv rfl) ?_
        refine dr_gf 0 0 [8] rfl (fun H => mv rfl) 0 rfl rfl ?_
        refine dr_gf 0 0 [7] rfl (fun H => mv rfl) 1 rfl rfl ?_
        refine dr_gf 0 0 [49] rfl (fun H => op_len Try.underlying22 rfl) 2 rfl rfl ?_
        refine dr_gf 0 0 [8] rfl (fun H => mv rfl) 3 rfl rfl ?_
        refine dr_gf 0 0 [51] rfl (fun H => op_len Try.underlying22 rfl) 4 rfl rfl ?_
        refine dr_gf 0 0 [50, 52] rfl (fun H => op_min rfl rfl) 5 rfl rfl ?_
        refine dr_gq 0 0 [48, 53] rfl (op_sliceL Try.underlying22 z5 rfl (by exact rfl) (by exact ⟨_, rfl⟩) (by first | omega | (simp only [bl_len, List.length_map, List.length_append, List.length_take, List.length_drop]; omega)) (by first | omega | (simp only [bl_len, List.length_map, List.length_append, List.length_take, List.length_drop]; omega)) (by first | omega | (simp only [bl_len, List.length_map, List.length_append, List.length_take, List.length_drop]; omega))) 6 rfl rfl ?_
        refine dr_gq 0 0 [54] rfl (op_toStr Try.underlying22 Try.underlying5 Try.underlying9 rfl (.sl (.inr trivial)) (by simp only [bl_take, bl_drop, bl_app, List.take_length, List.drop_zero, List.take_nil, List.drop_nil]; rfl)) 7 rfl rfl ?_
        refine dr_gf 0 0 [7] rfl (fun H => mv rfl) 8 rfl rfl ?_
        refine dr_gq 0 0 [56] rfl (op_toStr Try.underlying22 Try.underlying5 Try.underlying9 rfl (.sl (.inr trivial)) rfl) 9 rfl rfl ?_
        refine dr_gf 0 0 [55, 57] rfl (fun H => OpP.conv (op_eqs rfl rfl) (yes (by first | assumption | omega))) 10 rfl rfl ?_
        refine dr_f 0 0 [47, 58] rfl (fun H => pkT rfl rfl) ?_
        refine dr_f 0 0 [59] rfl (fun H => mva rfl) ?_
        refine dr_end [] (by kernel_rfl) (by kernel_rfl) (by kernel_rfl) (by kernel_rfl) trivial ?_
        refine nm ?_
        refine aw_seq ?_
        refine aw_region ?_
        refine st_p (op_loadA Try.underlying26 rfl z26 rfl rfl rfl rfl) rfl ?_
        refine st_p (op_loadA Try.underlying26 rfl z26 rfl rfl rfl rfl) rfl ?_
        -- STOP: call diwan/txn.Same(t60, t61) -> 62
        refine st_o ((op_callq (hs2) Try.func27 ⟨rfl, rfl⟩ rfl rfl (fun nx => (.cons (.same (by rfl)) (.cons (.same (by rfl)) .nil))) (by rintro _ _ _ ⟨rfl, rfl, rfl⟩; exact .same rfl)).ok) rfl ?_
        refine st_p (mv rfl) rfl ?_
        refine st_p (op_eqb Try.underlying4 rfl rfl) rfl ?_
        refine st_p (mv rfl) rfl ?_
        refine st_pg rfl rfl rfl (mv rfl) rfl ?_
        refine st_pg rfl rfl rfl (mv rfl) rfl ?_
        refine st_pg rfl rfl rfl (op_eqb Try.underlying4 rfl rfl) rfl ?_
        refine st_p (pkT rfl rfl) rfl ?_
        refine st_p (mv rfl) rfl ?_
        refine st_pg rfl rfl rfl (mv rfl) rfl ?_
        refine st_pg rfl rfl rfl (op_toStr Try.underlying22 Try.underlying5 Try.underlying9 rfl (.sl (.inr trivial)) rfl) rfl ?_
        refine st_pg rfl rfl rfl (mv rfl) rfl ?_
        refine st_pg rfl rfl rfl (op_toStr Try.underlying22 Try.underlying5 Try.underlying9 rfl (.sl (.inr trivial)) rfl) rfl ?_
        refine st_pg rfl rfl rfl (OpP.conv (op_eqs rfl rfl) (yes (by first | assumption | omega))) rfl ?_
        refine st_pg rfl rfl rfl (mv rfl) rfl ?_
        refine st_pg rfl rfl rfl (op_eqb Try.underlying4 rfl rfl) rfl ?_
        refine st_p (pkT rfl rfl) rfl ?_
        refine st_p (mva rfl) rfl ?_
        refine al_nil ?_
        refine nm ?_
        refine aw_ret ?_
        exact ret_a ⟨[(4, .bool true)], [], 0⟩ (le_to [] rfl rfl rfl rfl rfl ⟨rfl, trivial⟩ trivial) (res1 Try.results7) (.inr ⟨rfl, rfl⟩) rfl
      · have hxy : ¬ X = Y := fun e => hne [] (by rw [e, List.append_nil])
        by_cases hle : X.length ≤ Y.length
        · have hq : ¬ List.take ((min ((bl X).length : Int) ((bl Y).length : Int)).toNat - Int.toNat 0) (List.drop (Int.toNat 0) Y) = X := fun e => hne (Y.drop X.length) (by
            rw [hblX, hblY] at e
            rw [show (min (X.length : Int) (Y.length : Int)).toNat - Int.toNat 0 = X.length by simp; omega] at e
            have e : List.take X.length Y = X := e
            conv => lhs; lhs; rw [← e]
            exact List.take_append_drop _ _)
          refine ac_fn Try.func7 rfl rfl rfl rfl (fun w0 S0 r0 => ?_)
          refine aw_seq ?_
          refine aw_region ?_
          refine st_p (mva rfl) rfl ?_
          refine al_nil ?_
          refine nm ?_
          refine aw_seq ?_
          refine aw_seq ?_
          refine aw_region ?_
          -- STOP: call diwan/diwanlaw5.begun() -> 11
          refine st_o ((op_callq (hb) Try.func19 ⟨rfl, rfl⟩ rfl rfl (fun nx => .nil) (by rintro _ _ _ ⟨rfl, rfl, rfl⟩; exact .same rfl)).ok) rfl ?_
          refine st_p (op_notT rfl) rfl ?_
          refine al_nil ?_
          refine nm ?_
          -- IF t12
          refine aw_no (rfl) ?_
          refine aw_skip ?_
          refine nm ?_
          refine aw_seq ?_
          refine aw_seq ?_
          refine aw_region ?_
          refine st_p (mv rfl) rfl ?_
          refine st_p (op_len Try.underlying22 rfl) rfl ?_
          refine st_p (OpP.conv (op_gt rfl rfl) (no (by first | assumption | omega))) rfl ?_
          refine st_p (mv rfl) rfl ?_
          refine st_pg rfl rfl rfl (mv rfl) rfl ?_
          refine st_pg rfl rfl rfl (op_len Try.underlying22 rfl) rfl ?_
          refine st_pg rfl rfl rfl (OpP.conv (op_gt rfl rfl) (no (by first | assumption | omega))) rfl ?_
          refine st_p (pkF rfl rfl) rfl ?_
          refine al_nil ?_
          refine nm ?_
          -- IF t20
          refine aw_no (rfl) ?_
          refine aw_skip ?_
          refine nm ?_
          refine aw_seq ?_
          refine aw_region ?_
          refine st_p (mv rfl) rfl ?_
          -- STOP: call diwan/diwanplay.Made(t21) -> 22
          refine st_o (op_callg [] 0 true [] [] (hm0) Try.func21 ⟨rfl, rfl⟩ rfl rfl rfl rfl (by omega) (by intro p hp; cases hp) rfl (.cons (.same (by rfl)) .nil) rfl rfl rfl) rfl ?_
          -- STOP: call (*diwan/diwanplay.Picks).Txn(t22, ('app', 'Operand.const', [('app', 'Value.int', ['IntKind.i64', 4])])) -> 23
          refine st_o (op_callg [(0, 0)] 1 true [(0, pkB x0 0)] [0] (ht0) Try.func22 ⟨rfl, rfl⟩ rfl rfl rfl rfl (by omega) (by intro p hp; simp only [List.mem_cons, List.not_mem_nil, or_false] at hp; rcases hp with rfl <;> exact ⟨rfl, rfl⟩) rfl (.cons (.same (by rfl)) (.cons (.same (by rfl)) .nil)) rfl rfl rfl) rfl ?_
          refine st_p (mv rfl) rfl ?_
          -- STOP: call diwan/diwanplay.Made(t24) -> 25
          refine st_o (op_callg [] 0 true [] [] (hm1) Try.func21 ⟨rfl, rfl⟩ rfl rfl rfl rfl (by omega) (by intro p hp; cases hp) rfl (.cons (.same (by rfl)) .nil) rfl rfl rfl) rfl ?_
          -- STOP: call (*diwan/diwanplay.Picks).Txn(t25, ('app', 'Operand.const', [('app', 'Value.int', ['IntKind.i64', 4])])) -> 26
          refine st_o (op_callg [(0, 2)] 1 true [(0, pkB x1 0)] [2] (ht1) Try.func22 ⟨rfl, rfl⟩ rfl rfl rfl rfl (by omega) (by intro p hp; simp only [List.mem_cons, List.not_mem_nil, or_false] at hp; rcases hp with rfl <;> exact ⟨rfl, rfl⟩) rfl (.cons (.same (by rfl)) (.cons (.same (by rfl)) .nil)) rfl rfl rfl) rfl ?_
          refine st_o (op_alloc a26 rfl rfl) rfl ?_
          refine st_o (op_alloc a26 rfl rfl) rfl ?_
          refine st_n (stA z26 rfl rfl rfl rfl rfl rfl rfl rfl rfl rfl) ?_
          refine st_n (stA z26 rfl rfl rfl rfl rfl rfl rfl rfl rfl rfl) ?_
          refine al_nil ?_
          refine nm ?_
          refine aw_seq ?_
          refine dr_go ?_
          refine dr_q 0 0 [5] rfl (op_loadA Try.underlying26 rfl z26 rfl rfl rfl rfl) ?_
          -- STOP: call diwan/txn.Put(t27) -> 28
          refine dr_fq 0 0 [27] rfl (fun H => op_callq (hp0) Try.func25 ⟨rfl, rfl⟩ rfl rfl (fun nx => (.cons (.same (by rfl)) .nil)) (by rintro _ _ _ ⟨rfl, rfl, rfl⟩; exact .whole rfl (by simp) (by first | rfl | simp [AV.plain, plains, bl_plain]))) ?_
          refine dr_q 0 0 [6] rfl (op_loadA Try.underlying26 rfl z26 rfl rfl rfl rfl) ?_
          -- STOP: call diwan/txn.Put(t29) -> 30
          refine dr_fq 0 0 [29] rfl (fun H => op_callq (hp1) Try.func25 ⟨rfl, rfl⟩ rfl rfl (fun nx => (.cons (.same (by rfl)) .nil)) (by rintro _ _ _ ⟨rfl, rfl, rfl⟩; exact .whole rfl (by simp) (by first | rfl | simp [AV.plain, plains, bl_plain]))) ?_
          refine dr_f 0 0 [28] rfl (fun H => mva rfl) ?_
          refine dr_f 0 0 [30] rfl (fun H => mva rfl) ?_
          refine dr_end [] (by kernel_rfl) (by kernel_rfl) (by kernel_rfl) (by kernel_rfl) trivial ?_
          refine nm ?_
          refine aw_seq ?_
          refine aw_region ?_
          refine st_p (op_loadA Try.underlying26 rfl z26 rfl rfl rfl rfl) rfl ?_
          refine st_p (op_loadA Try.underlying26 rfl z26 rfl rfl rfl rfl) rfl ?_
          -- STOP: call diwan/diwanref1.SameTxn(t31, t32) -> 33
          refine st_o ((op_callq (hs) Try.func28 ⟨rfl, rfl⟩ rfl rfl (fun nx => (.cons (.same (by rfl)) (.cons (.same (by rfl)) .nil))) (by rintro _ _ _ ⟨rfl, rfl, rfl⟩; exact .same rfl)).ok) rfl ?_
          refine st_p (mva rfl) rfl ?_
          refine al_nil ?_
          refine nm ?_
          refine aw_seq ?_
          refine aw_seq ?_
          refine aw_region ?_
          refine st_p (mv rfl) rfl ?_
          refine st_p (op_len Try.underlying22 rfl) rfl ?_
          refine st_p (OpP.conv (op_eq rfl rfl) (no (by first | assumption | omega))) rfl ?_
          refine st_p (mv rfl) rfl ?_
          refine st_pg rfl rfl rfl (mv rfl) rfl ?_
          refine st_pg rfl rfl rfl (op_len Try.underlying22 rfl) rfl ?_
          refine st_pg rfl rfl rfl (OpP.conv (op_eq rfl rfl) (no (by first | assumption | omega))) rfl ?_
          refine st_p (pkF rfl rfl) rfl ?_
          refine al_nil ?_
          refine nm ?_
          -- IF t41
          refine aw_no (rfl) ?_
          refine aw_skip ?_
          refine nm ?_
          refine aw_seq ?_
          refine dr_go ?_
          refine dr_f 0 0 [7] rfl (fun H => mv rfl) ?_
          refine dr_f 0 0 [42] rfl (fun H => op_len Try.underlying22 rfl) ?_
          refine dr_f 0 0 [8] rfl (fun H => mv rfl) ?_
          refine dr_f 0 0 [44] rfl (fun H => op_len Try.underlying22 rfl) ?_
          refine dr_f 0 0 [43, 45] rfl (fun H => OpP.conv (op_le rfl rfl) (yes (by first | assumption | omega))) ?_
          refine dr_f 0 0 [46] rfl (fun H => mv rfl) ?_
          refine dr_gf 0 0 [8] rfl (fun H => mv rfl) 0 rfl rfl ?_
          refine dr_gf 0 0 [7] rfl (fun H => mv rfl) 1 rfl rfl ?_
          refine dr_gf 0 0 [49] rfl (fun H => op_len Try.underlying22 rfl) 2 rfl rfl ?_
          refine dr_gf 0 0 [8] rfl (fun H => mv rfl) 3 rfl rfl ?_
          refine dr_gf 0 0 [51] rfl (fun H => op_len Try.underlying22 rfl) 4 rfl rfl ?_
          refine dr_gf 0 0 [50, 52] rfl (fun H => op_min rfl rfl) 5 rfl rfl ?_
          refine dr_gq 0 0 [48, 53] rfl (op_sliceL Try.underlying22 z5 rfl (by exact rfl) (by exact ⟨_, rfl⟩) (by first | omega | (simp only [bl_len, List.length_map, List.length_append, List.length_take, List.length_drop]; omega)) (by first | omega | (simp only [bl_len, List.length_map, List.length_append, List.length_take, List.length_drop]; omega)) (by first | omega | (simp only [bl_len, List.length_map, List.length_append, List.length_take, List.length_drop]; omega))) 6 rfl rfl ?_
          refine dr_gq 0 0 [54] rfl (op_toStr Try.underlying22 Try.underlying5 Try.underlying9 rfl (.sl (.inr trivial)) (by simp only [bl_take, bl_drop, bl_app, List.take_length, List.drop_zero, List.take_nil, List.drop_nil]; rfl)) 7 rfl rfl ?_
          refine dr_gf 0 0 [7] rfl (fun H => mv rfl) 8 rfl rfl ?_
          refine dr_gq 0 0 [56] rfl (op_toStr Try.underlying22 Try.underlying5 Try.underlying9 rfl (.sl (.inr trivial)) rfl) 9 rfl rfl ?_
          refine dr_gf 0 0 [55, 57] rfl (fun H => OpP.conv (op_eqs rfl rfl) (no (by first | assumption | omega))) 10 rfl rfl ?_
          refine dr_f 0 0 [47, 58] rfl (fun H => pkT rfl rfl) ?_
          refine dr_f 0 0 [59] rfl (fun H => mva rfl) ?_
          refine dr_end [] (by kernel_rfl) (by kernel_rfl) (by kernel_rfl) (by kernel_rfl) trivial ?_
          refine nm ?_
          refine aw_seq ?_
          refine aw_region ?_
          refine st_p (op_loadA Try.underlying26 rfl z26 rfl rfl rfl rfl) rfl ?_
          refine st_p (op_loadA Try.underlying26 rfl z26 rfl rfl rfl rfl) rfl ?_
          -- STOP: call diwan/txn.Same(t60, t61) -> 62
          refine st_o ((op_callq (hs2) Try.func27 ⟨rfl, rfl⟩ rfl rfl (fun nx => (.cons (.same (by rfl)) (.cons (.same (by rfl)) .nil))) (by rintro _ _ _ ⟨rfl, rfl, rfl⟩; exact .same rfl)).ok) rfl ?_
          refine st_p (mv rfl) rfl ?_
          refine st_p (op_eqb Try.underlying4 rfl rfl) rfl ?_
          refine st_p (mv rfl) rfl ?_
          refine st_pg rfl rfl rfl (mv rfl) rfl ?_
          refine st_pg rfl rfl rfl (mv rfl) rfl ?_
          refine st_pg rfl rfl rfl (op_eqb Try.underlying4 rfl rfl) rfl ?_
          refine st_p (pkT rfl rfl) rfl ?_
          refine st_p (mv rfl) rfl ?_
          refine st_pg rfl rfl rfl (mv rfl) rfl ?_
          refine st_pg rfl rfl rfl (op_toStr Try.underlying22 Try.underlying5 Try.underlying9 rfl (.sl (.inr trivial)) rfl) rfl ?_
          refine st_pg rfl rfl rfl (mv rfl) rfl ?_
          refine st_pg rfl rfl rfl (op_toStr Try.underlying22 Try.underlying5 Try.underlying9 rfl (.sl (.inr trivial)) rfl) rfl ?_
          refine st_pg rfl rfl rfl (OpP.conv (op_eqs rfl rfl) (no (by first | assumption | omega))) rfl ?_
          refine st_pg rfl rfl rfl (mv rfl) rfl ?_
          refine st_pg rfl rfl rfl (op_eqb Try.underlying4 rfl rfl) rfl ?_
          refine st_p (pkT rfl rfl) rfl ?_
          refine st_p (mva rfl) rfl ?_
          refine al_nil ?_
          refine nm ?_
          refine aw_ret ?_
          exact ret_a ⟨[(4, .bool true)], [], 0⟩ (le_to [] rfl rfl rfl rfl rfl ⟨rfl, trivial⟩ trivial) (res1 Try.results7) (.inr ⟨rfl, rfl⟩) rfl
        · skip
          refine ac_fn Try.func7 rfl rfl rfl rfl (fun w0 S0 r0 => ?_)
          refine aw_seq ?_
          refine aw_region ?_
          refine st_p (mva rfl) rfl ?_
          refine al_nil ?_
          refine nm ?_
          refine aw_seq ?_
          refine aw_seq ?_
          refine aw_region ?_
          -- STOP: call diwan/diwanlaw5.begun() -> 11
          refine st_o ((op_callq (hb) Try.func19 ⟨rfl, rfl⟩ rfl rfl (fun nx => .nil) (by rintro _ _ _ ⟨rfl, rfl, rfl⟩; exact .same rfl)).ok) rfl ?_
          refine st_p (op_notT rfl) rfl ?_
          refine al_nil ?_
          refine nm ?_
          -- IF t12
          refine aw_no (rfl) ?_
          refine aw_skip ?_
          refine nm ?_
          refine aw_seq ?_
          refine aw_seq ?_
          refine aw_region ?_
          refine st_p (mv rfl) rfl ?_
          refine st_p (op_len Try.underlying22 rfl) rfl ?_
          refine st_p (OpP.conv (op_gt rfl rfl) (no (by first | assumption | omega))) rfl ?_
          refine st_p (mv rfl) rfl ?_
          refine st_pg rfl rfl rfl (mv rfl) rfl ?_
          refine st_pg rfl rfl rfl (op_len Try.underlying22 rfl) rfl ?_
          refine st_pg rfl rfl rfl (OpP.conv (op_gt rfl rfl) (no (by first | assumption | omega))) rfl ?_
          refine st_p (pkF rfl rfl) rfl ?_
          refine al_nil ?_
          refine nm ?_
          -- IF t20
          refine aw_no (rfl) ?_
          refine aw_skip ?_
          refine nm ?_
          refine aw_seq ?_
          refine aw_region ?_
          refine st_p (mv rfl) rfl ?_
          -- STOP: call diwan/diwanplay.Made(t21) -> 22
          refine st_o (op_callg [] 0 true [] [] (hm0) Try.func21 ⟨rfl, rfl⟩ rfl rfl rfl rfl (by omega) (by intro p hp; cases hp) rfl (.cons (.same (by rfl)) .nil) rfl rfl rfl) rfl ?_
          -- STOP: call (*diwan/diwanplay.Picks).Txn(t22, ('app', 'Operand.const', [('app', 'Value.int', ['IntKind.i64', 4])])) -> 23
          refine st_o (op_callg [(0, 0)] 1 true [(0, pkB x0 0)] [0] (ht0) Try.func22 ⟨rfl, rfl⟩ rfl rfl rfl rfl (by omega) (by intro p hp; simp only [List.mem_cons, List.not_mem_nil, or_false] at hp; rcases hp with rfl <;> exact ⟨rfl, rfl⟩) rfl (.cons (.same (by rfl)) (.cons (.same (by rfl)) .nil)) rfl rfl rfl) rfl ?_
          refine st_p (mv rfl) rfl ?_
          -- STOP: call diwan/diwanplay.Made(t24) -> 25
          refine st_o (op_callg [] 0 true [] [] (hm1) Try.func21 ⟨rfl, rfl⟩ rfl rfl rfl rfl (by omega) (by intro p hp; cases hp) rfl (.cons (.same (by rfl)) .nil) rfl rfl rfl) rfl ?_
          -- STOP: call (*diwan/diwanplay.Picks).Txn(t25, ('app', 'Operand.const', [('app', 'Value.int', ['IntKind.i64', 4])])) -> 26
          refine st_o (op_callg [(0, 2)] 1 true [(0, pkB x1 0)] [2] (ht1) Try.func22 ⟨rfl, rfl⟩ rfl rfl rfl rfl (by omega) (by intro p hp; simp only [List.mem_cons, List.not_mem_nil, or_false] at hp; rcases hp with rfl <;> exact ⟨rfl, rfl⟩) rfl (.cons (.same (by rfl)) (.cons (.same (by rfl)) .nil)) rfl rfl rfl) rfl ?_
          refine st_o (op_alloc a26 rfl rfl) rfl ?_
          refine st_o (op_alloc a26 rfl rfl) rfl ?_
          refine st_n (stA z26 rfl rfl rfl rfl rfl rfl rfl rfl rfl rfl) ?_
          refine st_n (stA z26 rfl rfl rfl rfl rfl rfl rfl rfl rfl rfl) ?_
          refine al_nil ?_
          refine nm ?_
          refine aw_seq ?_
          refine dr_go ?_
          refine dr_q 0 0 [5] rfl (op_loadA Try.underlying26 rfl z26 rfl rfl rfl rfl) ?_
          -- STOP: call diwan/txn.Put(t27) -> 28
          refine dr_fq 0 0 [27] rfl (fun H => op_callq (hp0) Try.func25 ⟨rfl, rfl⟩ rfl rfl (fun nx => (.cons (.same (by rfl)) .nil)) (by rintro _ _ _ ⟨rfl, rfl, rfl⟩; exact .whole rfl (by simp) (by first | rfl | simp [AV.plain, plains, bl_plain]))) ?_
          refine dr_q 0 0 [6] rfl (op_loadA Try.underlying26 rfl z26 rfl rfl rfl rfl) ?_
          -- STOP: call diwan/txn.Put(t29) -> 30
          refine dr_fq 0 0 [29] rfl (fun H => op_callq (hp1) Try.func25 ⟨rfl, rfl⟩ rfl rfl (fun nx => (.cons (.same (by rfl)) .nil)) (by rintro _ _ _ ⟨rfl, rfl, rfl⟩; exact .whole rfl (by simp) (by first | rfl | simp [AV.plain, plains, bl_plain]))) ?_
          refine dr_f 0 0 [28] rfl (fun H => mva rfl) ?_
          refine dr_f 0 0 [30] rfl (fun H => mva rfl) ?_
          refine dr_end [] (by kernel_rfl) (by kernel_rfl) (by kernel_rfl) (by kernel_rfl) trivial ?_
          refine nm ?_
          refine aw_seq ?_
          refine aw_region ?_
          refine st_p (op_loadA Try.underlying26 rfl z26 rfl rfl rfl rfl) rfl ?_
          refine st_p (op_loadA Try.underlying26 rfl z26 rfl rfl rfl rfl) rfl ?_
          -- STOP: call diwan/diwanref1.SameTxn(t31, t32) -> 33
          refine st_o ((op_callq (hs) Try.func28 ⟨rfl, rfl⟩ rfl rfl (fun nx => (.cons (.same (by rfl)) (.cons (.same (by rfl)) .nil))) (by rintro _ _ _ ⟨rfl, rfl, rfl⟩; exact .same rfl)).ok) rfl ?_
          refine st_p (mva rfl) rfl ?_
          refine al_nil ?_
          refine nm ?_
          refine aw_seq ?_
          refine aw_seq ?_
          refine aw_region ?_
          refine st_p (mv rfl) rfl ?_
          refine st_p (op_len Try.underlying22 rfl) rfl ?_
          refine st_p (OpP.conv (op_eq rfl rfl) (no (by first | assumption | omega))) rfl ?_
          refine st_p (mv rfl) rfl ?_
          refine st_pg rfl rfl rfl (mv rfl) rfl ?_
          refine st_pg rfl rfl rfl (op_len Try.underlying22 rfl) rfl ?_
          refine st_pg rfl rfl rfl (OpP.conv (op_eq rfl rfl) (no (by first | assumption | omega))) rfl ?_
          refine st_p (pkF rfl rfl) rfl ?_
          refine al_nil ?_
          refine nm ?_
          -- IF t41
          refine aw_no (rfl) ?_
          refine aw_skip ?_
          refine nm ?_
          refine aw_seq ?_
          refine dr_go ?_
          refine dr_f 0 0 [7] rfl (fun H => mv rfl) ?_
          refine dr_f 0 0 [42] rfl (fun H => op_len Try.underlying22 rfl) ?_
          refine dr_f 0 0 [8] rfl (fun H => mv rfl) ?_
          refine dr_f 0 0 [44] rfl (fun H => op_len Try.underlying22 rfl) ?_
          refine dr_f 0 0 [43, 45] rfl (fun H => OpP.conv (op_le rfl rfl) (no (by first | assumption | omega))) ?_
          refine dr_f 0 0 [46] rfl (fun H => mv rfl) ?_
          refine dr_s 0 0 0 rfl rfl rfl ?_
          refine dr_s 0 0 1 rfl rfl rfl ?_
          refine dr_s 0 0 2 rfl rfl rfl ?_
          refine dr_s 0 0 3 rfl rfl rfl ?_
          refine dr_s 0 0 4 rfl rfl rfl ?_
          refine dr_s 0 0 5 rfl rfl rfl ?_
          refine dr_s 0 0 6 rfl rfl rfl ?_
          refine dr_s 0 0 7 rfl rfl rfl ?_
          refine dr_s 0 0 8 rfl rfl rfl ?_
          refine dr_s 0 0 9 rfl rfl rfl ?_
          refine dr_s 0 0 10 rfl rfl rfl ?_
          refine dr_f 0 0 [47, 58] rfl (fun H => pkF rfl rfl) ?_
          refine dr_f 0 0 [59] rfl (fun H => mva rfl) ?_
          refine dr_end [] (by kernel_rfl) (by kernel_rfl) (by kernel_rfl) (by kernel_rfl) trivial ?_
          refine nm ?_
          refine aw_seq ?_
          refine aw_region ?_
          refine st_p (op_loadA Try.underlying26 rfl z26 rfl rfl rfl rfl) rfl ?_
          refine st_p (op_loadA Try.underlying26 rfl z26 rfl rfl rfl rfl) rfl ?_
          -- STOP: call diwan/txn.Same(t60, t61) -> 62
          refine st_o ((op_callq (hs2) Try.func27 ⟨rfl, rfl⟩ rfl rfl (fun nx => (.cons (.same (by rfl)) (.cons (.same (by rfl)) .nil))) (by rintro _ _ _ ⟨rfl, rfl, rfl⟩; exact .same rfl)).ok) rfl ?_
          refine st_p (mv rfl) rfl ?_
          refine st_p (op_eqb Try.underlying4 rfl rfl) rfl ?_
          refine st_p (mv rfl) rfl ?_
          refine st_pg rfl rfl rfl (mv rfl) rfl ?_
          refine st_pg rfl rfl rfl (mv rfl) rfl ?_
          refine st_pg rfl rfl rfl (op_eqb Try.underlying4 rfl rfl) rfl ?_
          refine st_p (pkT rfl rfl) rfl ?_
          refine st_p (mv rfl) rfl ?_
          refine st_pg rfl rfl rfl (mv rfl) rfl ?_
          refine st_pg rfl rfl rfl (op_toStr Try.underlying22 Try.underlying5 Try.underlying9 rfl (.sl (.inr trivial)) rfl) rfl ?_
          refine st_pg rfl rfl rfl (mv rfl) rfl ?_
          refine st_pg rfl rfl rfl (op_toStr Try.underlying22 Try.underlying5 Try.underlying9 rfl (.sl (.inr trivial)) rfl) rfl ?_
          refine st_pg rfl rfl rfl (OpP.conv (op_eqs rfl rfl) (no (by first | assumption | omega))) rfl ?_
          refine st_pg rfl rfl rfl (mv rfl) rfl ?_
          refine st_pg rfl rfl rfl (op_eqb Try.underlying4 rfl rfl) rfl ?_
          refine st_p (pkT rfl rfl) rfl ?_
          refine st_p (mva rfl) rfl ?_
          refine al_nil ?_
          refine nm ?_
          refine aw_ret ?_
          exact ret_a ⟨[(4, .bool true)], [], 0⟩ (le_to [] rfl rfl rfl rfl rfl ⟨rfl, trivial⟩ trivial) (res1 Try.results7) (.inr ⟨rfl, rfl⟩) rfl
    · skip
      refine ac_fn Try.func7 rfl rfl rfl rfl (fun w0 S0 r0 => ?_)
      refine aw_seq ?_
      refine aw_region ?_
      refine st_p (mva rfl) rfl ?_
      refine al_nil ?_
      refine nm ?_
      refine aw_seq ?_
      refine aw_seq ?_
      refine aw_region ?_
      -- STOP: call diwan/diwanlaw5.begun() -> 11
      refine st_o ((op_callq (hb) Try.func19 ⟨rfl, rfl⟩ rfl rfl (fun nx => .nil) (by rintro _ _ _ ⟨rfl, rfl, rfl⟩; exact .same rfl)).ok) rfl ?_
      refine st_p (op_notT rfl) rfl ?_
      refine al_nil ?_
      refine nm ?_
      -- IF t12
      refine aw_no (rfl) ?_
      refine aw_skip ?_
      refine nm ?_
      refine aw_seq ?_
      refine aw_seq ?_
      refine aw_region ?_
      refine st_p (mv rfl) rfl ?_
      refine st_p (op_len Try.underlying22 rfl) rfl ?_
      refine st_p (OpP.conv (op_gt rfl rfl) (no (by first | assumption | omega))) rfl ?_
      refine st_p (mv rfl) rfl ?_
      refine st_pg rfl rfl rfl (mv rfl) rfl ?_
      refine st_pg rfl rfl rfl (op_len Try.underlying22 rfl) rfl ?_
      refine st_pg rfl rfl rfl (OpP.conv (op_gt rfl rfl) (yes (by first | assumption | omega))) rfl ?_
      refine st_p (pkF rfl rfl) rfl ?_
      refine al_nil ?_
      refine nm ?_
      -- IF t20
      refine aw_yes (rfl) ?_
      refine aw_seq ?_
      refine aw_region ?_
      refine st_p (mva rfl) rfl ?_
      refine al_nil ?_
      refine nm ?_
      refine aw_ret ?_
      refine rs ?_
      exact ret_v (res1 Try.results7) (.inr ⟨rfl, rfl⟩) rfl
  · skip
    refine ac_fn Try.func7 rfl rfl rfl rfl (fun w0 S0 r0 => ?_)
    refine aw_seq ?_
    refine aw_region ?_
    refine st_p (mva rfl) rfl ?_
    refine al_nil ?_
    refine nm ?_
    refine aw_seq ?_
    refine aw_seq ?_
    refine aw_region ?_
    -- STOP: call diwan/diwanlaw5.begun() -> 11
    refine st_o ((op_callq (hb) Try.func19 ⟨rfl, rfl⟩ rfl rfl (fun nx => .nil) (by rintro _ _ _ ⟨rfl, rfl, rfl⟩; exact .same rfl)).ok) rfl ?_
    refine st_p (op_notT rfl) rfl ?_
    refine al_nil ?_
    refine nm ?_
    -- IF t12
    refine aw_no (rfl) ?_
    refine aw_skip ?_
    refine nm ?_
    refine aw_seq ?_
    refine aw_seq ?_
    refine aw_region ?_
    refine st_p (mv rfl) rfl ?_
    refine st_p (op_len Try.underlying22 rfl) rfl ?_
    refine st_p (OpP.conv (op_gt rfl rfl) (yes (by first | assumption | omega))) rfl ?_
    refine st_p (mv rfl) rfl ?_
    refine st_s rfl rfl rfl rfl rfl ?_
    refine st_s rfl rfl rfl rfl rfl ?_
    refine st_s rfl rfl rfl rfl rfl ?_
    refine st_p (pkT rfl rfl) rfl ?_
    refine al_nil ?_
    refine nm ?_
    -- IF t20
    refine aw_yes (rfl) ?_
    refine aw_seq ?_
    refine aw_region ?_
    refine st_p (mva rfl) rfl ?_
    refine al_nil ?_
    refine nm ?_
    refine aw_ret ?_
    refine rs ?_
    exact ret_v (res1 Try.results7) (.inr ⟨rfl, rfl⟩) rfl

end Go.Proofs.Ytloddmbbfkejcaa.Abs
end
