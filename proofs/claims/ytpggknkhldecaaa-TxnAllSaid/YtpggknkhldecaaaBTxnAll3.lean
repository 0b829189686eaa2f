/- Texts of this session, merged: AbsFA, AbsW, AbsFB, AbsFL, APlayC, ATxnM, APlayD, ASort, ASortB, AbsFC, ASortC, AReads, AConcatS, ATouch, AReadsP, AReadsG, ATakeA. -/
import Derived.Test.YtpggknkhldecaaaBTxnAll2
import Derived.Test.YtpggknkhldecaaaBTxnAll0
set_option linter.unusedVariables false
set_option linter.unusedSimpArgs false
section
namespace Go.Proofs.Ytpggknkhldecaaa.Abs

theorem OpOK.frame {P : Program} {c : Ctx} {n : Nat} {op : Op} {tm : List (Nat × AV)} {H H' : Heap} {X X' : Nat} {v : AV} {ρ : Rho} {S : Nat → Prop} {a : Act} {w : World} (h : OpOK P op ⟨tm, H, X⟩ v H' X') (hr : Rep c n ⟨tm, H, X⟩ ρ S a w) (o : Oper) (ho : o.op = op) :
  Does P o a w fun u w' => ∃ ρ' S', Rep c n ⟨tm, H', X'⟩ ρ' S' a w' ∧ VR S' w' ρ' v u ∧ (∀ b r, ρ b = some r → ρ' b = some r) ∧ (∀ b, S b → S' b ∧ w'.heap[b]? = w.heap[b]?) ∧ w.heap.size ≤ w'.heap.size ∧
   ∀ b, b < w.heap.size → ¬ S b → ¬ Own ρ H b → w'.heap[b]? = w.heap[b]? ∧ ¬ S' b ∧ ¬ Own ρ' H' b := by
 have hr' : Rep ⟨w, Own ρ H, S, ρ, X⟩ n ⟨tm, H, X⟩ ρ S a w :=
  ⟨hr.size, hr.defers, hr.tmps, hr.sim, ⟨rfl, rfl, rfl, Nat.le_refl _, fun _ _ _ => rfl, fun _ h => h, fun _ h => .inl h, fun b B r h1 h2 => .inl ⟨b, B, r, h1, h2, rfl⟩, fun _ _ => rfl⟩, hr.fresh, Nat.le_refl _, hr.dom⟩
 refine (h _ n ρ S a w hr' o ho).mono fun u w' ⟨ρ', S', h1, h2, h3, h4⟩ => ⟨ρ', S', ?_, h2, h3, h4, h1.post.size, fun b hb hS hO => ⟨h1.post.keep b hb hO, fun hs => ?_, fun ⟨i, B, r, e1, e2, e3⟩ => ?_⟩⟩
 ·have hp := hr.post
  have hq := h1.post
  have hown : ∀ b, Own ρ H b → c.own0 b ∨ c.w0.heap.size ≤ b := by
   rintro b ⟨i, B, r, e1, e2, rfl⟩
   exact hp.own i B r e1 e2
  refine ⟨h1.size, h1.defers, h1.tmps, h1.sim, ⟨hq.os.trans hp.os, hq.tape.trans hp.tape, hq.output.trans hp.output, Nat.le_trans hp.size hq.size, fun b hb ho => ?_, fun b hb => hq.sIn b (hp.sIn b hb), fun b hb => ?_, fun b B r e1 e2 => ?_, fun b hb => ?_⟩, h1.fresh, Nat.le_trans hr.le h1.le, h1.dom⟩
  ·refine (hq.keep b (Nat.lt_of_lt_of_le hb hp.size) (fun hO => ?_)).trans (hp.keep b hb ho)
   rcases hown b hO with h' | h'
   ·exact ho h'
   ·omega
  ·rcases hq.sNew b hb with h' | h'
   ·exact hp.sNew b h'
   ·exact .inr (Nat.le_trans hp.size h')
  ·rcases hq.own b B r e1 e2 with h' | h'
   ·exact hown _ h'
   ·exact .inr (Nat.le_trans hp.size h')
  ·exact (hq.ids b (Nat.lt_of_lt_of_le hb hr.le)).trans (hp.ids b hb)
 ·rcases h1.post.sNew b hs with h' | h'
  ·exact hS h'
  ·have : w.heap.size ≤ b := h'
   omega
 ·subst e3
  rcases h1.post.own i B r e1 e2 with h' | h'
  ·exact hO h'
  ·have : w.heap.size ≤ r.blk := h'
   omega

def NewOp (P : Program) (op : Op) (v : AV) (F : Nat) (B : Blk) : Prop :=
 ∀ (c : Ctx) (n : Nat) (H : Heap) (X : Nat) (ρ : Rho) (S : Nat → Prop) (a : Act) (w : World), Rep c n ⟨[], H, X⟩ ρ S a w → ∀ o : Oper, o.op = op →
  Does P o a w fun u w' => Same w w' ∧ ∃ r : R, w.heap.size ≤ r.blk ∧ r.blk < w'.heap.size ∧
   ∀ (S' : Nat → Prop) (w2 : World) (ρ' : Rho), w2.heap[r.blk]? = w'.heap[r.blk]? → ρ' F = some r → VR S' w2 ρ' v u ∧ BR S' w2 ρ' r B

theorem new_alloc {P : Program} {t : TypeId} {z : Value} {v : AV} {F : Nat} (hz : (P.info? t).map (·.zero) = some (some z)) (hv : ofConst z = v) (hk : v.known = true) : NewOp P (.alloc t) (.ptr F 0 0) F (.cells v.cells.length [v]) := by
 intro c n H X ρ S a w hr o ho
 obtain ⟨i, e1, e2⟩ := Option.map_eq_some_iff.1 hz
 have hrun : (execOp a.eval o).run P w = .ok (.value (.pointer (some ⟨w.heap.size, 0, none⟩))) (w.alloc (.cells z.cells t)) := by
  unfold execOp; rw [ho]
  simp [Instr.alloc, zeroValue, typeInfo, e1, e2, newVar, newRow]
 unfold Does
 rw [hrun]
 refine ⟨Same.alloc w _, ⟨w.heap.size, 1, v.cells.length⟩, Nat.le_refl _, by simp, fun S' w2 ρ' h2 hρ => ⟨.ptr0 hρ, ?_⟩⟩
 have hvr : VR S' w2 ρ' v z := hv ▸ ofConst_VR S' w2 ρ' z
 obtain ⟨h1, h3, h4⟩ := hvr.cells hk
 exact ⟨rfl, by simp, by simp, by show 1 ≤ maxLen; unfold maxLen; omega, z.cells, t, h2.trans (heap_alloc_new w _), by rw [h1, Nat.one_mul], h3, fun i x u hx hu => h4 i x u (by simpa [flat] using hx) hu⟩

inductive LoJ (its : List It) (fl : List Nat) (o : Oper) : Nat → Prop
 | zero : LoJ its fl o 0
 | eff {p : Nat} {q : It} (h1 : p ∈ edges o) (h2 : its[p]? = some q) (h3 : q.ef = true) (h4 : p ∉ fl) : LoJ its fl o (rank its p + 1)
 | le {p : Nat} {q : It} {b : Nat} (h1 : p ∈ edges o) (h2 : its[p]? = some q) (h3 : b ≤ q.lo) : LoJ its fl o b
 | flt {p : Nat} (h1 : p ∈ edges o) (h2 : p ∈ fl) (h3 : LoJ its fl o (rank its p)) : LoJ its fl o (rank its p + 1)

def loJ (its : List It) (fl : List Nat) (o : Oper) : Nat → Nat → Bool
 | 0, b => Nat.beq b 0
 | k + 1, b => Nat.beq b 0 || (edges o).any fun p => match its[p]? with
  | some q => (q.ef && (!fl.contains p && Nat.beq (rank its p + 1) b)) || (Nat.ble b q.lo || (fl.contains p && (Nat.beq (rank its p + 1) b && loJ its fl o k (rank its p))))
  | none => false

theorem loJ_ok {its : List It} {fl : List Nat} {o : Oper} : ∀ (k b : Nat), loJ its fl o k b = true → LoJ its fl o b := by
 intro k
 induction k with
 | zero =>
  intro b h
  rw [Nat.eq_of_beq_eq_true h]
  exact .zero
 | succ k ih =>
  intro b h
  simp only [loJ, Bool.or_eq_true] at h
  rcases h with h | h
  ·rw [Nat.eq_of_beq_eq_true h]
   exact .zero
  ·rw [List.any_eq_true] at h
   obtain ⟨p, hp, h⟩ := h
   cases hq : its[p]? with
   | none => rw [hq] at h; cases h
   | some q =>
    rw [hq] at h
    simp only [Bool.or_eq_true, Bool.and_eq_true] at h
    rcases h with ⟨h1, h2, h3⟩ | h1 | ⟨h1, h2, h3⟩
    ·rw [← Nat.eq_of_beq_eq_true h3]
     exact .eff hp hq h1 (by simpa using h2)
    ·exact .le hp hq (Nat.le_of_ble_eq_true h1)
    ·rw [← Nat.eq_of_beq_eq_true h2]
     exact .flt hp (by simpa using h1) (ih _ h3)

section
variable (l : List Oper) (its : List It) (m : Nat) (fl : List Nat)

structure PlanF : Prop where
 len : l.length = its.length
 up : ∀ (i : Nat) (o : Oper), l[i]? = some o → ∀ p ∈ edges o, p < i
 dist : ∀ (i j : Nat) (o o' : Oper) (d : Nat), l[i]? = some o → l[j]? = some o' → o.dst = some d → o'.dst = some d → i = j
 lo : ∀ (i : Nat) (o : Oper) (it : It), l[i]? = some o → its[i]? = some it → LoJ its fl o it.lo
 eff : ∀ (i : Nat) (it : It), its[i]? = some it → it.ef = true → (i ∉ fl → it.lo = rank its i) ∧ it.hi = rank its i ∧ rank its i < m
 hi : ∀ (i : Nat) (it : It), its[i]? = some it → m ≤ it.hi ∨ it.ef = true ∨ ∃ j o q, l[j]? = some o ∧ its[j]? = some q ∧ i ∈ edges o ∧ ((q.ef = true ∧ rank its j ≤ it.hi) ∨ q.hi ≤ it.hi)
 slots : ∀ (i : Nat) (o : Oper) (it : It), l[i]? = some o → its[i]? = some it → ∀ k ∈ it.ks, (∃ p ∈ edges o, ∃ o', l[p]? = some o' ∧ o'.dst = some k) ∨ ∀ (j : Nat) (o' : Oper), l[j]? = some o' → o'.dst = some k → i ∈ edges o'
 guard : ∀ (i : Nat) (o : Oper) (j : Nat) (b : Bool), l[i]? = some o → o.guard = some (j, b) → j ∈ edges o ∧ ∃ o' d, l[j]? = some o' ∧ o'.dst = some d
 fdep : ∀ (i : Nat) (o : Oper) (it : It), l[i]? = some o → its[i]? = some it → ∀ p ∈ edges o, p ∈ fl → rank its p + 1 ≤ it.lo
 flt : ∀ (i : Nat) (o : Oper) (it : It), l[i]? = some o → its[i]? = some it → i ∈ fl → it.ef = true ∧ o.guard = none ∧ ∃ d, o.dst = some d

end

def FlOK (P : Program) (l : List Oper) (its : List It) (hs : List (Heap × Nat)) (i : Nat) : Prop :=
 ∃ o it H X B, l[i]? = some o ∧ its[i]? = some it ∧ hs[rank its i]? = some (H, X) ∧ hs[rank its i + 1]? = some ((X, B) :: H, X + 1) ∧ NewOp P o.op it.v X B

def Kept (c : Ctx) (ρ : Rho) (S : Nat → Prop) (w : World) (H : Heap) (u : Value) (v : AV) (F : Nat) (B : Blk) (r : R) : Prop :=
 c.w0.heap.size ≤ r.blk ∧ r.blk < w.heap.size ∧ ¬ S r.blk ∧ ¬ Own ρ H r.blk ∧
  ∀ (S' : Nat → Prop) (w2 : World) (ρ' : Rho), w2.heap[r.blk]? = w.heap[r.blk]? → ρ' F = some r → VR S' w2 ρ' v u ∧ BR S' w2 ρ' r B

section
variable {P : Program} {c : Ctx} {n : Nat} {Q : Exit → St → Prop} {l : List Oper} {its : List It} {m : Nat} {fl : List Nat} {hs : List (Heap × Nat)} {tm0 : List (Nat × AV)}

def Early (its : List It) (fl : List Nat) (t : Array Bool) (s i : Nat) : Prop := i ∈ fl ∧ L t i ∧ s ≤ rank its i

structure WInv (c : Ctx) (n : Nat) (l : List Oper) (its : List It) (m : Nat) (fl : List Nat) (hs : List (Heap × Nat)) (tm0 : List (Nat × AV)) (t : Array Bool) (a : Act) (w : World) (s : Nat) : Prop where
 size : t.size = l.length
 closed : ∀ (i : Nat) (o : Oper), l[i]? = some o → L t i → ∀ p ∈ edges o, L t p
 st : ∀ (i : Nat) (it : It), its[i]? = some it → it.ef = true → i ∉ fl → (L t i ↔ rank its i < s)
 sf : ∀ (i : Nat) (it : It), its[i]? = some it → i ∈ fl → rank its i < s → L t i
 sm : s ≤ m
 rep : ∃ tm H X ρ S, ∃ q : Nat → R, hs[s]? = some (H, X) ∧ Rep c n ⟨tm, H, X⟩ ρ S a w ∧ (∀ (i : Nat) (o : Oper) (it : It) (x : Nat), l[i]? = some o → its[i]? = some it → o.dst = some x → L t i → ¬ Early its fl t s i → tget tm x = it.v) ∧
  (∀ x, (∀ (i : Nat) (o : Oper), l[i]? = some o → o.dst = some x → ¬ L t i) → tget tm x = tget tm0 x) ∧
  (∀ (i : Nat) (o : Oper) (it : It) (d : Nat) (Hk : Heap) (F : Nat) (B : Blk), Early its fl t s i → l[i]? = some o → its[i]? = some it → o.dst = some d → hs[rank its i]? = some (Hk, F) → hs[rank its i + 1]? = some ((F, B) :: Hk, F + 1) → Kept c ρ S w H (a.tmps.getD d undef) it.v F B (q i)) ∧
  ∀ i j, Early its fl t s i → Early its fl t s j → i ≠ j → (q i).blk ≠ (q j).blk

structure DInvF (c : Ctx) (n : Nat) (l : List Oper) (its : List It) (m : Nat) (fl : List Nat) (hs : List (Heap × Nat)) (tm0 : List (Nat × AV)) (t : Array Bool) (a : Act) (w : World) (s : Nat) : Prop where
 inv : WInv c n l its m fl hs tm0 t a w s
 up : ∀ i, Early its fl t s i → s ≠ rank its i

theorem absorb1 (hp : PlanF l its m fl) (hf : ∀ i ∈ fl, FlOK P l its hs i) {t : Array Bool} {a : Act} {w : World} {s : Nat} (hd : WInv c n l its m fl hs tm0 t a w s) {i : Nat} (hi : Early its fl t s i) (hs' : s = rank its i) : WInv c n l its m fl hs tm0 t a w (s + 1) := by
 obtain ⟨o, it, Hk, F, B, ho, hit, hh1, hh2, hnew⟩ := hf i hi.1
 obtain ⟨hef, hg, d, hdst⟩ := hp.flt i o it ho hit hi.1
 obtain ⟨tm, H, X, ρ, S, q, hHs, hrep, hE1, hE2, hK, hne⟩ := hd.rep
 have hHs' := hHs
 rw [hs', hh1] at hHs'
 obtain ⟨rfl, rfl⟩ := Prod.mk.inj (Option.some.inj hHs')
 obtain ⟨k1, k2, k3, k4, k5⟩ := hK i o it d _ _ B hi ho hit hdst hh1 hh2
 have huni : ∀ (j : Nat) (jt : It), its[j]? = some jt → jt.ef = true → rank its j = s → j = i := fun j jt hj he hr => rank_inj hj hit he hef (by omega)
 have hext : ∀ b r, ρ b = some r → upd ρ F (q i) b = some r := upd_ext hrep _
 have hids : ∀ k, k < F → upd ρ F (q i) k = ρ k := fun k hk => by unfold upd; rw [if_neg (Nat.ne_of_lt hk)]
 have hr1 : Rep c n ⟨tm, (F, B) :: Hk, F + 1⟩ (upd ρ F (q i)) S a w := by
  refine hrep.turn F (q i) B (upd ρ F (q i)) _ _ rfl rfl rfl (Nat.le_refl _) (fun _ _ _ => rfl) hids (Nat.le_succ _) (upd_self _ _ _) (k5 S w _ rfl (upd_self _ _ _)).2 k2 k3 (.inr k1) ?_ ?_ ?_ (Nat.lt_succ_self _)
  ·intro k Y hk
   by_cases e : F = k
   ·subst e; simp only [hget, if_true] at hk; exact .inl ⟨rfl, (Option.some.inj hk).symm⟩
   ·simp only [hget, e, if_false] at hk; exact .inr ⟨fun e' => e e'.symm, hk⟩
  ·intro k Y r hk hY hr
   simp only [hget] at hY
   rw [if_neg (fun e => hk e.symm)] at hY
   exact fun e => k4 ⟨k, Y, r, hY, hr, e⟩
  ·intro k hk
   unfold upd
   rw [if_neg (by omega)]
   exact hrep.fresh k (by show F ≤ k; omega)
 have hm := (hp.eff i it hit hef).2.2
 refine ⟨hd.size, hd.closed, fun j jt hj he hnf => ?_, fun j jt hj hjf hr => ?_, by omega, (d, it.v) :: tm, (F, B) :: Hk, F + 1, upd ρ F (q i), S, q, by rw [hs']; exact hh2, ⟨hr1.size, hr1.defers, fun x => ?_, hr1.sim, hr1.post, hr1.fresh, hr1.le, hr1.dom⟩, fun j oj jt x hoj hj hx hL hne' => ?_, fun x hx => ?_, fun j oj jt dj Hj Fj Bj hej hoj hj hdj e1 e2 => ?_, fun j j' hj hj' hjj => hne j j' ⟨hj.1, hj.2.1, by have := hj.2.2; omega⟩ ⟨hj'.1, hj'.2.1, by have := hj'.2.2; omega⟩ hjj⟩
 ·rw [hd.st j jt hj he hnf]
  have : rank its j ≠ s := fun e => hnf (by rw [huni j jt hj he e]; exact hi.1)
  omega
 ·by_cases e : rank its j < s
  ·exact hd.sf j jt hj hjf e
  ·obtain ⟨oj, hoj⟩ : ∃ oj, l[j]? = some oj := ⟨_, List.getElem?_eq_getElem (by rw [hp.len]; exact (List.getElem?_eq_some_iff.1 hj).1)⟩
   rw [huni j jt hj (hp.flt j oj jt hoj hj hjf).1 (by omega)]
   exact hi.2.1
 ·by_cases e : d = x
  ·subst e
   simp only [tget, if_true]
   exact (k5 S w _ rfl (upd_self _ _ _)).1
  ·simp only [tget, e, if_false]
   exact hr1.tmps x
 ·by_cases e : d = x
  ·subst e
   have : i = j := hp.dist i j o oj d ho hoj hdst hx
   subst this
   rw [hit] at hj
   obtain rfl := Option.some.inj hj
   simp [tget]
  ·simp only [tget, e, if_false]
   refine hE1 j oj jt x hoj hj hx hL fun hej => hne' ⟨hej.1, hL, ?_⟩
   have : rank its j ≠ s := fun e' => by
    have := huni j jt hj (hp.flt j oj jt hoj hj hej.1).1 e'
    subst this
    rw [ho] at hoj
    obtain rfl := Option.some.inj hoj
    exact e (Option.some.inj (hdst.symm.trans hx))
   have := hej.2.2
   omega
 ·have e : d ≠ x := fun e => hx i o ho (by rw [hdst, e]) hi.2.1
  simp only [tget, e, if_false]
  exact hE2 x hx
 ·have hej' : Early its fl t s j := ⟨hej.1, hej.2.1, by have := hej.2.2; omega⟩
  obtain ⟨g1, g2, g3, g4, g5⟩ := hK j oj jt dj Hj Fj Bj hej' hoj hj hdj e1 e2
  refine ⟨g1, g2, g3, fun ⟨k, Y, r, f1, f2, f3⟩ => ?_, g5⟩
  by_cases e : F = k
  ·subst e
   rw [upd_self] at f2
   obtain rfl := Option.some.inj f2
   refine hne i j hi hej' (fun e => ?_) f3
   subst e
   have := hej.2.2
   omega
  ·simp only [hget, e, if_false] at f1
   have hk : k < F := hrep.dom k Y f1
   rw [hids k hk] at f2
   exact g4 ⟨k, Y, r, f1, f2, f3⟩

theorem absorb (hp : PlanF l its m fl) (hf : ∀ i ∈ fl, FlOK P l its hs i) {t : Array Bool} {a : Act} {w : World} : ∀ (k s : Nat), m - s ≤ k → WInv c n l its m fl hs tm0 t a w s → ∃ s', DInvF c n l its m fl hs tm0 t a w s' := by
 intro k
 induction k with
 | zero =>
  intro s hk hd
  refine ⟨s, hd, fun i hi e => ?_⟩
  obtain ⟨o, it, _, _, _, ho, hit, _⟩ := hf i hi.1
  have := (hp.eff i it hit (hp.flt i o it ho hit hi.1).1).2.2
  omega
 | succ k ih =>
  intro s hk hd
  by_cases h : ∃ i, Early its fl t s i ∧ s = rank its i
  ·obtain ⟨i, h1, h2⟩ := h
   exact ih (s + 1) (by omega) (absorb1 hp hf hd h1 h2)
  ·exact ⟨s, hd, fun i hi e => h ⟨i, hi, e⟩⟩

theorem lo_okF (hp : PlanF l its m fl) {t : Array Bool} {a : Act} {w : World} {s : Nat} (hd' : DInvF c n l its m fl hs tm0 t a w s) : ∀ (k i : Nat) (o : Oper) (it : It), i < k → l[i]? = some o → its[i]? = some it → (∀ p ∈ edges o, L t p) → it.lo ≤ s := by
 have hd := hd'.inv
 intro k
 induction k with
 | zero => intro i o it hi; omega
 | succ k ih =>
  intro i o it hi ho hit hall
  have key : ∀ b, LoJ its fl o b → b ≤ s := by
   intro b hb
   induction hb with
   | zero => omega
   | eff h1 h2 h3 h4 =>
    have := (hd.st _ _ h2 h3 h4).1 (hall _ h1)
    omega
   | @le p q b h1 h2 h3 =>
    have hpi := hp.up i o ho p h1
    obtain ⟨op, hop⟩ : ∃ op, l[p]? = some op := ⟨_, List.getElem?_eq_getElem (by rw [hp.len]; exact (List.getElem?_eq_some_iff.1 h2).1)⟩
    have := ih p op q (by omega) hop h2 (hd.closed p op hop (hall p h1))
    omega
   | @flt p h1 h2 h3 h4 =>
    have := hd'.up p
    by_cases e : s = rank its p
    ·exact absurd e (this ⟨h2, hall p h1, by omega⟩)
    ·omega
  exact key _ (hp.lo i o it ho hit)

theorem hi_okF (hp : PlanF l its m fl) {t : Array Bool} {a : Act} {w : World} {s : Nat} (hd : WInv c n l its m fl hs tm0 t a w s) : ∀ (k i : Nat) (it : It), l.length - i ≤ k → its[i]? = some it → ¬ L t i → s ≤ it.hi := by
 have lst : ∀ (i : Nat) (it : It), its[i]? = some it → it.ef = true → rank its i < s → L t i := fun i it hit he hr => by
  by_cases h : i ∈ fl
  ·exact hd.sf i it hit h hr
  ·exact (hd.st i it hit he h).2 hr
 intro k
 induction k with
 | zero =>
  intro i it hk hit _
  have := (List.getElem?_eq_some_iff.1 hit).1
  rw [← hp.len] at this
  omega
 | succ k ih =>
  intro i it hk hit hn
  rcases hp.hi i it hit with h | h | ⟨j, o, q, ho, hq, he, h⟩
  ·have := hd.sm; omega
  ·obtain ⟨h1, h2, h3⟩ := hp.eff i it hit h
   rcases Nat.lt_or_ge (rank its i) s with hlt | hge
   ·exact absurd (lst i it hit h hlt) hn
   ·omega
  ·have hij := hp.up j o ho i he
   have hnj : ¬ L t j := fun hl => hn (hd.closed j o ho hl i he)
   rcases h with ⟨h1, h2⟩ | h1
   ·rcases Nat.lt_or_ge (rank its j) s with hlt | hge
    ·exact absurd (lst j q hq h1 hlt) hnj
    ·omega
   ·have := ih j q (by omega) hq hnj
    omega

theorem drawF_step (hp : PlanF l its m fl) (hf : ∀ i ∈ fl, FlOK P l its hs i) (hdn : ∀ o ∈ l, ∀ d, o.dst = some d → d < n) {F : Nat → List (Nat × AV)} (hF : ∀ (i : Nat) (o : Oper) (it : It) (k : Nat), l[i]? = some o → its[i]? = some it → k ∈ it.ks → (∀ (p : Nat) (o' : Oper) (jt : It), p ∈ edges o → l[p]? = some o' → its[p]? = some jt → o'.dst = some k → tget (F i) k = jt.v) ∧
   ((∀ (j : Nat) (o' : Oper), l[j]? = some o' → o'.dst = some k → i ∈ edges o') → tget (F i) k = tget tm0 k))
  (hob : ∀ (i s : Nat) (it : It), its[i]? = some it → i ∉ fl → it.lo ≤ s → s ≤ it.hi → s ≤ m → Ob P l its F hs i s)
  {t : Array Bool} {a : Act} {w : World} {s : Nat} (hd' : DInvF c n l its m fl hs tm0 t a w s) {i : Nat} {o : Oper} (ho : l[i]? = some o) (hn : ¬ L t i) (hall : ∀ p ∈ edges o, L t p)
  {K : Act → World → Prop} {Qe : Exit → Act → World → Prop} (hK : ∀ a' w' s', DInvF c n l its m fl hs tm0 (t.setIfInBounds i true) a' w' s' → K a' w') : wpOp P l.toArray Qe i K a w := by
 have hd := hd'.inv
 have hil : i < l.length := (List.getElem?_eq_some_iff.1 ho).1
 obtain ⟨it, hit⟩ : ∃ it, its[i]? = some it := ⟨_, List.getElem?_eq_getElem (by rw [← hp.len]; exact hil)⟩
 have hlo := lo_okF hp hd' (i + 1) i o it (by omega) ho hit hall
 have hhi := hi_okF hp hd (l.length - i) i it (Nat.le_refl _) hit hn
 obtain ⟨tm, H, X, ρ, S, qr, hHs, hrep, hE1, hE2, hKp, hnq⟩ := hd.rep
 have hnE : ∀ p ∈ edges o, ¬ Early its fl t s p := fun p hpe he => by
  have h1 := hp.fdep i o it ho hit p hpe he.1
  have h2 := he.2.2
  omega
 have hset : i < t.size := by rw [hd.size]; exact hil
 have early_of : ∀ (s' j : Nat), Early its fl (t.setIfInBounds i true) s' j → i ≠ j → s ≤ s' → Early its fl t s j := fun s' j h hij hss => by
  have h2 := h.2.1
  rw [L_set hset] at h2
  exact ⟨h.1, h2.resolve_left hij, Nat.le_trans hss h.2.2⟩
 have next : i ∉ fl → ∀ (w' : World) (u : Value) (H' : Heap) (X' : Nat) (ρ' : Rho) (S' : Nat → Prop) (s' : Nat), Rep c n ⟨tm, H', X'⟩ ρ' S' a w' → VR S' w' ρ' it.v u → hs[s']? = some (H', X') → s' ≤ m → s ≤ s' →
   (∀ j, Early its fl t s j → s' ≤ rank its j) → w.heap.size ≤ w'.heap.size → (∀ b, b < w.heap.size → ¬ S b → ¬ Own ρ H b → w'.heap[b]? = w.heap[b]? ∧ ¬ S' b ∧ ¬ Own ρ' H' b) →
   (∀ (j : Nat) (jt : It), its[j]? = some jt → jt.ef = true → j ∉ fl → (i = j ∨ L t j ↔ rank its j < s')) → (∀ (j : Nat) (jt : It), its[j]? = some jt → j ∈ fl → rank its j < s' → L t j) → WInv c n l its m fl hs tm0 (t.setIfInBounds i true) (a.put o.dst u) w' s' := by
  intro hif w' u H' X' ρ' S' s' hr' hv' hh' hs' hss hea hsz hkp hst' hsf'
  have hkept : ∀ (j : Nat) (oj : Oper) (jt : It) (d : Nat) (Hk : Heap) (F : Nat) (B : Blk), Early its fl (t.setIfInBounds i true) s' j → l[j]? = some oj → its[j]? = some jt → oj.dst = some d → hs[rank its j]? = some (Hk, F) → hs[rank its j + 1]? = some ((F, B) :: Hk, F + 1) → Kept c ρ' S' w' H' ((a.put o.dst u).tmps.getD d undef) jt.v F B (qr j) := fun j oj jt d Hk F B he hoj hj hdj e1 e2 => by
   have hij : i ≠ j := fun e => hif (e ▸ he.1)
   obtain ⟨g1, g2, g3, g4, g5⟩ := hKp j oj jt d Hk F B (early_of s' j he hij hss) hoj hj hdj e1 e2
   obtain ⟨k1, k2, k3⟩ := hkp _ g2 g3 g4
   have hput : (a.put o.dst u).tmps.getD d undef = a.tmps.getD d undef := by
    cases hdst : o.dst with
    | none => rfl
    | some x =>
     have : x ≠ d := fun e => hij (hp.dist i j o oj d ho hoj (by rw [hdst, e]) hdj)
     simp only [Act.put, Array.getD_eq_getD_getElem?, Array.getElem?_setIfInBounds_ne this]
   rw [hput]
   exact ⟨g1, Nat.lt_of_lt_of_le g2 hsz, k2, k3, fun S2 w2 ρ2 e => g5 S2 w2 ρ2 (e.trans k1)⟩
  have hnq' : ∀ j j', Early its fl (t.setIfInBounds i true) s' j → Early its fl (t.setIfInBounds i true) s' j' → j ≠ j' → (qr j).blk ≠ (qr j').blk := fun j j' h1 h2 h3 => hnq j j' (early_of s' j h1 (fun e => hif (e ▸ h1.1)) hss) (early_of s' j' h2 (fun e => hif (e ▸ h2.1)) hss) h3
  refine ⟨by simp [hd.size], fun j o' ho' hL p hpe => ?_, fun j jt hj he hjf => ?_, fun j jt hj hjf hr => (L_set hset).2 (.inr (hsf' j jt hj hjf hr)), hs', ?_⟩
  ·rw [L_set hset] at hL ⊢
   rcases hL with rfl | hL
   ·rw [ho] at ho'
    obtain rfl := Option.some.inj ho'
    exact .inr (hall p hpe)
   ·exact .inr (hd.closed j o' ho' hL p hpe)
  ·rw [L_set hset]; exact hst' j jt hj he hjf
  ·have hneq : ∀ j, i ≠ j → L t j → ¬ Early its fl (t.setIfInBounds i true) s' j → ¬ Early its fl t s j := fun j hij hL hne he => hne ⟨he.1, (L_set hset).2 (.inr hL), hea j he⟩
   cases hdst : o.dst with
   | none =>
    rw [hdst] at hkept
    refine ⟨tm, H', X', ρ', S', qr, hh', hr', fun j o' jt x hj hjt hx hL hne => ?_, fun x hx => hE2 x (fun j o' hj hxd hL => hx j o' hj hxd ((L_set hset).2 (.inr hL))), hkept, hnq'⟩
    rcases (L_set hset).1 hL with rfl | hL
    ·rw [ho] at hj; obtain rfl := Option.some.inj hj; rw [hdst] at hx; cases hx
    ·refine hE1 j o' jt x hj hjt hx hL (hneq j (fun e => ?_) hL hne)
     subst e
     exact hn hL
   | some d =>
    rw [hdst] at hkept
    refine ⟨(d, it.v) :: tm, H', X', ρ', S', qr, hh', hr'.put d (hdn o (List.mem_of_getElem? ho) d hdst) it.v u hv', fun j o' jt x hj hjt hx hL hne => ?_, fun x hx => ?_, hkept, hnq'⟩
    ·by_cases e : d = x
     ·subst e
      have : i = j := hp.dist i j o o' d ho hj hdst hx
      subst this
      rw [hit] at hjt
      obtain rfl := Option.some.inj hjt
      simp [tget]
     ·simp only [tget, e, if_false]
      rcases (L_set hset).1 hL with rfl | hL
      ·rw [ho] at hj; obtain rfl := Option.some.inj hj; rw [hdst] at hx; exact absurd (Option.some.inj hx) e
      ·refine hE1 j o' jt x hj hjt hx hL (hneq j (fun e => ?_) hL hne)
       subst e
       exact hn hL
    ·have e : d ≠ x := fun e => hx i o ho (by rw [hdst, e]) ((L_set hset).2 (.inl rfl))
     simp only [tget, e, if_false]
     exact hE2 x (fun j o' hj hxd hL => hx j o' hj hxd ((L_set hset).2 (.inr hL)))
 by_cases hif : i ∈ fl
 ·-- a block is made
  obtain ⟨o', it', Hk, F0, B, ho', hit', hh1, hh2, hnew⟩ := hf i hif
  rw [ho] at ho'; rw [hit] at hit'
  obtain rfl := Option.some.inj ho'
  obtain rfl := Option.some.inj hit'
  obtain ⟨hef, hg, d, hdst⟩ := hp.flt i o it ho hit hif
  obtain ⟨_, heq, hrm⟩ := hp.eff i it hit hef
  have hrep0 : Rep c n ⟨[], H, X⟩ ρ S a w := ⟨hrep.size, hrep.defers, fun x => .top, hrep.sim, hrep.post, hrep.fresh, hrep.le, hrep.dom⟩
  unfold wpOp
  rw [show l.toArray[i]? = some o from by rw [List.getElem?_toArray]; exact ho]
  simp only []
  rw [if_pos (by simp [Region.wanted, hg])]
  refine .inl ((hnew c n H X ρ S a w hrep0 o rfl).wp fun u w' ⟨hsame, r, r1, r2, r3⟩ => ?_)
  have hr' := hrep.same hsame
  have hr'' : Rep c n ⟨(d, .top) :: tm, H, X⟩ ρ S (a.put (some d) u) w' := hr'.put d (hdn o (List.mem_of_getElem? ho) d hdst) .top u .top
  have hq1 : ∀ j, Early its fl t s j → (qr j).blk < w.heap.size := fun j hj => by
   obtain ⟨oj, jt, Hj, Fj, Bj, hoj, hjt, e1, e2, _⟩ := hf j hj.1
   obtain ⟨_, _, dj, hdj⟩ := hp.flt j oj jt hoj hjt hj.1
   exact (hKp j oj jt dj Hj Fj Bj hj hoj hjt hdj e1 e2).2.1
  have hput : ∀ x, x ≠ d → (a.put (some d) u).tmps.getD x undef = a.tmps.getD x undef := fun x hx => by
   simp only [Act.put, Array.getD_eq_getD_getElem?, Array.getElem?_setIfInBounds_ne (Ne.symm hx)]
  have hputd : (a.put (some d) u).tmps.getD d undef = u := by
   have hsz := hrep.size
   have hdn' := hdn o (List.mem_of_getElem? ho) d hdst
   simp [Act.put, hsz, hdn']
  have hw : WInv c n l its m fl hs tm0 (t.setIfInBounds i true) (a.put o.dst u) w' s := by
   rw [hdst]
   refine ⟨by simp [hd.size], fun j o' ho' hL p hpe => ?_, fun j jt hj he hjf => ?_, fun j jt hj hjf hr => (L_set hset).2 (.inr (hd.sf j jt hj hjf hr)), hd.sm, (d, .top) :: tm, H, X, ρ, S, fun j => if j = i then r else qr j, hHs, hr'', fun j o' jt x hj hjt hx hL hne => ?_, fun x hx => ?_, fun j oj jt dj Hj Fj Bj hej hoj hj hdj e1 e2 => ?_, fun j j' hj hj' hjj => ?_⟩
   ·rw [L_set hset] at hL ⊢
    rcases hL with rfl | hL
    ·rw [ho] at ho'
     obtain rfl := Option.some.inj ho'
     exact .inr (hall p hpe)
    ·exact .inr (hd.closed j o' ho' hL p hpe)
   ·rw [L_set hset, ← hd.st j jt hj he hjf]
    exact ⟨fun h => h.resolve_left (fun e => hjf (e ▸ hif)), .inr⟩
   ·by_cases e : i = j
    ·subst e
     exact absurd ⟨hif, hL, by omega⟩ hne
    ·have hxd : d ≠ x := fun e' => e (hp.dist i j o o' d ho hj hdst (by rw [hx, e']))
     simp only [tget, hxd, if_false]
     have hL' := ((L_set hset).1 hL).resolve_left e
     exact hE1 j o' jt x hj hjt hx hL' fun he => hne ⟨he.1, hL, he.2.2⟩
   ·have e : d ≠ x := fun e => hx i o ho (by rw [hdst, e]) ((L_set hset).2 (.inl rfl))
    simp only [tget, e, if_false]
    exact hE2 x (fun j o' hj hxd hL => hx j o' hj hxd ((L_set hset).2 (.inr hL)))
   ·by_cases e : j = i
    ·subst e
     rw [ho] at hoj; rw [hit] at hj; rw [hh1] at e1; rw [hh2] at e2
     obtain rfl := Option.some.inj hoj
     obtain rfl := Option.some.inj hj
     obtain ⟨rfl, rfl⟩ := Prod.mk.inj (Option.some.inj e1)
     have e3 := (Prod.mk.inj (Option.some.inj e2)).1
     simp only [List.cons.injEq, Prod.mk.injEq, true_and, and_true] at e3
     subst e3
     rw [hdst] at hdj
     obtain rfl := Option.some.inj hdj
     simp only [if_true]
     rw [hputd]
     refine ⟨Nat.le_trans hrep.post.size r1, r2, fun hS => ?_, fun ⟨k, Y, q, f1, f2, f3⟩ => ?_, r3⟩
     ·have := hrep.sim.lt _ hS; omega
     ·have := (blk_of hrep (b := k) f1 f2).2.1
      omega
    ·have hej' : Early its fl t s j := early_of s j hej (fun h => e h.symm) (Nat.le_refl _)
     obtain ⟨g1, g2, g3, g4, g5⟩ := hKp j oj jt dj Hj Fj Bj hej' hoj hj hdj e1 e2
     have hxd : dj ≠ d := fun e' => e (hp.dist j i oj o d hoj ho (by rw [hdj, e']) hdst)
     simp only [e, if_false]
     rw [hput dj hxd]
     exact ⟨g1, Nat.lt_of_lt_of_le g2 hsame.size, g3, g4, fun S2 w2 ρ2 e => g5 S2 w2 ρ2 (e.trans (hsame.block _ g2))⟩
   ·by_cases e : j = i
    ·have e' : j' ≠ i := fun h => hjj (e.trans h.symm)
     simp only [e, e', if_true, if_false]
     have := hq1 j' (early_of s j' hj' (fun h => e' h.symm) (Nat.le_refl _))
     omega
    ·by_cases e' : j' = i
     ·simp only [e, e', if_true, if_false]
      have := hq1 j (early_of s j hj (fun h => e h.symm) (Nat.le_refl _))
      omega
     ·simp only [e, e', if_false]
      exact hnq j j' (early_of s j hj (fun h => e h.symm) (Nat.le_refl _)) (early_of s j' hj' (fun h => e' h.symm) (Nat.le_refl _)) hjj
  obtain ⟨s', hd2⟩ := absorb hp hf (m - s) s (Nat.le_refl _) hw
  exact hK _ _ _ hd2
 have hO := hob i s it hit hif hlo hhi hd.sm o it H X ho hit hHs
 have fin : ∀ {a' : Act} {w' : World} {s' : Nat}, WInv c n l its m fl hs tm0 (t.setIfInBounds i true) a' w' s' → K a' w' := fun {a' w' s'} hw => by
  obtain ⟨s2, hd2⟩ := absorb hp hf (m - s') s' (Nat.le_refl _) hw
  exact hK _ _ _ hd2
 have hmnr : Rep c n ⟨sel it.ks (F i), H, X⟩ ρ S a w := by
  refine ⟨hrep.size, hrep.defers, fun x => ?_, hrep.sim, hrep.post, hrep.fresh, hrep.le, hrep.dom⟩
  show VR S w ρ (tget (sel it.ks (F i)) x) _
  rw [tget_sel]
  split
  ·rename_i hx
   obtain ⟨f1, f2⟩ := hF i o it x ho hit hx
   have hval : tget (F i) x = tget tm x := by
    rcases hp.slots i o it ho hit x hx with ⟨p, hpe, o', ho', hd'⟩ | hno
    ·obtain ⟨jt, hjt⟩ : ∃ jt, its[p]? = some jt := ⟨_, List.getElem?_eq_getElem (by rw [← hp.len]; exact (List.getElem?_eq_some_iff.1 ho').1)⟩
     rw [f1 p o' jt hpe ho' hjt hd', hE1 p o' jt x ho' hjt hd' (hall p hpe) (hnE p hpe)]
    ·rw [f2 hno, hE2 x (fun j o' ho' hd' hL => hn (hd.closed j o' ho' hL i (hno j o' ho' hd')))]
   rw [hval]
   exact hrep.tmps x
  ·exact .top
 have hquiet : ∀ (j : Nat) (jt : It), it.ef = false → its[j]? = some jt → jt.ef = true → j ∉ fl → (i = j ∨ L t j ↔ rank its j < s) := by
  intro j jt hef hj he hjf
  rw [← hd.st j jt hj he hjf]
  constructor
  ·rintro (rfl | h)
   ·rw [hit] at hj; obtain rfl := Option.some.inj hj; rw [hef] at he; cases he
   ·exact h
  ·exact .inr
 have hrun : Run P o.op it.ef it.v (sel it.ks (F i)) s hs H X → o.wp P a w K Qe := by
  intro hR
  unfold Run at hR
  cases hef : it.ef with
  | true =>
   rw [hef] at hR
   simp only [if_true] at hR
   obtain ⟨H', X', hh', hop⟩ := hR
   obtain ⟨k1, k2, k3⟩ := hp.eff i it hit hef
   have k1 := k1 hif
   have hs1 : s = rank its i := by omega
   refine (hop.frame hmnr o rfl).wp fun u w' ⟨ρ', S', r3, r4, r5, r6, r7, r8⟩ => ?_
   have hr' : Rep c n ⟨tm, H', X'⟩ ρ' S' a w' := ⟨r3.size, r3.defers, fun x => (hrep.tmps x).mono r6 r5, r3.sim, r3.post, r3.fresh, r3.le, r3.dom⟩
   refine fin (next hif w' u H' X' ρ' S' (s + 1) hr' r4 hh' (by omega) (Nat.le_succ _) (fun j hj => ?_) r7 r8 (fun j jt hj he hjf => ?_) fun j jt hj hjf hr => ?_)
   ·have h1 := hj.2.2
    have h2 := hd'.up j hj
    omega
   ·rw [hd.st j jt hj he hjf]
    constructor
    ·rintro (rfl | h)
     ·omega
     ·omega
    ·intro h
     rcases Nat.lt_or_ge (rank its j) s with h' | h'
     ·exact .inr h'
     ·exact .inl (rank_inj hit hj hef he (by omega))
   ·rcases Nat.lt_or_ge (rank its j) s with h' | h'
    ·exact hd.sf j jt hj hjf h'
    ·obtain ⟨oj, hoj⟩ : ∃ oj, l[j]? = some oj := ⟨_, List.getElem?_eq_getElem (by rw [hp.len]; exact (List.getElem?_eq_some_iff.1 hj).1)⟩
     exact absurd (rank_inj hit hj hef (hp.flt j oj jt hoj hj hjf).1 (by omega)) (fun e => hif (e ▸ hjf))
  | false =>
   rw [hef] at hR
   simp only [Bool.false_eq_true, if_false] at hR
   refine ((hR X).frame hmnr o rfl).wp fun u w' ⟨ρ', S', r3, r4, r5, r6, r7, r8⟩ => ?_
   have hr' : Rep c n ⟨tm, H, X⟩ ρ' S' a w' := ⟨r3.size, r3.defers, fun x => (hrep.tmps x).mono r6 r5, r3.sim, r3.post, r3.fresh, r3.le, r3.dom⟩
   exact fin (next hif w' u H X ρ' S' s hr' r4 hHs hd.sm (Nat.le_refl _) (fun j hj => hj.2.2) r7 r8 (fun j jt => hquiet j jt hef) hd.sf)
 unfold wpOp
 rw [show l.toArray[i]? = some o from by rw [List.getElem?_toArray]; exact ho]
 simp only []
 cases hg : o.guard with
 | none =>
  rw [hg] at hO
  rw [if_pos (by simp [Region.wanted, hg])]
  exact .inl (hrun hO)
 | some jb =>
  obtain ⟨j, b⟩ := jb
  rw [hg] at hO
  simp only [] at hO
  obtain ⟨b', ⟨q, hq1, hq2⟩, h1, h2⟩ := hO
  obtain ⟨hje, o', d, ho', hdd⟩ := hp.guard i o j b ho hg
  have hval := hE1 j o' q d ho' hq1 hdd (hall j hje) (hnE j hje)
  have hy : yielded l.toArray a.tmps j = b' := yielded_gv hrep (d := d) (by rw [List.getElem?_toArray, ho']; exact hdd) (hdn o' (List.mem_of_getElem? ho') d hdd) (by rw [show (St.mk tm H X).tm = tm from rfl, hval]; exact hq2)
  by_cases e : b' = some b
  ·rw [if_pos (by simp [Region.wanted, hg, hy, e])]
   exact .inl (hrun (h1 e))
  ·rw [if_neg (by simp [Region.wanted, hg, hy, e])]
   obtain ⟨e1, e2⟩ := h2 e
   exact fin (next hif w undef H X ρ S s hrep (by rw [e1]; exact .tup #[] rfl (fun i x u hx _ => by simp at hx)) hHs hd.sm (Nat.le_refl _) (fun j hj => hj.2.2) (Nat.le_refl _) (fun b hb h1 h2 => ⟨rfl, h1, h2⟩) (fun j jt => hquiet j jt e2) hd.sf)

theorem ready_nilF (hp : PlanF l its m fl) {t : Array Bool} (hts : t.size = l.length) (h : Region.ready .any l.toArray t = []) : ∀ i, i < l.length → L t i := by
 intro i
 induction i using Nat.strongRecOn with
 | ind i ih =>
  intro hi
  refine Classical.byContradiction fun hn => ?_
  have : i ∈ Region.ready .any l.toArray t := (ready_mem hts).2 ⟨hi, hn, _, List.getElem?_eq_getElem hi, fun p hpe => by
   have := hp.up i _ (List.getElem?_eq_getElem hi) p hpe
   exact ih p this (by omega)⟩
  rw [h] at this
  cases this

theorem drawF_any (hp : PlanF l its m fl) (hf : ∀ i ∈ fl, FlOK P l its hs i) (hdn : ∀ o ∈ l, ∀ d, o.dst = some d → d < n) {F : Nat → List (Nat × AV)} (hF : ∀ (i : Nat) (o : Oper) (it : It) (k : Nat), l[i]? = some o → its[i]? = some it → k ∈ it.ks → (∀ (p : Nat) (o' : Oper) (jt : It), p ∈ edges o → l[p]? = some o' → its[p]? = some jt → o'.dst = some k → tget (F i) k = jt.v) ∧
   ((∀ (j : Nat) (o' : Oper), l[j]? = some o' → o'.dst = some k → i ∈ edges o') → tget (F i) k = tget tm0 k)) {E : List (Nat × AV)} (hE : ∀ x, tget E x = ent l its tm0 x)
  (hob : ∀ (i s : Nat) (it : It), its[i]? = some it → i ∉ fl → it.lo ≤ s → s ≤ it.hi → s ≤ m → Ob P l its F hs i s) (hm : rank its its.length = m) {H : Heap} {X : Nat} (hH : hs[m]? = some (H, X)) (hQ : Q .normal ⟨E, H, X⟩) :
  ∀ (fuel : Nat) (t : Array Bool) (a : Act) (w : World) (s : Nat), left l.length t ≤ fuel → DInvF c n l its m fl hs tm0 t a w s → wpAny P .any l.toArray (Lift c n Q) fuel t a w := by
 have fin : ∀ (t : Array Bool) (a : Act) (w : World) (s : Nat), DInvF c n l its m fl hs tm0 t a w s → Region.ready .any l.toArray t = [] → Lift c n Q .normal a w := by
  intro t a w s hd hr
  have hall := ready_nilF hp hd.inv.size hr
  obtain ⟨tm, H', X', ρ, S, qr, hHs, hrep, hE1, hE2, _, _⟩ := hd.inv.rep
  have hs : s = m := by
   refine Nat.le_antisymm hd.inv.sm ?_
   refine Nat.le_of_not_lt fun hlt => ?_
   have find : ∀ (k : Nat), s < rank its k → ∃ i it, its[i]? = some it ∧ it.ef = true ∧ rank its i = s := by
    intro k
    induction k with
    | zero => intro h; simp [rank] at h
    | succ k ih =>
     intro h
     by_cases hk : s < rank its k
     ·exact ih hk
     ·have e : rank its (k + 1) = rank its k + (match its[k]? with | some it => if it.ef then 1 else 0 | none => 0) := by
       unfold rank
       rw [List.take_add_one, List.countP_append]
       cases hk' : its[k]? with
       | none => simp
       | some it => simp [List.countP_cons]
      cases hk' : its[k]? with
      | none => rw [hk'] at e; simp only [Nat.add_zero] at e; omega
      | some it =>
       rw [hk'] at e
       by_cases hef : it.ef = true
       ·simp only [hef, if_true] at e
        exact ⟨k, it, hk', hef, by omega⟩
       ·simp only [hef, Bool.false_eq_true, if_false, Nat.add_zero] at e; omega
   obtain ⟨i, it, h1, h2, h3⟩ := find its.length (by omega)
   have hil : i < l.length := by rw [hp.len]; exact (List.getElem?_eq_some_iff.1 h1).1
   by_cases hif : i ∈ fl
   ·exact hd.up i ⟨hif, hall i hil, by omega⟩ h3.symm
   ·have := (hd.inv.st i it h1 h2 hif).1 (hall i hil)
    omega
  rw [hs, hH] at hHs
  obtain ⟨rfl, rfl⟩ := Prod.mk.inj (Option.some.inj hHs)
  refine ⟨⟨E, H, X⟩, ρ, S, hQ, hrep.size, hrep.defers, fun x => ?_, hrep.sim, hrep.post, hrep.fresh, hrep.le, hrep.dom⟩
  show VR S w ρ (tget E x) _
  obtain ⟨g1, g2⟩ := ent_spec l its tm0 x hp.len hp.dist
  have : tget E x = tget tm x := by
   rw [hE]
   by_cases hx : ∃ (i : Nat) (o : Oper), l[i]? = some o ∧ o.dst = some x
   ·obtain ⟨i, o, ho, hx⟩ := hx
    have hil : i < l.length := (List.getElem?_eq_some_iff.1 ho).1
    obtain ⟨it, hit⟩ : ∃ it, its[i]? = some it := ⟨_, List.getElem?_eq_getElem (by rw [← hp.len]; exact hil)⟩
    rw [g1 i o it ho hit hx, hE1 i o it x ho hit hx (hall i hil) (fun he => by have h1 := (hp.eff i it hit (hp.flt i o it ho hit he.1).1).2.2; have h2 := he.2.2; omega)]
   ·rw [g2 (fun i o ho hx' => hx ⟨i, o, ho, hx'⟩), hE2 x (fun i o ho hx' => absurd ⟨i, o, ho, hx'⟩ hx)]
  rw [this]
  exact hrep.tmps x
 intro fuel
 induction fuel with
 | zero =>
  intro t a w s hl hd
  have hr : Region.ready .any l.toArray t = [] := by
   refine List.eq_nil_iff_forall_not_mem.2 fun i hi => ?_
   obtain ⟨h1, h2, _⟩ := (ready_mem hd.inv.size).1 hi
   have : left l.length t = 0 := by omega
   unfold left at this
   rw [List.countP_eq_zero] at this
   have := this i (List.mem_range.2 h1)
   unfold L at h2
   exact this (by revert h2; cases t.getD i false <;> simp)
  exact ⟨hr, fin t a w s hd hr⟩
 | succ fuel ih =>
  intro t a w s hl hd
  refine ⟨fin t a w s hd, fun i hi => ?_⟩
  obtain ⟨h1, h2, o, ho, h3⟩ := (ready_mem hd.inv.size).1 hi
  refine drawF_step hp hf hdn hF hob hd ho h2 h3 fun a' w' s' hd' => ih _ a' w' s' ?_ hd'
  have hts : i < t.size := by rw [hd.inv.size]; exact h1
  have := countP_less (p := fun j => !(t.setIfInBounds i true).getD j false) (q := fun j => !t.getD j false) (l := List.range l.length) (fun x _ hx => ?_) (List.mem_range.2 h1) ?_ ?_
  ·unfold left at hl ⊢; omega
  ·by_cases e : i = x
   ·subst e
    rw [show (t.setIfInBounds i true).getD i false = true from (L_set hts).2 (.inl rfl)] at hx
    cases hx
   ·rw [getD_set_ne false e] at hx; exact hx
  ·unfold L at h2; revert h2; cases t.getD i false <;> simp
  ·show (!(t.setIfInBounds i true).getD i false) = false
   rw [show (t.setIfInBounds i true).getD i false = true from (L_set hts).2 (.inl rfl)]; rfl

end

def chk1F (l : List Oper) (its : List It) (m : Nat) (fl : List Nat) (i : Nat) (o : Oper) (it : It) : Bool :=
 (edges o).all (fun p => Nat.blt p i) &&
 (match o.dst with | none => true | some d => (l.take i).all fun o' => !dstIs o' d) &&
 loJ its fl o (it.lo + 1) it.lo &&
 (if it.ef then (fl.contains i || Nat.beq it.lo (rank its i)) && Nat.beq it.hi (rank its i) && Nat.blt (rank its i) m else Nat.ble m it.hi || (List.range l.length).any fun j => match l[j]?, its[j]? with
  | some o', some q => (edges o').contains i && ((q.ef && Nat.ble (rank its j) it.hi) || Nat.ble q.hi it.hi)
  | _, _ => false) &&
 (it.ks.all fun k => ((edges o).any fun p => match l[p]? with | some o' => dstIs o' k | none => false) || l.all fun o' => !dstIs o' k || (edges o').contains i) &&
 (match o.guard with | none => true | some (j, _) => (edges o).contains j && match l[j]? with | some o' => o'.dst.isSome | none => false) &&
 (((edges o).all fun p => !fl.contains p || Nat.ble (rank its p + 1) it.lo) && (!fl.contains i || (it.ef && (o.guard.isNone && o.dst.isSome))))

def chkF (l : List Oper) (its : List It) (m : Nat) (fl : List Nat) : Bool :=
 Nat.beq l.length its.length && (List.range l.length).all fun i => match l[i]?, its[i]? with
  | some o, some it => chk1F l its m fl i o it
  | _, _ => true

theorem chk_planF {l : List Oper} {its : List It} {m : Nat} {fl : List Nat} (h : chkF l its m fl = true) : PlanF l its m fl := by
 unfold chkF at h
 rw [Bool.and_eq_true] at h
 obtain ⟨h0, h⟩ := h
 have hlen : l.length = its.length := Nat.eq_of_beq_eq_true h0
 rw [List.all_eq_true] at h
 have one : ∀ (i : Nat) (o : Oper) (it : It), l[i]? = some o → its[i]? = some it → chk1F l its m fl i o it = true := fun i o it ho hi => by
  have := h i (List.mem_range.2 (List.getElem?_eq_some_iff.1 ho).1)
  rw [ho, hi] at this
  exact this
 have it_of : ∀ (i : Nat) (o : Oper), l[i]? = some o → ∃ it, its[i]? = some it := fun i o ho => ⟨_, List.getElem?_eq_getElem (by rw [← hlen]; exact (List.getElem?_eq_some_iff.1 ho).1)⟩
 have o_of : ∀ (i : Nat) (it : It), its[i]? = some it → ∃ o, l[i]? = some o := fun i it ho => ⟨_, List.getElem?_eq_getElem (by rw [hlen]; exact (List.getElem?_eq_some_iff.1 ho).1)⟩
 have parts : ∀ (i : Nat) (o : Oper) (it : It), l[i]? = some o → its[i]? = some it → _ := fun i o it ho hi => by
  have := one i o it ho hi
  unfold chk1F at this
  simp only [Bool.and_eq_true] at this
  exact this
 have dist : ∀ (i j : Nat) (o o' : Oper) (d : Nat), j < i → l[i]? = some o → l[j]? = some o' → o.dst = some d → o'.dst = some d → False := fun i j o o' d hij ho ho' hd hd' => by
  obtain ⟨it, hit⟩ := it_of i o ho
  obtain ⟨⟨⟨⟨⟨⟨_, h2⟩, _⟩, _⟩, _⟩, _⟩, _⟩ := parts i o it ho hit
  rw [hd] at h2
  simp only [] at h2
  rw [List.all_eq_true] at h2
  have hm : o' ∈ l.take i := List.mem_of_getElem? (i := j) (by rw [List.getElem?_take_of_lt hij]; exact ho')
  have := h2 o' hm
  rw [dstIs_iff.2 hd'] at this
  cases this
 refine ⟨hlen, fun i o ho p hp => ?_, fun i j o o' d ho ho' hd hd' => ?_, fun i o it ho hit => ?_, fun i it hit he => ?_, fun i it hit => ?_, fun i o it ho hit k hk => ?_, fun i o j b ho hg => ?_, fun i o it ho hit p hp hpf => ?_, fun i o it ho hit hif => ?_⟩
 ·obtain ⟨it, hit⟩ := it_of i o ho
  obtain ⟨⟨⟨⟨⟨⟨h1, _⟩, _⟩, _⟩, _⟩, _⟩, _⟩ := parts i o it ho hit
  rw [List.all_eq_true] at h1
  have := h1 p hp
  simpa using this
 ·rcases Nat.lt_trichotomy i j with h1 | h1 | h1
  ·exact (dist j i o' o d h1 ho' ho hd' hd).elim
  ·exact h1
  ·exact (dist i j o o' d h1 ho ho' hd hd').elim
 ·obtain ⟨⟨⟨⟨⟨⟨_, _⟩, h3⟩, _⟩, _⟩, _⟩, _⟩ := parts i o it ho hit
  exact loJ_ok _ _ h3
 ·obtain ⟨o, ho⟩ := o_of i it hit
  obtain ⟨⟨⟨⟨⟨⟨_, _⟩, _⟩, h4⟩, _⟩, _⟩, _⟩ := parts i o it ho hit
  rw [if_pos he] at h4
  simp only [Bool.and_eq_true] at h4
  rw [Bool.or_eq_true] at h4
  exact ⟨fun hnf => h4.1.1.elim (fun h => absurd (by simpa using h) hnf) Nat.eq_of_beq_eq_true, Nat.eq_of_beq_eq_true h4.1.2, by simpa using h4.2⟩
 ·obtain ⟨o, ho⟩ := o_of i it hit
  obtain ⟨⟨⟨⟨⟨⟨_, _⟩, _⟩, h4⟩, _⟩, _⟩, _⟩ := parts i o it ho hit
  by_cases he : it.ef = true
  ·exact .inr (.inl he)
  ·rw [if_neg he] at h4
   rw [Bool.or_eq_true] at h4
   rcases h4 with h4 | h4
   ·exact .inl (Nat.le_of_ble_eq_true h4)
   ·rw [List.any_eq_true] at h4
    obtain ⟨j, hj, h4⟩ := h4
    refine .inr (.inr ?_)
    cases ho' : l[j]? with
    | none => rw [ho'] at h4; cases h4
    | some o' =>
     obtain ⟨q, hq⟩ := it_of j o' ho'
     rw [ho', hq] at h4
     simp only [Bool.and_eq_true, Bool.or_eq_true] at h4
     exact ⟨j, o', q, ho', hq, by simpa using h4.1, h4.2.imp (fun h => ⟨h.1, Nat.le_of_ble_eq_true h.2⟩) Nat.le_of_ble_eq_true⟩
 ·obtain ⟨⟨⟨⟨⟨⟨_, _⟩, _⟩, _⟩, h5⟩, _⟩, _⟩ := parts i o it ho hit
  rw [List.all_eq_true] at h5
  have h5 := h5 k hk
  rw [Bool.or_eq_true] at h5
  rcases h5 with h5 | h5
  ·rw [List.any_eq_true] at h5
   obtain ⟨p, hp, h5⟩ := h5
   cases ho' : l[p]? with
   | none => rw [ho'] at h5; cases h5
   | some o' => rw [ho'] at h5; exact .inl ⟨p, hp, o', ho', dstIs_iff.1 h5⟩
  ·rw [List.all_eq_true] at h5
   refine .inr fun j o' hj hd => ?_
   have := h5 o' (List.mem_of_getElem? hj)
   rw [dstIs_iff.2 hd] at this
   simpa using this
 ·obtain ⟨it, hit⟩ := it_of i o ho
  obtain ⟨⟨_, h6⟩, _⟩ := parts i o it ho hit
  rw [hg] at h6
  simp only [Bool.and_eq_true] at h6
  refine ⟨by simpa using h6.1, ?_⟩
  cases ho' : l[j]? with
  | none => rw [ho'] at h6; cases h6.2
  | some o' =>
   rw [ho'] at h6
   obtain ⟨d, hd⟩ := Option.isSome_iff_exists.1 h6.2
   exact ⟨o', d, rfl, hd⟩
 ·obtain ⟨_, h7, _⟩ := parts i o it ho hit
  rw [List.all_eq_true] at h7
  have := h7 p hp
  rw [Bool.or_eq_true] at this
  rcases this with h | h
  ·simp [hpf] at h
  ·exact Nat.le_of_ble_eq_true h
 ·obtain ⟨_, _, h8⟩ := parts i o it ho hit
  rw [Bool.or_eq_true] at h8
  rcases h8 with h | h
  ·simp [hif] at h
  ·simp only [Bool.and_eq_true] at h
   exact ⟨h.1, by simpa using h.2.1, Option.isSome_iff_exists.1 h.2.2⟩

def Fls (P : Program) (l : List Oper) (its : List It) (hs : List (Heap × Nat)) : List Nat → Prop
 | [] => True
 | i :: r => (match l[i]?, its[i]?, hs[rank its i]?, hs[rank its i + 1]? with
  | some o, some it, some (H, X), some (h', x') => ∃ B, h' = (X, B) :: H ∧ x' = X + 1 ∧ NewOp P o.op it.v X B
  | _, _, _, _ => False) ∧ Fls P l its hs r

theorem Fls.get {P : Program} {l : List Oper} {its : List It} {hs : List (Heap × Nat)} : ∀ {fl : List Nat}, Fls P l its hs fl → ∀ i ∈ fl, FlOK P l its hs i := by
 intro fl
 induction fl with
 | nil => intro _ i hi; cases hi
 | cons j r ih =>
  intro h i hi
  rcases List.mem_cons.1 hi with rfl | hi
  ·have h1 := h.1
   revert h1
   cases e1 : l[i]? with
   | none => intro h1; exact h1.elim
   | some o =>
    cases e2 : its[i]? with
    | none => intro h1; exact h1.elim
    | some it =>
     cases e3 : hs[rank its i]? with
     | none => intro h1; exact h1.elim
     | some p =>
      cases e4 : hs[rank its i + 1]? with
      | none => intro h1; exact h1.elim
      | some q =>
       obtain ⟨H, X⟩ := p
       obtain ⟨h', x'⟩ := q
       rintro ⟨B, rfl, rfl, h3⟩
       exact ⟨o, it, H, X, B, e1, e2, e3, e4, h3⟩
  ·exact ih h.2 i hi

section
variable {P : Program} {c : Ctx} {n : Nat} {Q : Exit → St → Prop} {id : Nat}

theorem draw_endF {l : List Oper} {its : List It} {hs : List (Heap × Nat)} {fr : List Nat} {st0 st : St} (fl : List Nat) (ps : List (Nat × Nat)) (hm : P.follows .mixedOrders = true) (hcol : Col P st0 l its hs fr st) (hchk : chkF l its (rank its its.length) fl = true) (hfl : Fls P l its hs fl)
  (hdn : (l.all fun o => match o.dst with | some d => Nat.blt d n | none => true) = true) (hmore : more l its fr ps (rank its its.length) = true) (hx : Ats P l its hs st.tm ps) (hQ : Q .normal st) : AW P c n (.region id l.toArray true) Q st0 := by
 intro ρ S a w hr
 have hp := chk_planF hchk
 have hf := hcol.facts
 have hE : ∀ x, tget st.tm x = ent l its st0.tm x := fun x => by
  obtain ⟨g1, g2⟩ := ent_spec l its st0.tm x hp.len hp.dist
  by_cases hx : ∃ (i : Nat) (o : Oper), l[i]? = some o ∧ o.dst = some x
  ·obtain ⟨i, o, ho, hx⟩ := hx
   obtain ⟨it, hit⟩ : ∃ it, its[i]? = some it := ⟨_, List.getElem?_eq_getElem (by rw [← hp.len]; exact (List.getElem?_eq_some_iff.1 ho).1)⟩
   rw [g1 i o it ho hit hx]
   exact hf.val i o it x ho hit hx (fun j o' hij hj hd => by have := hp.dist i j o o' x ho hj hx hd; omega)
  ·rw [g2 (fun i o ho hx' => hx ⟨i, o, ho, hx'⟩)]
   exact hf.old x (fun i o ho hx' => hx ⟨i, o, ho, hx'⟩)
 obtain ⟨F, hFF⟩ : ∃ F : Nat → List (Nat × AV), ∀ (i : Nat) (o : Oper) (it : It), l[i]? = some o → its[i]? = some it → Known P its hs (fr.contains i) i o it (F i) ∧ (∀ k, (∀ (j : Nat) (o' : Oper), i ≤ j → l[j]? = some o' → o'.dst ≠ some k) → tget st.tm k = tget (F i) k) ∧
   (∀ (j : Nat) (o' : Oper) (jt : It) (x : Nat), j < i → l[j]? = some o' → its[j]? = some jt → o'.dst = some x → (∀ (k : Nat) (o'' : Oper), j < k → k < i → l[k]? = some o'' → o''.dst ≠ some x) → tget (F i) x = jt.v) ∧
   ∀ x, (∀ (j : Nat) (o' : Oper), j < i → l[j]? = some o' → o'.dst ≠ some x) → tget (F i) x = tget st0.tm x := by
  refine Classical.axiomOfChoice (r := fun i tm => ∀ (o : Oper) (it : It), l[i]? = some o → its[i]? = some it → Known P its hs (fr.contains i) i o it tm ∧ (∀ k, (∀ (j : Nat) (o' : Oper), i ≤ j → l[j]? = some o' → o'.dst ≠ some k) → tget st.tm k = tget tm k) ∧
   (∀ (j : Nat) (o' : Oper) (jt : It) (x : Nat), j < i → l[j]? = some o' → its[j]? = some jt → o'.dst = some x → (∀ (k : Nat) (o'' : Oper), j < k → k < i → l[k]? = some o'' → o''.dst ≠ some x) → tget tm x = jt.v) ∧
   ∀ x, (∀ (j : Nat) (o' : Oper), j < i → l[j]? = some o' → o'.dst ≠ some x) → tget tm x = tget st0.tm x) fun i => ?_
  by_cases hi : ∃ o it, l[i]? = some o ∧ its[i]? = some it
  ·obtain ⟨o, it, ho, hit⟩ := hi
   obtain ⟨tm, k⟩ := hf.known i o it ho hit
   refine ⟨tm, fun o' it' ho' hit' => ?_⟩
   rw [ho] at ho'; rw [hit] at hit'
   obtain rfl := Option.some.inj ho'
   obtain rfl := Option.some.inj hit'
   exact k
  ·exact ⟨[], fun o it ho hit => (hi ⟨o, it, ho, hit⟩).elim⟩
 have hF : ∀ (i : Nat) (o : Oper) (it : It) (k : Nat), l[i]? = some o → its[i]? = some it → k ∈ it.ks → (∀ (p : Nat) (o' : Oper) (jt : It), p ∈ edges o → l[p]? = some o' → its[p]? = some jt → o'.dst = some k → tget (F i) k = jt.v) ∧
   ((∀ (j : Nat) (o' : Oper), l[j]? = some o' → o'.dst = some k → i ∈ edges o') → tget (F i) k = tget st0.tm k) := fun i o it k ho hit _ => by
  obtain ⟨_, _, k3, k4⟩ := hFF i o it ho hit
  refine ⟨fun p o' jt hp' ho' hjt hd => k3 p o' jt k (hp.up i o ho p hp') ho' hjt hd fun q o'' h1 h2 h3 h4 => ?_, fun hj => k4 k fun j o' hlt ho' hd => ?_⟩
  ·have := hp.dist p q o' o'' k ho' h3 hd h4; omega
  ·have := hp.up j o' ho' i (hj j o' ho' hd); omega
 have hob : ∀ (i s : Nat) (it : It), its[i]? = some it → i ∉ fl → it.lo ≤ s → s ≤ it.hi → s ≤ rank its its.length → Ob P l its F hs i s := by
  intro i s it0 hit0 hif hlo hhi hs' o it H X ho hit hH
  rw [hit0] at hit
  obtain rfl := Option.some.inj hit
  obtain ⟨⟨r, k1, k2, k3⟩, k4, _, _⟩ := hFF i o it0 ho hit0
  have hrun : r = true → Run P o.op it0.ef it0.v (sel it0.ks (F i)) s hs H X := fun hr => by
   obtain ⟨⟨H', X', h1, h2⟩, h3⟩ := k2 hr
   by_cases hnat : s = rank its i
   ·subst hnat
    rw [h1] at hH
    obtain ⟨rfl, rfl⟩ := Prod.mk.inj (Option.some.inj hH)
    exact h2
   ·have he : it0.ef = false := by
     cases he : it0.ef with
     | false => rfl
     | true =>
      obtain ⟨e1, e2, _⟩ := hp.eff i it0 hit0 he
      have e1 := e1 hif
      omega
    unfold Run
    rw [he]
    simp only [Bool.false_eq_true, if_false]
    unfold more at hmore
    rw [List.all_eq_true] at hmore
    have hm' := hmore i (List.mem_range.2 (List.getElem?_eq_some_iff.1 hit0).1)
    rw [hit0] at hm'
    simp only [he, Bool.false_or, Bool.or_eq_true] at hm'
    rcases hm' with hm' | hm'
    ·exact (h3 hm').2 H
    ·rw [List.all_eq_true] at hm'
     have := hm' s (List.mem_range.2 (by omega))
     simp only [Bool.or_eq_true] at this
     rcases this with ((h' | h') | h') | h'
     ·have := Nat.le_of_ble_eq_true h'; omega
     ·have := Nat.le_of_ble_eq_true h'; omega
     ·exact absurd (Nat.eq_of_beq_eq_true h') hnat
     ·rw [Bool.and_eq_true, List.any_eq_true] at h'
      obtain ⟨hks, p, hp1, hp2⟩ := h'
      have hsel : sel it0.ks st.tm = sel it0.ks (F i) := sel_congr fun k hk => k4 k fun j o' hij hj hd => by
       have h8 := List.all_eq_true.1 hks k hk
       have h9 := List.all_eq_true.1 h8 o' (List.mem_of_getElem? (i := j - i) (by rw [List.getElem?_drop, Nat.add_sub_cancel' hij]; exact hj))
       rw [dstIs_iff.2 hd] at h9
       cases h9
      rw [Bool.and_eq_true] at hp2
      have e1 := Nat.eq_of_beq_eq_true hp2.1
      have e2 := Nat.eq_of_beq_eq_true hp2.2
      have := hx.get p hp1
      unfold At at this
      rw [e1, e2, ho, hit0, hH] at this
      obtain ⟨tm1, k1, k2⟩ := this
      rw [selS_spec _ _ k1, hsel] at k2
      exact k2
  cases hg : o.guard with
  | none =>
   rw [hg] at k1
   exact hrun k1
  | some jb =>
   obtain ⟨j, b⟩ := jb
   rw [hg] at k1
   obtain ⟨q, b', q1, q2, q3⟩ := k1
   refine ⟨b', ⟨q, q1, q2⟩, fun e => hrun (by rw [q3, e]; simp), fun e => k3 (by rw [q3]; simpa using e)⟩
 have hno : ∀ i, ¬ L (Array.replicate l.length false) i := fun i h => by
  unfold L at h
  rw [Array.getD_eq_getD_getElem?, Array.getElem?_replicate] at h
  split at h <;> simp at h
 have hinit : DInvF c n l its (rank its its.length) fl hs st0.tm (Array.replicate l.length false) a w.drew 0 :=
  ⟨⟨by simp, fun i o _ h => (hno i h).elim, fun i it hit he _ => ⟨fun h => (hno i h).elim, fun h => absurd h (Nat.not_lt_zero _)⟩, fun i it hit _ h => absurd h (Nat.not_lt_zero _), Nat.zero_le _,
   ⟨st0.tm, st0.h, st0.nx, ρ, S, fun _ => ⟨0, 0, 0⟩, hf.zero, hr.same (Same.drew w), fun i o it x _ _ _ h => (hno i h).elim, fun _ _ => rfl, fun i o it d Hk F B he => (hno i he.2.1).elim, fun i j he => (hno i he.2.1).elim⟩⟩, fun i he => (hno i he.2.1).elim⟩
 refine wp_region_any hm ?_
 have key := drawF_any (Q := Q) hp hfl.get (fun o ho d hd => by
  rw [List.all_eq_true] at hdn
  have := hdn o ho
  rw [hd] at this
  simpa using this) hF hE hob rfl hf.last hQ l.length _ a w.drew 0 (by
   unfold left
   exact Nat.le_trans List.countP_le_length (by simp)) hinit
 simpa using key

variable {l done rest : List Oper} {st0 : St} {its : List It} {hs : List (Heap × Nat)} {fr : List Nat} {tm tm1 : List (Nat × AV)} {h : Heap} {nx : Nat} {op : Op} {ty : TypeId} {pos : String} {aft : Array Edge} {v : AV} {d : Nat}

theorem dr_fl {h' : Heap} {nx' : Nat} (s : Nat) (hv : OpOK P op ⟨[], h, nx⟩ v h' nx')
  (k : DR P c n id Q l st0 (⟨some d, op, ty, pos, aft, none⟩ :: done) (⟨v, true, 0, s, []⟩ :: its) ((h', nx') :: hs) fr ⟨(d, v) :: tm, h', nx'⟩ rest) :
  DR P c n id Q l st0 done its hs fr ⟨tm, h, nx⟩ (⟨some d, op, ty, pos, aft, none⟩ :: rest) := fun hl hc => by
 refine k (by rw [hl, List.reverse_cons, List.append_assoc]; rfl) ?_
 have := Col.e (o := ⟨some d, op, ty, pos, aft, none⟩) (it := ⟨v, true, 0, s, []⟩) hc rfl rfl hv
 rw [List.reverse_cons, List.reverse_cons, List.reverse_cons]
 exact this

theorem dr_endF (fl : List Nat) (ps : List (Nat × Nat)) (hm : P.follows .mixedOrders = true) (hchk : chkF done.reverse its.reverse (rank its.reverse its.length) fl = true) (hfl : Fls P done.reverse its.reverse hs.reverse fl) (hdn : (done.all fun o => match o.dst with | some d => Nat.blt d n | none => true) = true)
  (hmore : more done.reverse its.reverse fr ps (rank its.reverse its.length) = true) (hx : Ats P done.reverse its.reverse hs.reverse tm ps) (hQ : Q .normal ⟨tm, h, nx⟩) : DR P c n id Q l st0 done its hs fr ⟨tm, h, nx⟩ [] := fun hl hc => by
 rw [List.append_nil] at hl
 subst hl
 rw [← @List.length_reverse _ its] at hchk hmore
 exact draw_endF fl ps hm hc hchk hfl (by rw [List.all_reverse]; exact hdn) hmore hx hQ

end
end Go.Proofs.Ytpggknkhldecaaa.Abs
end
section
namespace Go.Proofs.Ytpggknkhldecaaa.Abs

section
variable {P : Program}

theorem Rep.drop {c : Ctx} {n : Nat} {tm tm' : List (Nat × AV)} {h h2 : Heap} {nx : Nat} {ρ : Rho} {S : Nat → Prop} {a : Act} {w : World} (hr : Rep c n ⟨tm, h, nx⟩ ρ S a w) (ht : ∀ i, tget tm' i = .top ∨ tget tm' i = tget tm i) (hh : ∀ b B, hget h2 b = some B → hget h b = some B) : Rep c n ⟨tm', h2, nx⟩ ρ S a w :=
 ⟨hr.size, hr.defers, fun i => by
  show VR S w ρ (tget tm' i) _
  rcases ht i with e | e
  ·rw [e]; exact .top
  ·rw [e]; exact hr.tmps i, ⟨fun b B hb => hr.sim.blk b B (hh b B hb), fun b b' B B' r r' h1 h2 h3 h4 => hr.sim.inj b b' B B' r r' (hh _ _ h1) (hh _ _ h2) h3 h4, hr.sim.lt⟩,
  ⟨hr.post.os, hr.post.tape, hr.post.output, hr.post.size, hr.post.keep, hr.post.sIn, hr.post.sNew, fun b B r h1 h2 => hr.post.own b B r (hh _ _ h1) h2, hr.post.ids⟩, hr.fresh, hr.le, fun b B hb => hr.dom b B (hh b B hb)⟩

end
end Go.Proofs.Ytpggknkhldecaaa.Abs
end
section
namespace Go.Proofs.Ytpggknkhldecaaa.Abs

section
variable {P : Program} {c : Ctx} {n : Nat} {Q : Exit → St → Prop}

theorem aw_virtB {code : Code} {tm : List (Nat × AV)} {h h' : Heap} {nx s : Nat} {l l' : List AV} (b f sz : Nat) (hb : hget h b = some (.cells s [.agg l])) (hf : l[f]? = some .nils) (hl : setS l f (.own nx 0 0) = some l') (hh : hsetS ((nx, .cells sz []) :: h) b (.cells s [.agg l']) = some h')
  (k : AW P c n code Q ⟨tm, h', nx + 1⟩) : AW P c n code Q ⟨tm, h, nx⟩ := fun ρ S a w hr => by
 have hv := hr.virt sz
 have hbn : b < nx := hr.dom b _ hb
 have hh := hsetS_spec _ _ _ _ hh
 have hl := setS_spec _ _ _ _ hl
 subst hl
 have hg : ∀ k X, hget h' k = some X → (k = b ∧ X = .cells s [.agg (l.set f (.own nx 0 0))]) ∨ (k ≠ b ∧ hget ((nx, .cells sz []) :: h) k = some X) := fun k X hk => by
  rw [← hh, hget_set] at hk
  by_cases e : b = k
  ·rw [if_pos e] at hk; exact .inl ⟨e.symm, (Option.some.inj hk).symm⟩
  ·rw [if_neg e] at hk; exact .inr ⟨fun e' => e e'.symm, hk⟩
 have hb1 : hget ((nx, .cells sz []) :: h) b = some (.cells s [.agg l]) := by
  simp only [hget]
  rw [if_neg (by omega)]
  exact hb
 have old : ∀ k X, hget h' k = some X → ∃ Y, hget ((nx, .cells sz []) :: h) k = some Y := fun k X hk => by
  rcases hg k X hk with ⟨rfl, _⟩ | ⟨_, h2⟩
  ·exact ⟨_, hb1⟩
  ·exact ⟨_, h2⟩
 refine k ρ S a w ⟨hv.size, hv.defers, hv.tmps, ⟨fun k X hk => ?_, fun k k' X X' q q' hk hk' hq hq' hne => ?_, hv.sim.lt⟩, ⟨hv.post.os, hv.post.tape, hv.post.output, hv.post.size, hv.post.keep, hv.post.sIn, hv.post.sNew, fun k X q hk hq => ?_, hv.post.ids⟩, hv.fresh, hv.le, fun k X hk => ?_⟩
 ·rcases hg k X hk with ⟨rfl, rfl⟩ | ⟨_, h2⟩
  ·rcases hv.sim.blk k _ hb1 with ⟨r, q1, q2, q3, q4⟩ | ⟨_, _, e⟩
   ·refine .inl ⟨r, q1, ?_, q3, q4⟩
    obtain ⟨g1, g2, g3, g4, cur, e, g5, g6, g7, g8⟩ := q2
    refine ⟨g1, fun x hx => ?_, g3, g4, cur, e, g5, g6, g7, fun i x u hx hu => ?_⟩
    ·rw [List.mem_singleton.1 hx]
     have := g2 (.agg l) (List.mem_singleton.2 rfl)
     simp only [AV.cells, List.length_set] at this ⊢
     exact this
    ·have hx : (l.set f (.own nx 0 0))[i]? = some x := by simpa [flat, AV.cells] using hx
     by_cases e : f = i
     ·subst e
      have hlt : f < l.length := (List.getElem?_eq_some_iff.1 hf).1
      rw [List.getElem?_set_self hlt] at hx
      obtain rfl := Option.some.inj hx
      have := g8 f .nils u (by simpa [flat, AV.cells] using hf) hu
      cases this
      exact .own0
     ·rw [List.getElem?_set_ne e] at hx
      exact g8 i x u (by simpa [flat, AV.cells] using hx) hu
   ·cases e
  ·exact hv.sim.blk k X h2
 ·obtain ⟨Y, hY⟩ := old k X hk
  obtain ⟨Y', hY'⟩ := old k' X' hk'
  exact hv.sim.inj k k' Y Y' q q' hY hY' hq hq' hne
 ·obtain ⟨Y, hY⟩ := old k X hk
  exact hv.post.own k Y q hY hq
 ·obtain ⟨Y, hY⟩ := old k X hk
  exact hv.dom k Y hY

end

def Blk.plain : Blk → Bool
 | .cells _ xs => xs.all AV.plain
 | .map _ => false

theorem AC.drop {P : Program} {f : FuncId} {args : List AV} {h0 : Heap} {nx0 : Nat} {al : Bool} {Q Q' : AV → Heap → Nat → Prop} (k : AC P f args h0 nx0 al Q)
  (hq : ∀ r h nx, Q r h nx → ∃ h' nx', Q' r h' nx' ∧ nx0 ≤ nx' ∧ nx' ≤ nx ∧ r.plain = true ∧ ∀ b B, hget h' b = some B → hget h b = some B ∧ b < nx' ∧ B.plain = true) : AC P f args h0 nx0 al Q' := by
 intro ρ S w vals h1 h2 h3
 refine (k ρ S w vals h1 h2 h3).mono fun e w' ⟨v, r, h, nx, ρ', S', a1, a2, a3, a4, a5, a6, a7⟩ => ?_
 obtain ⟨h', nx', q1, q2, q3, q4, q5⟩ := hq r h nx a2
 have e1 : ∀ b, b < nx' → (fun b => if b < nx' then ρ' b else none : Rho) b = ρ' b := fun b hb => if_pos hb
 refine ⟨v, r, h', nx', fun b => if b < nx' then ρ' b else none, S', a1, q1, a3.plain q4, ⟨fun b B hb => ?_, fun b b' B B' r1 r2 hb hb' hr1 hr2 hne => ?_, a4.lt⟩, fun b hb => if_neg (by omega), fun b B hb => (q5 b B hb).2.1, a7.os, a7.tape, a7.output, a7.size, a7.keep, fun b ⟨i, B, r1, o1, o2, o3⟩ => ?_, a7.s, fun b hb => (e1 b (by omega)).trans (a7.ids b hb)⟩
 ·obtain ⟨g1, g2, g3⟩ := q5 b B hb
  rcases a4.blk b B g1 with ⟨r1, k1, k2, k3, k4⟩ | ⟨k1, k2⟩
  ·refine .inl ⟨r1, (e1 b g2).trans k1, ?_, k3, k4⟩
   cases B with
   | cells sz xs =>
    obtain ⟨m1, m2, m3, m4, cur, e, m5, m6, m7, m8⟩ := k2
    exact ⟨m1, m2, m3, m4, cur, e, m5, m6, m7, fun i x u hx hu => (m8 i x u hx hu).plain (List.all_eq_true.1 (plain_flat g3) x (List.mem_of_getElem? hx))⟩
   | map es => cases g3
  ·exact .inr ⟨(e1 b g2).trans k1, k2⟩
 ·obtain ⟨g1, g2, _⟩ := q5 b B hb
  obtain ⟨g1', g2', _⟩ := q5 b' B' hb'
  exact a4.inj b b' B B' r1 r2 g1 g1' ((e1 b g2).symm.trans hr1) ((e1 b' g2').symm.trans hr2) hne
 ·obtain ⟨g1, g2, _⟩ := q5 i B o1
  exact a7.own b ⟨i, B, r1, g1, (e1 i g2).symm.trans o2, o3⟩

end Go.Proofs.Ytpggknkhldecaaa.Abs
end
section
namespace Go.Proofs.Ytpggknkhldecaaa.Abs

section
variable {P : Program}

inductive RV1 (P : Program) (tm : List (Nat × AV)) (h : Heap) : ResultVar → AV → Prop
 | tmp {t : Nat} {x : AV} : tget tm t = x → RV1 P tm h (.tmp t) x
 | cell {a : Nat} {t : TypeId} {b i o : Nat} {x : AV} : oev tm (.tmp a) = .ptr b i o → OpP P (.load t (.tmp a)) tm h x → RV1 P tm h (.cell a t) x

inductive RVs (P : Program) (tm : List (Nat × AV)) (h : Heap) : List ResultVar → List AV → Prop
 | nil : RVs P tm h [] []
 | cons {v : ResultVar} {l : List ResultVar} {x : AV} {xs : List AV} : RV1 P tm h v x → RVs P tm h l xs → RVs P tm h (v :: l) (x :: xs)

theorem rv1_ok {tm : List (Nat × AV)} {h : Heap} {nx : Nat} {rv : ResultVar} {x : AV} (he : RV1 P tm h rv x) {c : Ctx} {n : Nat} {ρ : Rho} {S : Nat → Prop} {a : Act} {w : World} (hr : Rep c n ⟨tm, h, nx⟩ ρ S a w) {g : ResultVar → Sem Value}
  (g1 : ∀ t, g (.tmp t) = pure (a.tmps.getD t undef)) (g2 : ∀ a' t, g (.cell a' t) = do loadVar t (← asAddr (a.tmps.getD a' undef))) : ∃ u, (g rv).run P w = .ok u w ∧ VR S w ρ x u := by
 cases he with
 | @tmp t _ he =>
  refine ⟨a.tmps.getD t undef, by rw [g1, Sem.run_pure], ?_⟩
  rw [← he]
  exact hr.tmps t
 | @cell a' t b i o _ hx ho =>
  obtain ⟨u, h1, h2⟩ := ho c n nx ρ S a w hr
  refine ⟨u, ?_, h2⟩
  have h3 := h1 ⟨none, .load t (.tmp a'), 0, "", #[], none⟩ rfl
  have hv := ev_vr hr hx
  have ea : a.eval (.tmp a') = a.tmps.getD a' undef := rfl
  rw [ea] at hv
  rw [g2]
  generalize hq : a.tmps.getD a' undef = q at hv
  cases hv with
  | ptr hp =>
   simp only [execOp, Instr.loadAt, Instr.sureAddr, Sem.run_bind, ea, hq, asAddr, Sem.run_pure, Result.andThen_ok] at h3 ⊢
   generalize hl : (loadVar t _).run P w = r at h3 ⊢
   cases r with
   | ok z w1 =>
    simp only [Result.andThen_ok, Sem.run_pure, Result.ok.injEq, Next.value.injEq] at h3
    obtain ⟨rfl, rfl⟩ := h3
    rfl
   | halt z w1 => cases h3

theorem rvs_ok {tm : List (Nat × AV)} {h : Heap} {nx : Nat} {c : Ctx} {n : Nat} {ρ : Rho} {S : Nat → Prop} {a : Act} {w : World} (hr : Rep c n ⟨tm, h, nx⟩ ρ S a w) {g : ResultVar → Sem Value}
  (g1 : ∀ t, g (.tmp t) = pure (a.tmps.getD t undef)) (g2 : ∀ a' t, g (.cell a' t) = do loadVar t (← asAddr (a.tmps.getD a' undef))) {l : List ResultVar} {xs : List AV} (hl : RVs P tm h l xs) :
  ∃ us : List Value, (l.mapM g).run P w = .ok us w ∧ xs.length = us.length ∧ ∀ (i : Nat) (x : AV) (u : Value), xs[i]? = some x → us[i]? = some u → VR S w ρ x u := by
 induction hl with
 | nil => exact ⟨[], by simp, rfl, fun i x u hx => by simp at hx⟩
 | cons h1 _ ih =>
  obtain ⟨u, k1, k2⟩ := rv1_ok h1 hr g1 g2
  obtain ⟨us, q1, q2, q3⟩ := ih
  refine ⟨u :: us, ?_, by simp [q2], fun i y z hy hz => ?_⟩
  ·rw [List.mapM_cons]
   simp only [Sem.run_bind, Sem.run_pure]
   rw [k1, Result.andThen_ok, q1, Result.andThen_ok]
  ·cases i with
   | zero => simp only [List.getElem?_cons_zero, Option.some.injEq] at hy hz; subst hy; subst hz; exact k2
   | succ i => simp only [List.getElem?_cons_succ] at hy hz; exact q3 i y z hy hz

theorem rvs_run {fn : Func} {st : St} {xs : List AV} (hx : RVs P st.tm st.h fn.results.toList xs) {c : Ctx} {n : Nat} {ρ : Rho} {S : Nat → Prop} {a : Act} {w : World} (hr : Rep c n st ρ S a w) :
  ∃ us : List Value, (results fn a.tmps).run P w = .ok (if hu : us.toArray.size = 1 then us.toArray[0] else .tuple us.toArray) w ∧ xs.length = us.length ∧ ∀ (i : Nat) (x : AV) (u : Value), xs[i]? = some x → us[i]? = some u → VR S w ρ x u := by
 obtain ⟨tm, h, nx⟩ := st
 unfold results
 rw [Array.mapM_eq_mapM_toList]
 simp only [Sem.run_bind, Sem.run_map]
 obtain ⟨us, k1, k2, k3⟩ := rvs_ok hr (g := fun x => match x with
  | .tmp t => pure (a.tmps.getD t undef)
  | .cell a' t => do loadVar t (← asAddr (a.tmps.getD a' undef))) (fun _ => rfl) (fun _ _ => rfl) hx
 refine ⟨us, ?_, k2, k3⟩
 have k1' : (fn.results.toList.mapM (fun (x : ResultVar) => (match x with
  | .tmp t => pure (a.tmps.getD t undef)
  | .cell a' t => do loadVar t (← asAddr (a.tmps.getD a' undef)) : Sem Value))).run P w = .ok us w := k1
 erw [k1']
 simp only [Result.andThen_ok, Sem.run_pure]

theorem resC1 {fn : Func} {st : St} {x : AV} (hx : RVs P st.tm st.h fn.results.toList [x]) : ResOK P fn st x := by
 intro c n ρ S a w hr
 obtain ⟨us, k1, k2, k3⟩ := rvs_run hx hr
 match us, k2, k1, k3 with
 | [u], _, k1, k3 => exact ⟨u, k1, k3 0 _ u rfl rfl⟩

theorem resCn {fn : Func} {st : St} {xs : List AV} (hx : RVs P st.tm st.h fn.results.toList xs) (hne : xs.length ≠ 1) : ResOK P fn st (.tup xs) := by
 intro c n ρ S a w hr
 obtain ⟨us, k1, k2, k3⟩ := rvs_run hx hr
 have : us.toArray.size ≠ 1 := fun e => by
  rw [List.size_toArray, ← k2] at e
  exact hne e
 rw [dif_neg this] at k1
 exact ⟨_, k1, .tup us.toArray (by simpa using k2) (fun i x u hx hu => k3 i x u hx (by simpa using hu))⟩

end
end Go.Proofs.Ytpggknkhldecaaa.Abs
end
section
namespace Go.Proofs.Ytpggknkhldecaaa.Abs

def pkFold {α : Type} (f : List UInt8 → Nat → α × Nat) : List (List UInt8) → Nat → List α × Nat
 | [], n => ([], n)
 | k :: ks, n => ((f k n).1 :: (pkFold f ks (f k n).2).1, (pkFold f ks (f k n).2).2)

def rdStep (l : List UInt8) (most : Nat) (k : List UInt8) (n : Nat) : RD × Nat :=
 if pkV l n most = 0 then (⟨k, 0, [], false⟩, pkN l n)
 else if pkV l (pkN l n) 4 = 0 then (⟨k, pkV l n most, [], false⟩, pkN l (pkN l n))
 else (⟨k, pkV l n most, pkVal l (pkN l (pkN l n)), true⟩, pkN l (pkN l (pkN l n)))

def wrStep (l : List UInt8) (k : List UInt8) (n : Nat) : WR × Nat :=
 if pkV l (pkN l n) 4 = 0 then (⟨k, [], true⟩, pkN l (pkN l n)) else (⟨k, pkVal l n, false⟩, pkN l (pkN l n))

def pkRds (l : List UInt8) (n most : Nat) : List RD × Nat := pkFold (rdStep l most) (pkKeys l (pkN l (pkN l n)) 3) (pkN l (pkN l (pkN l n)))
def pkWrs (l : List UInt8) (n : Nat) : List WR × Nat := pkFold (wrStep l) (pkKeys l n 3) (pkN l n)
def pkTx (l : List UInt8) (n most : Nat) : TX × Nat :=
 (⟨1 + (pkV l n 3 : Nat), 1 + (pkV l (pkN l n) 6 : Nat), (pkRds l n most).1, (pkWrs l (pkRds l n most).2).1⟩, (pkWrs l (pkRds l n most).2).2)

theorem pickK_len : ∀ (ks : List (List UInt8)) (b r : Nat), (pickK ks b r).length ≤ r := by
 intro ks
 induction ks with
 | nil => intro b r; simp [pickK]
 | cons k ks ih =>
  intro b r
  cases r with
  | zero => simp [pickK]
  | succ r =>
   simp only [pickK]
   split
   ·have := ih (b / 2) r
    simp only [List.length_cons]
    omega
   ·exact ih _ _

theorem pkFold_len {α : Type} (f : List UInt8 → Nat → α × Nat) : ∀ (ks : List (List UInt8)) (n : Nat), (pkFold f ks n).1.length = ks.length := by
 intro ks
 induction ks with
 | nil => intro n; rfl
 | cons k ks ih => intro n; simp [pkFold, ih]

set_option maxRecDepth 100000 in
set_option maxHeartbeats 4000000 in
theorem pk_Txn0 (l : List UInt8) (n most : Nat) (hl : l.length ≤ 1000000) (hm1 : 1 ≤ most) (hm2 : most ≤ 1000000) :
  AC Try.prog 9 [.ptr 0 0 0, .int .i64 most] [(0, pkB l n)] 1 true (fun v h nx => v = txA (pkTx l n most).1 ∧ h = [(0, pkB l (pkTx l n most).2), (1, .cells 4 [txA (pkTx l n most).1])] ∧ nx = 2) := by
 have hn3 := pk_Num l n 3 hl (by omega) (by omega)
 have hn6 := pk_Num l (pkN l n) 6 hl (by omega) (by omega)
 have hl3 := pkV_lt l n 3 (by omega)
 have hl6 := pkV_lt l (pkN l n) 6 (by omega)
 have hk1 := pk_Keys l (pkN l (pkN l n)) 3 hl (by omega)
 have hM : max (most : Int) 1 = (most : Int) := by omega
 have hnv : ∀ q, AC Try.prog 36 [.ptr 0 0 0, .int .i64 (max (most : Int) 1)] [(0, pkB l q)] 1 true (fun v h nx => v = .int .i64 (pkV l q most) ∧ h = [(0, pkB l (pkN l q))] ∧ nx = 1) := fun q => by rw [hM]; exact pk_Num l q most hl hm1 hm2
 have hn4 : ∀ q, AC Try.prog 36 [.ptr 0 0 0, .int .i64 4] [(0, pkB l q)] 1 true (fun v h nx => v = .int .i64 (pkV l q 4) ∧ h = [(0, pkB l (pkN l q))] ∧ nx = 1) := fun q => pk_Num l q 4 hl (by omega) (by omega)
 have hval := fun q => pk_Val l q hl
 have hkl : (pkKeys l (pkN l (pkN l n)) 3).length ≤ 3 := pickK_len _ _ _
 have hR : pkRds l n most = pkFold (rdStep l most) (pkKeys l (pkN l (pkN l n)) 3) (pkN l (pkN l (pkN l n))) := rfl
 have hT : pkTx l n most = (⟨1 + (pkV l n 3 : Nat), 1 + (pkV l (pkN l n) 6 : Nat), (pkRds l n most).1, (pkWrs l (pkRds l n most).2).1⟩, (pkWrs l (pkRds l n most).2).2) := rfl
 rw [hT]
 clear hT
 generalize pkRds l n most = R at hR ⊢
 have hk2 := pk_Keys l R.2 3 hl (by omega)
 have hkl2 : (pkKeys l R.2 3).length ≤ 3 := pickK_len _ _ _
 have hW : pkWrs l R.2 = pkFold (wrStep l) (pkKeys l R.2 3) (pkN l R.2) := rfl
 generalize pkWrs l R.2 = W at hW ⊢
 generalize pkN l R.2 = n5 at hk2 hW
 generalize pkKeys l R.2 3 = ks2 at hk2 hkl2 hW
 generalize pkKeys l (pkN l (pkN l n)) 3 = ks at hk1 hkl hR
 generalize pkN l (pkN l (pkN l n)) = n3 at hk1 hR
 generalize pkV l n 3 = v3 at hn3 hl3 ⊢
 generalize pkV l (pkN l n) 6 = v6 at hn6 hl6 ⊢
 refine ac_fn Try.func9 rfl rfl rfl rfl (fun w0 S0 r0 => ?_)
 refine aw_seq ?_
 refine aw_region ?_
 refine st_o (op_alloc a26 rfl rfl) rfl ?_
 refine al_nil ?_
 refine nm ?_
 refine aw_seq ?_
 refine aw_region ?_
 refine st_p (mv rfl) rfl ?_
 refine st_o (op_callg [(0, 0)] 1 true [(0, pkB l n)] [0] (hn3) Try.func36 ⟨rfl, rfl⟩ rfl rfl rfl rfl (by omega) (by intro p hp; simp only [List.mem_cons, List.not_mem_nil, or_false] at hp; rcases hp with rfl <;> exact ⟨by first | rfl | ((simp [hget, swp, Blk.ren, AV.ren, ints, Function.comp_def]) <;> rfl), rfl⟩) rfl (.cons (.same (by rfl)) (.cons (.same (by rfl)) .nil)) rfl rfl rfl) rfl ?_
 refine st_p (op_addi rfl rfl (by omega)) rfl ?_
 refine st_p (mv rfl) rfl ?_
 refine st_o (op_callg [(0, 0)] 1 true [(0, pkB l (pkN l n))] [0] (hn6) Try.func36 ⟨rfl, rfl⟩ rfl rfl rfl rfl (by omega) (by intro p hp; simp only [List.mem_cons, List.not_mem_nil, or_false] at hp; rcases hp with rfl | rfl <;> exact ⟨by first | rfl | ((simp [hget, swp, Blk.ren, AV.ren, ints, Function.comp_def]) <;> rfl), rfl⟩) rfl (.cons (.same (by rfl)) (.cons (.same (by rfl)) .nil)) rfl rfl rfl) rfl ?_
 refine st_p (op_addi rfl rfl (by omega)) rfl ?_
 refine st_p (op_build Try.underlying26 a26 rfl rfl (by intro f hf; simp only [List.mem_cons, List.not_mem_nil, or_false] at hf; rcases hf with rfl | rfl | rfl | rfl <;> exact ⟨_, by first | exact z3 | exact z23 | exact z24⟩) (pcons rfl rfl z3 rfl (pcons rfl rfl z3 rfl .nil)) rfl) rfl ?_
 refine st_o (op_alloc a26 rfl rfl) rfl ?_
 refine st_n (stA z26 rfl rfl rfl rfl rfl rfl rfl rfl rfl rfl) ?_
 refine al_nil ?_
 refine nm ?_
 refine aw_seq ?_
 refine aw_region ?_
 refine st_p (mv rfl) rfl ?_
 refine st_o (op_callg [(0, 0)] 1 true [(0, pkB l (pkN l (pkN l n)))] [0] (hk1) Try.func37 ⟨rfl, rfl⟩ rfl rfl rfl rfl (by omega) (by intro p hp; simp only [List.mem_cons, List.not_mem_nil, or_false] at hp; rcases hp with rfl | rfl | rfl <;> exact ⟨by first | rfl | ((simp [hget, swp, Blk.ren, AV.ren, ints, Function.comp_def]) <;> rfl), rfl⟩) rfl (.cons (.same (by rfl)) (.cons (.same (by rfl)) .nil)) rfl rfl rfl) rfl ?_
 refine st_p (mva rfl) rfl ?_
 refine al_nil ?_
 refine nm ?_
 refine aw_seq ?_
 refine aw_seq ?_
 refine aw_region ?_
 refine st_p (mva rfl) rfl ?_
 refine al_nil ?_
 refine nm ?_
 refine aw_block ?_
 refine aw_virtB 4 2 4 rfl rfl rfl rfl ?_
 refine aw_loop (fun p : {p : Nat × List RD × Nat // p.1 ≤ ks.length ∧ p.2.1.length = p.1 ∧ p.2.1 ++ (pkFold (rdStep l most) (ks.drop p.1) p.2.2).1 = R.1 ∧ (pkFold (rdStep l most) (ks.drop p.1) p.2.2).2 = R.2} => ⟨[(0, .ptr 0 0 0), (1, .int .i64 most), (4, .ptr 1 0 0), (5, .ptr 2 0 0), (6, .sl 1 (ks.map sb)), (7, .int .i64 p.1.1)], [(0, pkB l p.1.2.2), (1, .cells 4 [.agg [.int .i64 0, .int .i64 0, .nils, .nils]]), (2, .cells 4 [.agg [.int .i64 (1 + v3), .int .i64 (1 + v6), .own 3 0 p.1.2.1.length, .nils]]), (3, .cells 4 (p.1.2.1.map rdA))], 4⟩) (fun p => ks.length - p.1.1) ⟨(0, [], n3), by dsimp only; refine ⟨by omega, rfl, ?_, ?_⟩ <;> rw [List.drop_zero, hR]; rfl⟩ ?_ ?_
 ·exact le_to [(2, 4), (3, 6)] rfl rfl rfl rfl rfl ⟨rfl, rfl, rfl, rfl, rfl, rfl, trivial⟩ ⟨rfl, rfl, rfl, rfl, trivial⟩
 ·rintro ⟨⟨i, acc, q⟩, h1, h2, h3, h4⟩
  dsimp only at h1 h2 h3 h4 ⊢
  have hal : (acc.map rdA).length = acc.length := List.length_map _
  have hkm : (ks.map sb).length = ks.length := List.length_map _
  by_cases hi : i < ks.length
  ·obtain ⟨k, hk⟩ : ∃ k, ks[i]? = some k := ⟨_, List.getElem?_eq_getElem hi⟩
   have hkb : (ks.map sb)[((i : Nat) : Int).toNat]? = some (sb k) := by rw [Int.toNat_natCast, List.getElem?_map, hk]; rfl
   have hd : ks.drop i = k :: ks.drop (i + 1) := by
    rw [List.drop_eq_getElem_cons hi]
    have := List.getElem?_eq_getElem hi
    rw [hk] at this
    rw [← Option.some.inj this]
   rw [hd] at h3 h4
   simp only [pkFold] at h3 h4
   have hvq := pkV_lt l q most hm1
   have hnvq := hnv q
   by_cases hv : pkV l q most = 0
   ·simp only [rdStep, if_pos hv] at h3 h4
    rw [hv] at hnvq
    refine aw_seq ?_
    refine aw_seq ?_
    refine aw_region ?_
    refine st_p (mv rfl) rfl ?_
    refine st_p (mv rfl) rfl ?_
    refine st_p (op_len Try.underlying71 rfl) rfl ?_
    refine st_p (OpP.conv (op_lt rfl rfl) (yes (by first | assumption | omega))) rfl ?_
    refine al_nil ?_
    refine nm ?_
    refine aw_yes (rfl) ?_
    refine aw_skip ?_
    refine nm ?_
    refine aw_seq ?_
    refine aw_block ?_
    refine aw_seq ?_
    refine dr_go ?_
    refine dr_f 0 2 [6] rfl (fun H => mv rfl) ?_
    refine dr_f 0 2 [7] rfl (fun H => mv rfl) ?_
    refine dr_q 0 2 [27, 28] rfl (op_indexAddrL Try.underlying71 z9 rfl rfl (by omega) (by first | assumption | rfl)) ?_
    refine dr_q 0 2 [29] rfl (op_load1L Try.underlying9 rfl rfl rfl) ?_
    refine dr_f 0 0 [0] rfl (fun H => mv rfl) ?_
    refine dr_f 0 0 [1] rfl (fun H => mv rfl) ?_
    refine dr_f 0 0 [32] rfl (fun H => op_max rfl rfl) ?_
    refine dr_e 0 [31, 33] rfl (op_callg [(0, 0)] 1 true [(0, pkB l q)] [0] (hnvq) Try.func36 ⟨rfl, rfl⟩ rfl rfl rfl rfl (by omega) (by intro p hp; simp only [List.mem_cons, List.not_mem_nil, or_false] at hp; rcases hp with rfl <;> exact ⟨by first | rfl | ((simp [hget, swp, Blk.ren, AV.ren, ints, Function.comp_def]) <;> rfl), rfl⟩) rfl (.cons (.same (by rfl)) (.cons (.same (by rfl)) .nil)) rfl rfl rfl) ?_
    refine dr_f 1 2 [30, 34] rfl (fun H => op_build Try.underlying67 a67 rfl rfl (by intro f hf; simp only [List.mem_cons, List.not_mem_nil, or_false] at hf; rcases hf with rfl | rfl | rfl | rfl <;> exact ⟨_, by first | exact z3 | exact z4 | exact z9⟩) (pcons rfl rfl z9 rfl (pcons rfl rfl z3 rfl .nil)) rfl) ?_
    refine dr_fl 1 (op_alloc a67 rfl rfl) ?_
    refine dr_n 2 [8, 35] rfl (stA z67 rfl rfl rfl rfl rfl rfl rfl rfl rfl rfl) ?_
    refine dr_endF [9] [(2, 1), (2, 2), (3, 1), (3, 2)] (by kernel_rfl) (by kernel_rfl) ⟨⟨_, rfl, rfl, new_alloc a67 rfl rfl⟩, trivial⟩ (by kernel_rfl) (by kernel_rfl) ⟨(by first | exact ⟨_, rfl, OpP.q (op_indexAddrL Try.underlying71 z9 rfl rfl (by omega) (by first | assumption | rfl))⟩ | exact ⟨_, rfl, OpP.q (op_indexAddr Try.underlying71 z9 rfl rfl rfl (by omega) (by omega))⟩), (by first | exact ⟨_, rfl, OpP.q (op_indexAddrL Try.underlying71 z9 rfl rfl (by omega) (by first | assumption | rfl))⟩ | exact ⟨_, rfl, OpP.q (op_indexAddr Try.underlying71 z9 rfl rfl rfl (by omega) (by omega))⟩), (by first | exact ⟨_, rfl, OpP.q (op_load1L Try.underlying9 rfl rfl rfl)⟩ | exact ⟨_, rfl, OpP.q (op_load1 Try.underlying9 rfl rfl rfl rfl rfl)⟩ | exact ⟨_, rfl, OpP.q (op_load1 Try.underlying9 rfl rfl rfl (by assumption) rfl)⟩ | exact ⟨_, rfl, OpP.q (op_load1 Try.underlying9 rfl rfl rfl rfl (by assumption))⟩), (by first | exact ⟨_, rfl, OpP.q (op_load1L Try.underlying9 rfl rfl rfl)⟩ | exact ⟨_, rfl, OpP.q (op_load1 Try.underlying9 rfl rfl rfl rfl rfl)⟩ | exact ⟨_, rfl, OpP.q (op_load1 Try.underlying9 rfl rfl rfl (by assumption) rfl)⟩ | exact ⟨_, rfl, OpP.q (op_load1 Try.underlying9 rfl rfl rfl rfl (by assumption))⟩), trivial⟩ ?_
    refine nm ?_
    refine aw_seq ?_
    refine aw_seq ?_
    refine aw_region ?_
    refine st_p (op_fieldAddr Try.underlying67 rfl z3 (by decide) rfl) rfl ?_
    refine st_p (op_load1 Try.underlying3 rfl rfl rfl rfl rfl) rfl ?_
    refine st_p (OpP.conv (op_gt rfl rfl) (no (by first | assumption | omega))) rfl ?_
    refine st_p (mv rfl) rfl ?_
    refine st_s rfl rfl rfl rfl rfl ?_
    refine st_s rfl rfl rfl rfl rfl ?_
    refine st_s rfl rfl rfl rfl rfl ?_
    refine st_p (pkF rfl rfl) rfl ?_
    refine al_nil ?_
    refine nm ?_
    refine aw_no (rfl) ?_
    refine aw_skip ?_
    refine nm ?_
    refine aw_region ?_
    refine st_p (op_fieldAddr Try.underlying26 rfl z23 (by decide) rfl) rfl ?_
    refine st_p (op_load1 Try.underlying23 rfl rfl rfl rfl rfl) rfl ?_
    refine st_p (op_loadA Try.underlying67 rfl z67 rfl rfl rfl rfl) rfl ?_
    refine st_o (bsl Try.underlying23 i67 o67 (by decide) rfl rfl rfl (by decide)) rfl ?_
    refine st_o (op_app Try.underlying23 Try.underlying23 (.inl ⟨_, rfl⟩) i67 o67 rfl rfl rfl (by first | rfl | omega | (simp; done) | (simp; omega)) ((SrcA.whole rfl (by first | rfl | (simp; done))).ok rfl (by first | assumption | intro z hz; simp only [List.mem_singleton, List.drop_zero, List.take_succ_cons, List.take_zero, List.mem_cons, List.not_mem_nil, or_false, List.mem_map] at hz; first | (subst hz; rfl) | (obtain ⟨_, _, rfl⟩ := hz; rfl) | (rcases hz with rfl | rfl <;> rfl))) (by first | omega | (simp; try omega)) rfl) rfl ?_
    refine st_p (op_fieldAddr Try.underlying26 rfl z23 (by decide) rfl) rfl ?_
    refine st_n (stA z23 rfl rfl rfl rfl rfl rfl rfl rfl rfl rfl) ?_
    refine al_nil ?_
    refine nmb ?_
    refine nm ?_
    refine aw_region ?_
    refine st_p (mv rfl) rfl ?_
    refine st_p (op_addi rfl rfl (by omega)) rfl ?_
    refine st_p (mva rfl) rfl ?_
    refine al_nil ?_
    refine nm ?_
    refine ⟨⟨(i + 1, acc ++ [⟨k, 0, [], false⟩], pkN l q), by dsimp only; refine ⟨by omega, by simp [h2], ?_, h4⟩; rw [List.append_assoc]; exact h3⟩, by dsimp only; omega, le_to [(3, 7)] rfl rfl rfl rfl rfl ⟨rfl, rfl, rfl, rfl, rfl, rfl, trivial⟩ ⟨rfl, rfl, ?_, ?_, trivial⟩⟩
    ·simp [Blk.ren, hget, swp, AV.ren, rens]
    ·(simp [Blk.ren, hget, swp, AV.ren, rens, sb, rdA, ofConst1]) <;> rfl
   ·have hvp : 0 < pkV l q most := by omega
    have hnf := hn4 (pkN l q)
    by_cases hu : pkV l (pkN l q) 4 = 0
    ·simp only [rdStep, if_neg hv, if_pos hu] at h3 h4
     rw [hu] at hnf
     generalize pkV l q most = v at hv hvp hnvq h3 h4 hvq
     refine aw_seq ?_
     refine aw_seq ?_
     refine aw_region ?_
     refine st_p (mv rfl) rfl ?_
     refine st_p (mv rfl) rfl ?_
     refine st_p (op_len Try.underlying71 rfl) rfl ?_
     refine st_p (OpP.conv (op_lt rfl rfl) (yes (by first | assumption | omega))) rfl ?_
     refine al_nil ?_
     refine nm ?_
     refine aw_yes (rfl) ?_
     refine aw_skip ?_
     refine nm ?_
     refine aw_seq ?_
     refine aw_block ?_
     refine aw_seq ?_
     refine dr_go ?_
     refine dr_f 0 2 [6] rfl (fun H => mv rfl) ?_
     refine dr_f 0 2 [7] rfl (fun H => mv rfl) ?_
     refine dr_q 0 2 [27, 28] rfl (op_indexAddrL Try.underlying71 z9 rfl rfl (by omega) (by first | assumption | rfl)) ?_
     refine dr_q 0 2 [29] rfl (op_load1L Try.underlying9 rfl rfl rfl) ?_
     refine dr_f 0 0 [0] rfl (fun H => mv rfl) ?_
     refine dr_f 0 0 [1] rfl (fun H => mv rfl) ?_
     refine dr_f 0 0 [32] rfl (fun H => op_max rfl rfl) ?_
     refine dr_e 0 [31, 33] rfl (op_callg [(0, 0)] 1 true [(0, pkB l q)] [0] (hnvq) Try.func36 ⟨rfl, rfl⟩ rfl rfl rfl rfl (by omega) (by intro p hp; simp only [List.mem_cons, List.not_mem_nil, or_false] at hp; rcases hp with rfl <;> exact ⟨by first | rfl | ((simp [hget, swp, Blk.ren, AV.ren, ints, Function.comp_def]) <;> rfl), rfl⟩) rfl (.cons (.same (by rfl)) (.cons (.same (by rfl)) .nil)) rfl rfl rfl) ?_
     refine dr_f 1 2 [30, 34] rfl (fun H => op_build Try.underlying67 a67 rfl rfl (by intro f hf; simp only [List.mem_cons, List.not_mem_nil, or_false] at hf; rcases hf with rfl | rfl | rfl | rfl <;> exact ⟨_, by first | exact z3 | exact z4 | exact z9⟩) (pcons rfl rfl z9 rfl (pcons rfl rfl z3 rfl .nil)) rfl) ?_
     refine dr_fl 1 (op_alloc a67 rfl rfl) ?_
     refine dr_n 2 [8, 35] rfl (stA z67 rfl rfl rfl rfl rfl rfl rfl rfl rfl rfl) ?_
     refine dr_endF [9] [(2, 1), (2, 2), (3, 1), (3, 2)] (by kernel_rfl) (by kernel_rfl) ⟨⟨_, rfl, rfl, new_alloc a67 rfl rfl⟩, trivial⟩ (by kernel_rfl) (by kernel_rfl) ⟨(by first | exact ⟨_, rfl, OpP.q (op_indexAddrL Try.underlying71 z9 rfl rfl (by omega) (by first | assumption | rfl))⟩ | exact ⟨_, rfl, OpP.q (op_indexAddr Try.underlying71 z9 rfl rfl rfl (by omega) (by omega))⟩), (by first | exact ⟨_, rfl, OpP.q (op_indexAddrL Try.underlying71 z9 rfl rfl (by omega) (by first | assumption | rfl))⟩ | exact ⟨_, rfl, OpP.q (op_indexAddr Try.underlying71 z9 rfl rfl rfl (by omega) (by omega))⟩), (by first | exact ⟨_, rfl, OpP.q (op_load1L Try.underlying9 rfl rfl rfl)⟩ | exact ⟨_, rfl, OpP.q (op_load1 Try.underlying9 rfl rfl rfl rfl rfl)⟩ | exact ⟨_, rfl, OpP.q (op_load1 Try.underlying9 rfl rfl rfl (by assumption) rfl)⟩ | exact ⟨_, rfl, OpP.q (op_load1 Try.underlying9 rfl rfl rfl rfl (by assumption))⟩), (by first | exact ⟨_, rfl, OpP.q (op_load1L Try.underlying9 rfl rfl rfl)⟩ | exact ⟨_, rfl, OpP.q (op_load1 Try.underlying9 rfl rfl rfl rfl rfl)⟩ | exact ⟨_, rfl, OpP.q (op_load1 Try.underlying9 rfl rfl rfl (by assumption) rfl)⟩ | exact ⟨_, rfl, OpP.q (op_load1 Try.underlying9 rfl rfl rfl rfl (by assumption))⟩), trivial⟩ ?_
     refine nm ?_
     refine aw_seq ?_
     refine aw_seq ?_
     refine aw_region ?_
     refine st_p (op_fieldAddr Try.underlying67 rfl z3 (by decide) rfl) rfl ?_
     refine st_p (op_load1 Try.underlying3 rfl rfl rfl rfl rfl) rfl ?_
     refine st_p (OpP.conv (op_gt rfl rfl) (yes (by first | assumption | omega))) rfl ?_
     refine st_p (mv rfl) rfl ?_
     refine st_pg rfl rfl rfl (mv rfl) rfl ?_
     refine st_og rfl rfl rfl (op_callg [(0, 0)] 1 true [(0, pkB l (pkN l q))] [0] (hnf) Try.func36 ⟨rfl, rfl⟩ rfl rfl rfl rfl (by omega) (by intro p hp; simp only [List.mem_cons, List.not_mem_nil, or_false] at hp; rcases hp with rfl | rfl <;> exact ⟨by first | rfl | ((simp [hget, swp, Blk.ren, AV.ren, ints, Function.comp_def]) <;> rfl), rfl⟩) rfl (.cons (.same (by rfl)) (.cons (.same (by rfl)) .nil)) rfl rfl rfl) rfl ?_
     refine st_pg rfl rfl rfl (OpP.conv (op_gt rfl rfl) (no (by first | assumption | omega))) rfl ?_
     refine st_p (pkT rfl rfl) rfl ?_
     refine al_nil ?_
     refine nm ?_
     refine aw_no (rfl) ?_
     refine aw_skip ?_
     refine nm ?_
     refine aw_region ?_
     refine st_p (op_fieldAddr Try.underlying26 rfl z23 (by decide) rfl) rfl ?_
     refine st_p (op_load1 Try.underlying23 rfl rfl rfl rfl rfl) rfl ?_
     refine st_p (op_loadA Try.underlying67 rfl z67 rfl rfl rfl rfl) rfl ?_
     refine st_o (bsl Try.underlying23 i67 o67 (by decide) rfl rfl rfl (by decide)) rfl ?_
     refine st_o (op_app Try.underlying23 Try.underlying23 (.inl ⟨_, rfl⟩) i67 o67 rfl rfl rfl (by first | rfl | omega | (simp; done) | (simp; omega)) ((SrcA.whole rfl (by first | rfl | (simp; done))).ok rfl (by first | assumption | intro z hz; simp only [List.mem_singleton, List.drop_zero, List.take_succ_cons, List.take_zero, List.mem_cons, List.not_mem_nil, or_false, List.mem_map] at hz; first | (subst hz; rfl) | (obtain ⟨_, _, rfl⟩ := hz; rfl) | (rcases hz with rfl | rfl <;> rfl))) (by first | omega | (simp; try omega)) rfl) rfl ?_
     refine st_p (op_fieldAddr Try.underlying26 rfl z23 (by decide) rfl) rfl ?_
     refine st_n (stA z23 rfl rfl rfl rfl rfl rfl rfl rfl rfl rfl) ?_
     refine al_nil ?_
     refine nmb ?_
     refine nm ?_
     refine aw_region ?_
     refine st_p (mv rfl) rfl ?_
     refine st_p (op_addi rfl rfl (by omega)) rfl ?_
     refine st_p (mva rfl) rfl ?_
     refine al_nil ?_
     refine nm ?_
     refine ⟨⟨(i + 1, acc ++ [⟨k, v, [], false⟩], pkN l (pkN l q)), by dsimp only; refine ⟨by omega, by simp [h2], ?_, h4⟩; rw [List.append_assoc]; exact h3⟩, by dsimp only; omega, le_to [(3, 8)] rfl rfl rfl rfl rfl ⟨rfl, rfl, rfl, rfl, rfl, rfl, trivial⟩ ⟨rfl, rfl, ?_, ?_, trivial⟩⟩
     ·simp [Blk.ren, hget, swp, AV.ren, rens]
     ·(simp [Blk.ren, hget, swp, AV.ren, rens, sb, rdA, ofConst1]) <;> rfl
    ·simp only [rdStep, if_neg hv, if_neg hu] at h3 h4
     have hup : 0 < pkV l (pkN l q) 4 := by omega
     have hvl := hval (pkN l (pkN l q))
     generalize pkV l q most = v at hv hvp hnvq h3 h4 hvq
     generalize pkV l (pkN l q) 4 = u at hu hup hnf
     generalize pkVal l (pkN l (pkN l q)) = vv at hvl h3 h4
     refine aw_seq ?_
     refine aw_seq ?_
     refine aw_region ?_
     refine st_p (mv rfl) rfl ?_
     refine st_p (mv rfl) rfl ?_
     refine st_p (op_len Try.underlying71 rfl) rfl ?_
     refine st_p (OpP.conv (op_lt rfl rfl) (yes (by first | assumption | omega))) rfl ?_
     refine al_nil ?_
     refine nm ?_
     refine aw_yes (rfl) ?_
     refine aw_skip ?_
     refine nm ?_
     refine aw_seq ?_
     refine aw_block ?_
     refine aw_seq ?_
     refine dr_go ?_
     refine dr_f 0 2 [6] rfl (fun H => mv rfl) ?_
     refine dr_f 0 2 [7] rfl (fun H => mv rfl) ?_
     refine dr_q 0 2 [27, 28] rfl (op_indexAddrL Try.underlying71 z9 rfl rfl (by omega) (by first | assumption | rfl)) ?_
     refine dr_q 0 2 [29] rfl (op_load1L Try.underlying9 rfl rfl rfl) ?_
     refine dr_f 0 0 [0] rfl (fun H => mv rfl) ?_
     refine dr_f 0 0 [1] rfl (fun H => mv rfl) ?_
     refine dr_f 0 0 [32] rfl (fun H => op_max rfl rfl) ?_
     refine dr_e 0 [31, 33] rfl (op_callg [(0, 0)] 1 true [(0, pkB l q)] [0] (hnvq) Try.func36 ⟨rfl, rfl⟩ rfl rfl rfl rfl (by omega) (by intro p hp; simp only [List.mem_cons, List.not_mem_nil, or_false] at hp; rcases hp with rfl <;> exact ⟨by first | rfl | ((simp [hget, swp, Blk.ren, AV.ren, ints, Function.comp_def]) <;> rfl), rfl⟩) rfl (.cons (.same (by rfl)) (.cons (.same (by rfl)) .nil)) rfl rfl rfl) ?_
     refine dr_f 1 2 [30, 34] rfl (fun H => op_build Try.underlying67 a67 rfl rfl (by intro f hf; simp only [List.mem_cons, List.not_mem_nil, or_false] at hf; rcases hf with rfl | rfl | rfl | rfl <;> exact ⟨_, by first | exact z3 | exact z4 | exact z9⟩) (pcons rfl rfl z9 rfl (pcons rfl rfl z3 rfl .nil)) rfl) ?_
     refine dr_fl 1 (op_alloc a67 rfl rfl) ?_
     refine dr_n 2 [8, 35] rfl (stA z67 rfl rfl rfl rfl rfl rfl rfl rfl rfl rfl) ?_
     refine dr_endF [9] [(2, 1), (2, 2), (3, 1), (3, 2)] (by kernel_rfl) (by kernel_rfl) ⟨⟨_, rfl, rfl, new_alloc a67 rfl rfl⟩, trivial⟩ (by kernel_rfl) (by kernel_rfl) ⟨(by first | exact ⟨_, rfl, OpP.q (op_indexAddrL Try.underlying71 z9 rfl rfl (by omega) (by first | assumption | rfl))⟩ | exact ⟨_, rfl, OpP.q (op_indexAddr Try.underlying71 z9 rfl rfl rfl (by omega) (by omega))⟩), (by first | exact ⟨_, rfl, OpP.q (op_indexAddrL Try.underlying71 z9 rfl rfl (by omega) (by first | assumption | rfl))⟩ | exact ⟨_, rfl, OpP.q (op_indexAddr Try.underlying71 z9 rfl rfl rfl (by omega) (by omega))⟩), (by first | exact ⟨_, rfl, OpP.q (op_load1L Try.underlying9 rfl rfl rfl)⟩ | exact ⟨_, rfl, OpP.q (op_load1 Try.underlying9 rfl rfl rfl rfl rfl)⟩ | exact ⟨_, rfl, OpP.q (op_load1 Try.underlying9 rfl rfl rfl (by assumption) rfl)⟩ | exact ⟨_, rfl, OpP.q (op_load1 Try.underlying9 rfl rfl rfl rfl (by assumption))⟩), (by first | exact ⟨_, rfl, OpP.q (op_load1L Try.underlying9 rfl rfl rfl)⟩ | exact ⟨_, rfl, OpP.q (op_load1 Try.underlying9 rfl rfl rfl rfl rfl)⟩ | exact ⟨_, rfl, OpP.q (op_load1 Try.underlying9 rfl rfl rfl (by assumption) rfl)⟩ | exact ⟨_, rfl, OpP.q (op_load1 Try.underlying9 rfl rfl rfl rfl (by assumption))⟩), trivial⟩ ?_
     refine nm ?_
     refine aw_seq ?_
     refine aw_seq ?_
     refine aw_region ?_
     refine st_p (op_fieldAddr Try.underlying67 rfl z3 (by decide) rfl) rfl ?_
     refine st_p (op_load1 Try.underlying3 rfl rfl rfl rfl rfl) rfl ?_
     refine st_p (OpP.conv (op_gt rfl rfl) (yes (by first | assumption | omega))) rfl ?_
     refine st_p (mv rfl) rfl ?_
     refine st_pg rfl rfl rfl (mv rfl) rfl ?_
     refine st_og rfl rfl rfl (op_callg [(0, 0)] 1 true [(0, pkB l (pkN l q))] [0] (hnf) Try.func36 ⟨rfl, rfl⟩ rfl rfl rfl rfl (by omega) (by intro p hp; simp only [List.mem_cons, List.not_mem_nil, or_false] at hp; rcases hp with rfl | rfl <;> exact ⟨by first | rfl | ((simp [hget, swp, Blk.ren, AV.ren, ints, Function.comp_def]) <;> rfl), rfl⟩) rfl (.cons (.same (by rfl)) (.cons (.same (by rfl)) .nil)) rfl rfl rfl) rfl ?_
     refine st_pg rfl rfl rfl (OpP.conv (op_gt rfl rfl) (yes (by first | assumption | omega))) rfl ?_
     refine st_p (pkT rfl rfl) rfl ?_
     refine al_nil ?_
     refine nm ?_
     refine aw_yes (rfl) ?_
     refine aw_region ?_
     refine st_p (mv rfl) rfl ?_
     refine st_o (op_callg [(0, 0)] 1 true [(0, pkB l (pkN l (pkN l q)))] [0] (hvl) Try.func38 ⟨rfl, rfl⟩ rfl rfl rfl rfl (by omega) (by intro p hp; simp only [List.mem_cons, List.not_mem_nil, or_false] at hp; rcases hp with rfl | rfl | rfl <;> exact ⟨by first | rfl | ((simp [hget, swp, Blk.ren, AV.ren, ints, Function.comp_def]) <;> rfl), rfl⟩) rfl (.cons (.same (by rfl)) .nil) rfl rfl rfl) rfl ?_
     refine st_p (op_fieldAddr Try.underlying67 rfl z4 (by decide) rfl) rfl ?_
     refine st_n (stA z4 rfl rfl rfl rfl rfl rfl rfl rfl rfl rfl) ?_
     refine st_p (op_fieldAddr Try.underlying67 rfl z9 (by decide) rfl) rfl ?_
     refine st_n (stA z9 rfl rfl rfl rfl rfl rfl rfl rfl rfl rfl) ?_
     refine al_nil ?_
     refine nm ?_
     refine aw_region ?_
     refine st_p (op_fieldAddr Try.underlying26 rfl z23 (by decide) rfl) rfl ?_
     refine st_p (op_load1 Try.underlying23 rfl rfl rfl rfl rfl) rfl ?_
     refine st_p (op_loadA Try.underlying67 rfl z67 rfl rfl rfl rfl) rfl ?_
     refine st_o (bsl Try.underlying23 i67 o67 (by decide) rfl rfl rfl (by decide)) rfl ?_
     refine st_o (op_app Try.underlying23 Try.underlying23 (.inl ⟨_, rfl⟩) i67 o67 rfl rfl rfl (by first | rfl | omega | (simp; done) | (simp; omega)) ((SrcA.whole rfl (by first | rfl | (simp; done))).ok rfl (by first | assumption | intro z hz; simp only [List.mem_singleton, List.drop_zero, List.take_succ_cons, List.take_zero, List.mem_cons, List.not_mem_nil, or_false, List.mem_map] at hz; first | (subst hz; rfl) | (obtain ⟨_, _, rfl⟩ := hz; rfl) | (rcases hz with rfl | rfl <;> rfl))) (by first | omega | (simp; try omega)) rfl) rfl ?_
     refine st_p (op_fieldAddr Try.underlying26 rfl z23 (by decide) rfl) rfl ?_
     refine st_n (stA z23 rfl rfl rfl rfl rfl rfl rfl rfl rfl rfl) ?_
     refine al_nil ?_
     refine nmb ?_
     refine nm ?_
     refine aw_region ?_
     refine st_p (mv rfl) rfl ?_
     refine st_p (op_addi rfl rfl (by omega)) rfl ?_
     refine st_p (mva rfl) rfl ?_
     refine al_nil ?_
     refine nm ?_
     refine ⟨⟨(i + 1, acc ++ [⟨k, v, vv, true⟩], pkN l (pkN l (pkN l q))), by dsimp only; refine ⟨by omega, by simp [h2], ?_, h4⟩; rw [List.append_assoc]; exact h3⟩, by dsimp only; omega, le_to [(3, 9)] rfl rfl rfl rfl rfl ⟨rfl, rfl, rfl, rfl, rfl, rfl, trivial⟩ ⟨rfl, rfl, ?_, ?_, trivial⟩⟩
     ·simp [Blk.ren, hget, swp, AV.ren, rens]
     ·(simp [Blk.ren, hget, swp, AV.ren, rens, sb, rdA, ofConst1]) <;> rfl
  ·have hd : ks.drop i = [] := List.drop_of_length_le (by omega)
   rw [hd] at h3 h4
   simp only [pkFold, List.append_nil] at h3 h4
   subst h3
   rw [h4]
   obtain ⟨acc, m⟩ := R
   dsimp only at *
   have hpl : (acc.map rdA).all AV.plain = true := by simp [AV.plain, plains, rdA, sb]
   have hka : (acc.map rdA).take acc.length = acc.map rdA := List.take_of_length_le (by omega)
   refine aw_seq ?_
   refine aw_seq ?_
   refine aw_region ?_
   refine st_p (mv rfl) rfl ?_
   refine st_p (mv rfl) rfl ?_
   refine st_p (op_len Try.underlying71 rfl) rfl ?_
   refine st_p (OpP.conv (op_lt rfl rfl) (no (by first | assumption | omega))) rfl ?_
   refine al_nil ?_
   refine nm ?_
   refine aw_no (rfl) ?_
   refine aw_exit ?_
   refine xs ?_
   refine xs ?_
   refine xb ?_
   refine nm ?_
   refine aw_seq ?_
   refine aw_frz 3 (xs := acc.map rdA) rfl (by first | rfl | assumption | simp [AV.plain, plains, bl_plain, sb]) rfl ?_
   dsimp only [frzS, hdel, List.map_cons, List.map_nil, AV.frz, frzs, Blk.frz, ↓reduceIte, Nat.reduceEqDiff, reduceCtorEq]
   refine aw_region ?_
   refine st_p (mv rfl) rfl ?_
   refine st_o (op_callg [(0, 0)] 1 true [(0, pkB l m)] [0] (hk2) Try.func37 ⟨rfl, rfl⟩ rfl rfl rfl rfl (by omega) (by intro p hp; simp only [List.mem_cons, List.not_mem_nil, or_false] at hp; rcases hp with rfl <;> exact ⟨by first | rfl | ((simp [hget, swp, Blk.ren, AV.ren, ints, Function.comp_def]) <;> rfl), rfl⟩) rfl (.cons (.same (by rfl)) (.cons (.same (by rfl)) .nil)) rfl rfl rfl) rfl ?_
   refine st_p (mva rfl) rfl ?_
   refine al_nil ?_
   refine nm ?_
   refine aw_seq ?_
   refine aw_seq ?_
   refine aw_region ?_
   refine st_p (mva rfl) rfl ?_
   refine al_nil ?_
   refine nm ?_
   refine aw_block ?_
   refine aw_virtB 2 3 3 rfl rfl rfl rfl ?_
   refine aw_loop (fun p : {p : Nat × List WR × Nat // p.1 ≤ ks2.length ∧ p.2.1.length = p.1 ∧ p.2.1 ++ (pkFold (wrStep l) (ks2.drop p.1) p.2.2).1 = W.1 ∧ (pkFold (wrStep l) (ks2.drop p.1) p.2.2).2 = W.2} => ⟨[(0, .ptr 0 0 0), (4, .ptr 1 0 0), (5, .ptr 2 0 0), (9, .sl 1 (ks2.map sb)), (10, .int .i64 p.1.1)], [(0, pkB l p.1.2.2), (1, .cells 4 [.agg [.int .i64 0, .int .i64 0, .nils, .nils]]), (2, .cells 4 [.agg [.int .i64 (1 + v3), .int .i64 (1 + v6), .sl 4 (acc.map rdA), .own 3 0 p.1.2.1.length]]), (3, .cells 3 (p.1.2.1.map wrA))], 4⟩) (fun p => ks2.length - p.1.1) ⟨(0, [], n5), by dsimp only; refine ⟨by omega, rfl, ?_, ?_⟩ <;> rw [List.drop_zero, hW]; rfl⟩ ?_ ?_
   ·refine le_to [(2, 2), (3, 5)] rfl rfl rfl rfl rfl ⟨rfl, rfl, rfl, rfl, rfl, trivial⟩ ⟨rfl, rfl, ?_, rfl, trivial⟩
    simp [Blk.ren, hget, swp, AV.ren, rens, AV.frz, frzs]
    exact hka
   ·rintro ⟨⟨i, acw, q⟩, h1, h2, h3, h5⟩
    dsimp only at h1 h2 h3 h5 ⊢
    have haw : (acw.map wrA).length = acw.length := List.length_map _
    have hkm : (ks2.map sb).length = ks2.length := List.length_map _
    by_cases hi : i < ks2.length
    ·obtain ⟨k, hk⟩ : ∃ k, ks2[i]? = some k := ⟨_, List.getElem?_eq_getElem hi⟩
     have hkb : (ks2.map sb)[((i : Nat) : Int).toNat]? = some (sb k) := by rw [Int.toNat_natCast, List.getElem?_map, hk]; rfl
     have hd : ks2.drop i = k :: ks2.drop (i + 1) := by
      rw [List.drop_eq_getElem_cons hi]
      have := List.getElem?_eq_getElem hi
      rw [hk] at this
      rw [← Option.some.inj this]
     rw [hd] at h3 h5
     simp only [pkFold] at h3 h5
     have hvl := hval q
     have hnf := hn4 (pkN l q)
     by_cases hu : pkV l (pkN l q) 4 = 0
     ·simp only [wrStep, if_pos hu] at h3 h5
      rw [hu] at hnf
      generalize pkVal l q = vv at hvl
      refine aw_seq ?_
      refine aw_seq ?_
      refine aw_region ?_
      refine st_p (mv rfl) rfl ?_
      refine st_p (mv rfl) rfl ?_
      refine st_p (op_len Try.underlying71 rfl) rfl ?_
      refine st_p (OpP.conv (op_lt rfl rfl) (yes (by first | assumption | omega))) rfl ?_
      refine al_nil ?_
      refine nm ?_
      refine aw_yes (rfl) ?_
      refine aw_skip ?_
      refine nm ?_
      refine aw_seq ?_
      refine aw_block ?_
      refine aw_seq ?_
      refine dr_go ?_
      refine dr_f 0 2 [9] rfl (fun H => mv rfl) ?_
      refine dr_f 0 2 [10] rfl (fun H => mv rfl) ?_
      refine dr_q 0 2 [62, 63] rfl (op_indexAddrL Try.underlying71 z9 rfl rfl (by omega) (by first | assumption | rfl)) ?_
      refine dr_q 0 2 [64] rfl (op_load1L Try.underlying9 rfl rfl rfl) ?_
      refine dr_f 0 0 [0] rfl (fun H => mv rfl) ?_
      refine dr_e 0 [66] rfl (op_callg [(0, 0)] 1 true [(0, pkB l q)] [0] (hvl) Try.func38 ⟨rfl, rfl⟩ rfl rfl rfl rfl (by omega) (by intro p hp; simp only [List.mem_cons, List.not_mem_nil, or_false] at hp; rcases hp with rfl <;> exact ⟨by first | rfl | ((simp [hget, swp, Blk.ren, AV.ren, ints, Function.comp_def]) <;> rfl), rfl⟩) rfl (.cons (.same (by rfl)) .nil) rfl rfl rfl) ?_
      refine dr_f 1 2 [65, 67] rfl (fun H => op_build Try.underlying65 a65 rfl rfl (by intro f hf; simp only [List.mem_cons, List.not_mem_nil, or_false] at hf; rcases hf with rfl | rfl | rfl <;> exact ⟨_, by first | exact z4 | exact z9⟩) (pcons rfl rfl z9 rfl (pcons rfl rfl z9 rfl .nil)) rfl) ?_
      refine dr_fl 1 (op_alloc a65 rfl rfl) ?_
      refine dr_n 2 [11, 68] rfl (stA z65 rfl rfl rfl rfl rfl rfl rfl rfl rfl rfl) ?_
      refine dr_endF [7] [(2, 1), (2, 2), (3, 1), (3, 2)] (by kernel_rfl) (by kernel_rfl) ⟨⟨_, rfl, rfl, new_alloc a65 rfl rfl⟩, trivial⟩ (by kernel_rfl) (by kernel_rfl) ⟨(by first | exact ⟨_, rfl, OpP.q (op_indexAddrL Try.underlying71 z9 rfl rfl (by omega) (by first | assumption | rfl))⟩ | exact ⟨_, rfl, OpP.q (op_indexAddr Try.underlying71 z9 rfl rfl rfl (by omega) (by omega))⟩), (by first | exact ⟨_, rfl, OpP.q (op_indexAddrL Try.underlying71 z9 rfl rfl (by omega) (by first | assumption | rfl))⟩ | exact ⟨_, rfl, OpP.q (op_indexAddr Try.underlying71 z9 rfl rfl rfl (by omega) (by omega))⟩), (by first | exact ⟨_, rfl, OpP.q (op_load1L Try.underlying9 rfl rfl rfl)⟩ | exact ⟨_, rfl, OpP.q (op_load1 Try.underlying9 rfl rfl rfl rfl rfl)⟩ | exact ⟨_, rfl, OpP.q (op_load1 Try.underlying9 rfl rfl rfl (by assumption) rfl)⟩ | exact ⟨_, rfl, OpP.q (op_load1 Try.underlying9 rfl rfl rfl rfl (by assumption))⟩), (by first | exact ⟨_, rfl, OpP.q (op_load1L Try.underlying9 rfl rfl rfl)⟩ | exact ⟨_, rfl, OpP.q (op_load1 Try.underlying9 rfl rfl rfl rfl rfl)⟩ | exact ⟨_, rfl, OpP.q (op_load1 Try.underlying9 rfl rfl rfl (by assumption) rfl)⟩ | exact ⟨_, rfl, OpP.q (op_load1 Try.underlying9 rfl rfl rfl rfl (by assumption))⟩), trivial⟩ ?_
      refine nm ?_
      refine aw_seq ?_
      refine aw_seq ?_
      refine aw_region ?_
      refine st_p (mv rfl) rfl ?_
      refine st_o (op_callg [(0, 0)] 1 true [(0, pkB l (pkN l q))] [0] (hnf) Try.func36 ⟨rfl, rfl⟩ rfl rfl rfl rfl (by omega) (by intro p hp; simp only [List.mem_cons, List.not_mem_nil, or_false] at hp; rcases hp with rfl | rfl <;> exact ⟨by first | rfl | ((simp [hget, swp, Blk.ren, AV.ren, ints, Function.comp_def]) <;> rfl), rfl⟩) rfl (.cons (.same (by rfl)) (.cons (.same (by rfl)) .nil)) rfl rfl rfl) rfl ?_
      refine st_p (OpP.conv (op_eq rfl rfl) (yes (by first | assumption | omega))) rfl ?_
      refine al_nil ?_
      refine nm ?_
      refine aw_yes (rfl) ?_
      refine aw_region ?_
      refine st_p (op_fieldAddr Try.underlying65 rfl z4 (by decide) rfl) rfl ?_
      refine st_n (stA z4 rfl rfl rfl rfl rfl rfl rfl rfl rfl rfl) ?_
      refine st_p (op_fieldAddr Try.underlying65 rfl z9 (by decide) rfl) rfl ?_
      refine st_n (stA z9 rfl rfl rfl rfl rfl rfl rfl rfl rfl rfl) ?_
      refine al_nil ?_
      refine nm ?_
      refine aw_region ?_
      refine st_p (op_fieldAddr Try.underlying26 rfl z24 (by decide) rfl) rfl ?_
      refine st_p (op_load1 Try.underlying24 rfl rfl rfl rfl rfl) rfl ?_
      refine st_p (op_loadA Try.underlying65 rfl z65 rfl rfl rfl rfl) rfl ?_
      refine st_o (bsl Try.underlying24 i65 o65 (by decide) rfl rfl rfl (by decide)) rfl ?_
      refine st_o (op_app Try.underlying24 Try.underlying24 (.inl ⟨_, rfl⟩) i65 o65 rfl rfl rfl (by first | rfl | omega | (simp; done) | (simp; omega)) ((SrcA.whole rfl (by first | rfl | (simp; done))).ok rfl (by first | assumption | intro z hz; simp only [List.mem_singleton, List.drop_zero, List.take_succ_cons, List.take_zero, List.mem_cons, List.not_mem_nil, or_false, List.mem_map] at hz; first | (subst hz; rfl) | (obtain ⟨_, _, rfl⟩ := hz; rfl) | (rcases hz with rfl | rfl <;> rfl))) (by first | omega | (simp; try omega)) rfl) rfl ?_
      refine st_p (op_fieldAddr Try.underlying26 rfl z24 (by decide) rfl) rfl ?_
      refine st_n (stA z24 rfl rfl rfl rfl rfl rfl rfl rfl rfl rfl) ?_
      refine al_nil ?_
      refine nmb ?_
      refine nm ?_
      refine aw_region ?_
      refine st_p (mv rfl) rfl ?_
      refine st_p (op_addi rfl rfl (by omega)) rfl ?_
      refine st_p (mva rfl) rfl ?_
      refine al_nil ?_
      refine nm ?_
      refine ⟨⟨(i + 1, acw ++ [⟨k, [], true⟩], pkN l (pkN l q)), by dsimp only; refine ⟨by omega, by simp [h2], ?_, h5⟩; rw [List.append_assoc]; exact h3⟩, by dsimp only; omega, le_to [(3, 8)] rfl rfl rfl rfl rfl ⟨rfl, rfl, rfl, rfl, rfl, trivial⟩ ⟨rfl, rfl, ?_, ?_, trivial⟩⟩
      ·simp [Blk.ren, hget, swp, AV.ren, rens]
      ·(simp [Blk.ren, hget, swp, AV.ren, rens, sb, wrA, ofConst1]) <;> rfl
     ·simp only [wrStep, if_neg hu] at h3 h5
      have hup : 0 < pkV l (pkN l q) 4 := by omega
      generalize pkVal l q = vv at hvl h3 h5
      generalize pkV l (pkN l q) 4 = u at hu hup hnf
      refine aw_seq ?_
      refine aw_seq ?_
      refine aw_region ?_
      refine st_p (mv rfl) rfl ?_
      refine st_p (mv rfl) rfl ?_
      refine st_p (op_len Try.underlying71 rfl) rfl ?_
      refine st_p (OpP.conv (op_lt rfl rfl) (yes (by first | assumption | omega))) rfl ?_
      refine al_nil ?_
      refine nm ?_
      refine aw_yes (rfl) ?_
      refine aw_skip ?_
      refine nm ?_
      refine aw_seq ?_
      refine aw_block ?_
      refine aw_seq ?_
      refine dr_go ?_
      refine dr_f 0 2 [9] rfl (fun H => mv rfl) ?_
      refine dr_f 0 2 [10] rfl (fun H => mv rfl) ?_
      refine dr_q 0 2 [62, 63] rfl (op_indexAddrL Try.underlying71 z9 rfl rfl (by omega) (by first | assumption | rfl)) ?_
      refine dr_q 0 2 [64] rfl (op_load1L Try.underlying9 rfl rfl rfl) ?_
      refine dr_f 0 0 [0] rfl (fun H => mv rfl) ?_
      refine dr_e 0 [66] rfl (op_callg [(0, 0)] 1 true [(0, pkB l q)] [0] (hvl) Try.func38 ⟨rfl, rfl⟩ rfl rfl rfl rfl (by omega) (by intro p hp; simp only [List.mem_cons, List.not_mem_nil, or_false] at hp; rcases hp with rfl <;> exact ⟨by first | rfl | ((simp [hget, swp, Blk.ren, AV.ren, ints, Function.comp_def]) <;> rfl), rfl⟩) rfl (.cons (.same (by rfl)) .nil) rfl rfl rfl) ?_
      refine dr_f 1 2 [65, 67] rfl (fun H => op_build Try.underlying65 a65 rfl rfl (by intro f hf; simp only [List.mem_cons, List.not_mem_nil, or_false] at hf; rcases hf with rfl | rfl | rfl <;> exact ⟨_, by first | exact z4 | exact z9⟩) (pcons rfl rfl z9 rfl (pcons rfl rfl z9 rfl .nil)) rfl) ?_
      refine dr_fl 1 (op_alloc a65 rfl rfl) ?_
      refine dr_n 2 [11, 68] rfl (stA z65 rfl rfl rfl rfl rfl rfl rfl rfl rfl rfl) ?_
      refine dr_endF [7] [(2, 1), (2, 2), (3, 1), (3, 2)] (by kernel_rfl) (by kernel_rfl) ⟨⟨_, rfl, rfl, new_alloc a65 rfl rfl⟩, trivial⟩ (by kernel_rfl) (by kernel_rfl) ⟨(by first | exact ⟨_, rfl, OpP.q (op_indexAddrL Try.underlying71 z9 rfl rfl (by omega) (by first | assumption | rfl))⟩ | exact ⟨_, rfl, OpP.q (op_indexAddr Try.underlying71 z9 rfl rfl rfl (by omega) (by omega))⟩), (by first | exact ⟨_, rfl, OpP.q (op_indexAddrL Try.underlying71 z9 rfl rfl (by omega) (by first | assumption | rfl))⟩ | exact ⟨_, rfl, OpP.q (op_indexAddr Try.underlying71 z9 rfl rfl rfl (by omega) (by omega))⟩), (by first | exact ⟨_, rfl, OpP.q (op_load1L Try.underlying9 rfl rfl rfl)⟩ | exact ⟨_, rfl, OpP.q (op_load1 Try.underlying9 rfl rfl rfl rfl rfl)⟩ | exact ⟨_, rfl, OpP.q (op_load1 Try.underlying9 rfl rfl rfl (by assumption) rfl)⟩ | exact ⟨_, rfl, OpP.q (op_load1 Try.underlying9 rfl rfl rfl rfl (by assumption))⟩), (by first | exact ⟨_, rfl, OpP.q (op_load1L Try.underlying9 rfl rfl rfl)⟩ | exact ⟨_, rfl, OpP.q (op_load1 Try.underlying9 rfl rfl rfl rfl rfl)⟩ | exact ⟨_, rfl, OpP.q (op_load1 Try.underlying9 rfl rfl rfl (by assumption) rfl)⟩ | exact ⟨_, rfl, OpP.q (op_load1 Try.underlying9 rfl rfl rfl rfl (by assumption))⟩), trivial⟩ ?_
      refine nm ?_
      refine aw_seq ?_
      refine aw_seq ?_
      refine aw_region ?_
      refine st_p (mv rfl) rfl ?_
      refine st_o (op_callg [(0, 0)] 1 true [(0, pkB l (pkN l q))] [0] (hnf) Try.func36 ⟨rfl, rfl⟩ rfl rfl rfl rfl (by omega) (by intro p hp; simp only [List.mem_cons, List.not_mem_nil, or_false] at hp; rcases hp with rfl | rfl <;> exact ⟨by first | rfl | ((simp [hget, swp, Blk.ren, AV.ren, ints, Function.comp_def]) <;> rfl), rfl⟩) rfl (.cons (.same (by rfl)) (.cons (.same (by rfl)) .nil)) rfl rfl rfl) rfl ?_
      refine st_p (OpP.conv (op_eq rfl rfl) (no (by first | assumption | omega))) rfl ?_
      refine al_nil ?_
      refine nm ?_
      refine aw_no (rfl) ?_
      refine aw_skip ?_
      refine nm ?_
      refine aw_region ?_
      refine st_p (op_fieldAddr Try.underlying26 rfl z24 (by decide) rfl) rfl ?_
      refine st_p (op_load1 Try.underlying24 rfl rfl rfl rfl rfl) rfl ?_
      refine st_p (op_loadA Try.underlying65 rfl z65 rfl rfl rfl rfl) rfl ?_
      refine st_o (bsl Try.underlying24 i65 o65 (by decide) rfl rfl rfl (by decide)) rfl ?_
      refine st_o (op_app Try.underlying24 Try.underlying24 (.inl ⟨_, rfl⟩) i65 o65 rfl rfl rfl (by first | rfl | omega | (simp; done) | (simp; omega)) ((SrcA.whole rfl (by first | rfl | (simp; done))).ok rfl (by first | assumption | intro z hz; simp only [List.mem_singleton, List.drop_zero, List.take_succ_cons, List.take_zero, List.mem_cons, List.not_mem_nil, or_false, List.mem_map] at hz; first | (subst hz; rfl) | (obtain ⟨_, _, rfl⟩ := hz; rfl) | (rcases hz with rfl | rfl <;> rfl))) (by first | omega | (simp; try omega)) rfl) rfl ?_
      refine st_p (op_fieldAddr Try.underlying26 rfl z24 (by decide) rfl) rfl ?_
      refine st_n (stA z24 rfl rfl rfl rfl rfl rfl rfl rfl rfl rfl) ?_
      refine al_nil ?_
      refine nmb ?_
      refine nm ?_
      refine aw_region ?_
      refine st_p (mv rfl) rfl ?_
      refine st_p (op_addi rfl rfl (by omega)) rfl ?_
      refine st_p (mva rfl) rfl ?_
      refine al_nil ?_
      refine nm ?_
      refine ⟨⟨(i + 1, acw ++ [⟨k, vv, false⟩], pkN l (pkN l q)), by dsimp only; refine ⟨by omega, by simp [h2], ?_, h5⟩; rw [List.append_assoc]; exact h3⟩, by dsimp only; omega, le_to [(3, 8)] rfl rfl rfl rfl rfl ⟨rfl, rfl, rfl, rfl, rfl, trivial⟩ ⟨rfl, rfl, ?_, ?_, trivial⟩⟩
      ·simp [Blk.ren, hget, swp, AV.ren, rens]
      ·(simp [Blk.ren, hget, swp, AV.ren, rens, sb, wrA, ofConst1]) <;> rfl
    ·have hd : ks2.drop i = [] := List.drop_of_length_le (by omega)
     rw [hd] at h3 h5
     simp only [pkFold, List.append_nil] at h3 h5
     subst h3
     rw [h5]
     obtain ⟨acw, m2⟩ := W
     dsimp only at *
     have hpw : (acw.map wrA).all AV.plain = true := by simp [AV.plain, plains, wrA, sb]
     refine aw_seq ?_
     refine aw_seq ?_
     refine aw_region ?_
     refine st_p (mv rfl) rfl ?_
     refine st_p (mv rfl) rfl ?_
     refine st_p (op_len Try.underlying71 rfl) rfl ?_
     refine st_p (OpP.conv (op_lt rfl rfl) (no (by first | assumption | omega))) rfl ?_
     refine al_nil ?_
     refine nm ?_
     refine aw_no (rfl) ?_
     refine aw_exit ?_
     refine xs ?_
     refine xs ?_
     refine xb ?_
     refine nm ?_
     refine aw_seq ?_
     refine aw_frz 3 (xs := acw.map wrA) rfl (by first | rfl | assumption | simp [AV.plain, plains, bl_plain, sb]) rfl ?_
     dsimp only [frzS, hdel, List.map_cons, List.map_nil, AV.frz, frzs, Blk.frz, ↓reduceIte, Nat.reduceEqDiff, reduceCtorEq]
     refine aw_le (st' := ⟨[(4, .ptr 1 0 0), (5, .ptr 2 0 0)], [(0, pkB l m2), (1, .cells 4 [.agg [.int .i64 0, .int .i64 0, .nils, .nils]]), (2, .cells 4 [.agg [.int .i64 (1 + v3), .int .i64 (1 + v6), .sl 4 (acc.map rdA), .sl 3 (acw.map wrA)]])], 3⟩) (le_to [(2, 2)] rfl rfl rfl rfl rfl ⟨rfl, rfl, trivial⟩ ⟨rfl, rfl, ?_, trivial⟩) ?_
     ·simp [Blk.ren, hget, swp, AV.ren, rens, AV.frz, frzs, ← List.map_take]
     refine aw_region ?_
     refine st_p (op_loadA Try.underlying26 rfl z26 rfl rfl rfl rfl) rfl ?_
     refine st_n (stA z26 rfl rfl rfl rfl rfl rfl rfl rfl rfl rfl) ?_
     refine al_nil ?_
     refine nm ?_
     refine aw_ret ?_
     exact ret_a ⟨[(4, .ptr 1 0 0)], [(0, pkB l m2), (1, .cells 4 [.agg [.int .i64 (1 + v3), .int .i64 (1 + v6), .sl 4 (acc.map rdA), .sl 3 (acw.map wrA)]])], 2⟩ (le_to [(1, 1)] rfl rfl rfl rfl rfl ⟨rfl, trivial⟩ ⟨rfl, rfl, trivial⟩) (resC1 (.cons (.cell rfl (op_loadA Try.underlying26 rfl rfl rfl rfl rfl rfl)) .nil)) (.inl rfl) ⟨rfl, rfl, rfl⟩

theorem pk_Txn (l : List UInt8) (n most : Nat) (hl : l.length ≤ 1000000) (hm1 : 1 ≤ most) (hm2 : most ≤ 1000000) :
  AC Try.prog 9 [.ptr 0 0 0, .int .i64 most] [(0, pkB l n)] 1 true (fun v h nx => v = txA (pkTx l n most).1 ∧ h = [(0, pkB l (pkTx l n most).2)] ∧ nx = 1) := by
 refine (pk_Txn0 l n most hl hm1 hm2).drop ?_
 rintro r h nx ⟨rfl, rfl, rfl⟩
 refine ⟨_, _, ⟨rfl, rfl, rfl⟩, by omega, by omega, rfl, fun b B hb => ?_⟩
 simp only [hget] at hb ⊢
 by_cases e : 0 = b
 ·rw [if_pos e] at hb ⊢
  refine ⟨hb, by omega, ?_⟩
  rw [← Option.some.inj hb]
  rfl
 ·rw [if_neg e] at hb
  cases hb

end Go.Proofs.Ytpggknkhldecaaa.Abs
end
section
namespace Go.Proofs.Ytpggknkhldecaaa.Abs

set_option maxRecDepth 100000 in
theorem eq_Reads (a b : List RD) (ha : a.length ≤ 1000000) (hb : b.length ≤ 1000000) :
  AC Try.prog 55 [.sl 4 (a.map rdA), .sl 4 (b.map rdA)] [] 0 false (fun v h nx => v = .bool (eqRds a b) ∧ h = [] ∧ nx = 0) := by
 have hal : (a.map rdA).length = a.length := List.length_map _
 have hbl : (b.map rdA).length = b.length := List.length_map _
 have hA : ∀ (i : Nat) (x : RD), a[i]? = some x → (a.map rdA)[((i : Nat) : Int).toNat]? = some (.agg [sb x.key, .int .i64 x.ver, sb x.val, .bool x.there]) := fun i x hx => by rw [Int.toNat_natCast, List.getElem?_map, hx]; rfl
 have hB : ∀ (i : Nat) (x : RD), b[i]? = some x → (b.map rdA)[((i : Nat) : Int).toNat]? = some (.agg [sb x.key, .int .i64 x.ver, sb x.val, .bool x.there]) := fun i x hx => by rw [Int.toNat_natCast, List.getElem?_map, hx]; rfl
 generalize a.map rdA = A at hal hA ⊢
 generalize b.map rdA = B at hbl hB ⊢
 by_cases hl : a.length = b.length
 ·skip
  refine ac_fn Try.func55 rfl rfl rfl rfl (fun w0 S0 r0 => ?_)
  refine aw_seq ?_
  refine aw_region ?_
  refine st_p (mva rfl) rfl ?_
  refine al_nil ?_
  refine nm ?_
  refine aw_seq ?_
  refine aw_seq ?_
  refine aw_region ?_
  refine st_p (mv rfl) rfl ?_
  refine st_p (op_len Try.underlying23 rfl) rfl ?_
  refine st_p (mv rfl) rfl ?_
  refine st_p (op_len Try.underlying23 rfl) rfl ?_
  refine st_p (OpP.conv (op_ne rfl rfl) (no (by first | assumption | omega))) rfl ?_
  refine al_nil ?_
  refine nm ?_
  refine aw_no (rfl) ?_
  refine aw_skip ?_
  refine nm ?_
  refine aw_seq ?_
  refine aw_seq ?_
  refine aw_region ?_
  refine st_p (mv rfl) rfl ?_
  refine st_p (op_len Try.underlying23 rfl) rfl ?_
  refine st_p (mv rfl) rfl ?_
  refine al_nil ?_
  refine nm ?_
  refine aw_block ?_
  refine aw_loop (fun i : {i : Nat // i ≤ a.length ∧ ((a.zip b).take i).all (fun p => sameRd p.1 p.2) = true} => ⟨[(0, .sl 4 A), (1, .sl 4 B), (12, .int .i64 A.length), (13, .int .i64 i.1)], [], 0⟩) (fun i => a.length - i.1) ⟨0, Nat.zero_le _, rfl⟩ ?_ ?_
  ·exact le_to [] rfl rfl rfl rfl rfl ⟨rfl, rfl, rfl, rfl, trivial⟩ trivial
  ·rintro ⟨i, hi, hall⟩
   dsimp only
   by_cases hlt : i < a.length
   ·obtain ⟨x, hx⟩ : ∃ x, a[i]? = some x := ⟨_, List.getElem?_eq_getElem hlt⟩
    obtain ⟨y, hy⟩ : ∃ y, b[i]? = some y := ⟨_, List.getElem?_eq_getElem (by omega)⟩
    have hxb := hA i x hx
    have hyb := hB i y hy
    have hz := zip_get hx hy
    have hstep : ((a.zip b).take (i + 1)).all (fun p => sameRd p.1 p.2) = (((a.zip b).take i).all (fun p => sameRd p.1 p.2) && sameRd x y) := all_take (p := fun p : RD × RD => sameRd p.1 p.2) hz
    have hE := eq_rd x y Try.underlying67
    have hmem := List.mem_of_getElem? hz
    clear hz
    cases hs : sameRd x y with
    | true =>
     rw [hs] at hE hstep
     refine aw_seq ?_
     refine aw_region ?_
     refine st_p (OpP.conv (op_lt rfl rfl) (yes (by first | assumption | omega))) rfl ?_
     refine al_nil ?_
     refine nm ?_
     refine aw_seq ?_
     refine aw_yes (rfl) ?_
     refine aw_skip ?_
     refine nm ?_
     refine aw_seq ?_
     refine aw_block ?_
     refine aw_seq ?_
     refine aw_region ?_
     refine st_p (mv rfl) rfl ?_
     refine st_p (mva rfl) rfl ?_
     refine al_nil ?_
     refine nm ?_
     refine aw_seq ?_
     refine dr_go ?_
     refine dr_f 0 0 [0] rfl (fun H => mv rfl) ?_
     refine dr_f 0 0 [5] rfl (fun H => mv rfl) ?_
     refine dr_q 0 0 [16, 17] rfl (op_indexAddrL Try.underlying23 z67 rfl rfl (by omega) (by first | assumption | rfl)) ?_
     refine dr_q 0 0 [18] rfl (op_loadAL Try.underlying67 rfl z67 rfl rfl) ?_
     refine dr_f 0 0 [1] rfl (fun H => mv rfl) ?_
     refine dr_f 0 0 [5] rfl (fun H => mv rfl) ?_
     refine dr_q 0 0 [20, 21] rfl (op_indexAddrL Try.underlying23 z67 rfl rfl (by omega) (by first | assumption | rfl)) ?_
     refine dr_q 0 0 [22] rfl (op_loadAL Try.underlying67 rfl z67 rfl rfl) ?_
     refine dr_f 0 0 [19, 23] rfl (fun H => (op_eqA Try.underlying67 (by kernel_rfl) (by kernel_rfl) rfl rfl (by first | assumption | exact eq_rd _ _ Try.underlying67 | exact eq_wr _ _ Try.underlying67)).2) ?_
     refine dr_end [] (by kernel_rfl) (by kernel_rfl) (by kernel_rfl) (by kernel_rfl) trivial ?_
     refine nm ?_
     refine aw_no (rfl) ?_
     refine aw_skip ?_
     refine nmb ?_
     refine nm ?_
     refine aw_region ?_
     refine st_p (op_addi rfl rfl (by omega)) rfl ?_
     refine st_p (mv rfl) rfl ?_
     refine al_nil ?_
     refine nm ?_
     refine ⟨⟨i + 1, hlt, by rw [hstep, hall]; rfl⟩, by dsimp only; omega, le_to [] rfl rfl rfl rfl rfl ⟨rfl, rfl, rfl, rfl, trivial⟩ trivial⟩
    | false =>
     rw [hs] at hE
     have hF : eqRds a b = false := by
      have : (a.zip b).all (fun p => sameRd p.1 p.2) = false := by rw [List.all_eq_false]; exact ⟨(x, y), hmem, by simp [hs]⟩
      simp [eqRds, this]
     refine aw_seq ?_
     refine aw_region ?_
     refine st_p (OpP.conv (op_lt rfl rfl) (yes (by first | assumption | omega))) rfl ?_
     refine al_nil ?_
     refine nm ?_
     refine aw_seq ?_
     refine aw_yes (rfl) ?_
     refine aw_skip ?_
     refine nm ?_
     refine aw_seq ?_
     refine aw_block ?_
     refine aw_seq ?_
     refine aw_region ?_
     refine st_p (mv rfl) rfl ?_
     refine st_p (mva rfl) rfl ?_
     refine al_nil ?_
     refine nm ?_
     refine aw_seq ?_
     refine dr_go ?_
     refine dr_f 0 0 [0] rfl (fun H => mv rfl) ?_
     refine dr_f 0 0 [5] rfl (fun H => mv rfl) ?_
     refine dr_q 0 0 [16, 17] rfl (op_indexAddrL Try.underlying23 z67 rfl rfl (by omega) (by first | assumption | rfl)) ?_
     refine dr_q 0 0 [18] rfl (op_loadAL Try.underlying67 rfl z67 rfl rfl) ?_
     refine dr_f 0 0 [1] rfl (fun H => mv rfl) ?_
     refine dr_f 0 0 [5] rfl (fun H => mv rfl) ?_
     refine dr_q 0 0 [20, 21] rfl (op_indexAddrL Try.underlying23 z67 rfl rfl (by omega) (by first | assumption | rfl)) ?_
     refine dr_q 0 0 [22] rfl (op_loadAL Try.underlying67 rfl z67 rfl rfl) ?_
     refine dr_f 0 0 [19, 23] rfl (fun H => (op_eqA Try.underlying67 (by kernel_rfl) (by kernel_rfl) rfl rfl (by first | assumption | exact eq_rd _ _ Try.underlying67 | exact eq_wr _ _ Try.underlying67)).2) ?_
     refine dr_end [] (by kernel_rfl) (by kernel_rfl) (by kernel_rfl) (by kernel_rfl) trivial ?_
     refine nm ?_
     refine aw_yes (rfl) ?_
     refine aw_seq ?_
     refine aw_region ?_
     refine st_p (mva rfl) rfl ?_
     refine al_nil ?_
     refine nm ?_
     refine aw_ret ?_
     refine rb ?_
     refine rs ?_
     refine rs ?_
     refine rb ?_
     refine rs ?_
     exact ret_a ⟨[(4, .bool false)], [], 0⟩ (le_to [] rfl rfl rfl rfl rfl ⟨rfl, trivial⟩ trivial) (res1 Try.results55) (.inr ⟨rfl, rfl⟩) ⟨by rw [hF]; rfl, rfl, rfl⟩
   ·have e : (a.zip b).take i = a.zip b := List.take_of_length_le (by rw [List.length_zip]; omega)
    rw [e] at hall
    refine aw_seq ?_
    refine aw_region ?_
    refine st_p (OpP.conv (op_lt rfl rfl) (no (by first | assumption | omega))) rfl ?_
    refine al_nil ?_
    refine nm ?_
    refine aw_seq ?_
    refine aw_no (rfl) ?_
    refine aw_exit ?_
    refine xs ?_
    refine xs ?_
    refine xb ?_
    refine nm ?_
    refine aw_seq ?_
    refine aw_region ?_
    refine st_p (mva rfl) rfl ?_
    refine al_nil ?_
    refine nm ?_
    refine aw_ret ?_
    exact ret_a ⟨[(4, .bool true)], [], 0⟩ (le_to [] rfl rfl rfl rfl rfl ⟨rfl, trivial⟩ trivial) (res1 Try.results55) (.inr ⟨rfl, rfl⟩) ⟨by simp [eqRds, hl, hall, tget], rfl, rfl⟩
 ·skip
  refine ac_fn Try.func55 rfl rfl rfl rfl (fun w0 S0 r0 => ?_)
  refine aw_seq ?_
  refine aw_region ?_
  refine st_p (mva rfl) rfl ?_
  refine al_nil ?_
  refine nm ?_
  refine aw_seq ?_
  refine aw_seq ?_
  refine aw_region ?_
  refine st_p (mv rfl) rfl ?_
  refine st_p (op_len Try.underlying23 rfl) rfl ?_
  refine st_p (mv rfl) rfl ?_
  refine st_p (op_len Try.underlying23 rfl) rfl ?_
  refine st_p (OpP.conv (op_ne rfl rfl) (yes (by first | assumption | omega))) rfl ?_
  refine al_nil ?_
  refine nm ?_
  refine aw_yes (rfl) ?_
  refine aw_seq ?_
  refine aw_region ?_
  refine st_p (mva rfl) rfl ?_
  refine al_nil ?_
  refine nm ?_
  refine aw_ret ?_
  refine rs ?_
  exact ret_a ⟨[(4, .bool false)], [], 0⟩ (le_to [] rfl rfl rfl rfl rfl ⟨rfl, trivial⟩ trivial) (res1 Try.results55) (.inr ⟨rfl, rfl⟩) ⟨by simp [eqRds, hl, tget], rfl, rfl⟩

set_option maxRecDepth 100000 in
theorem eq_Writes (a b : List WR) (ha : a.length ≤ 1000000) (hb : b.length ≤ 1000000) :
  AC Try.prog 56 [.sl 3 (a.map wrA), .sl 3 (b.map wrA)] [] 0 false (fun v h nx => v = .bool (eqWrs a b) ∧ h = [] ∧ nx = 0) := by
 have hal : (a.map wrA).length = a.length := List.length_map _
 have hbl : (b.map wrA).length = b.length := List.length_map _
 have hA : ∀ (i : Nat) (x : WR), a[i]? = some x → (a.map wrA)[((i : Nat) : Int).toNat]? = some (.agg [sb x.key, sb x.val, .bool x.gone]) := fun i x hx => by rw [Int.toNat_natCast, List.getElem?_map, hx]; rfl
 have hB : ∀ (i : Nat) (x : WR), b[i]? = some x → (b.map wrA)[((i : Nat) : Int).toNat]? = some (.agg [sb x.key, sb x.val, .bool x.gone]) := fun i x hx => by rw [Int.toNat_natCast, List.getElem?_map, hx]; rfl
 generalize a.map wrA = A at hal hA ⊢
 generalize b.map wrA = B at hbl hB ⊢
 by_cases hl : a.length = b.length
 ·skip
  refine ac_fn Try.func56 rfl rfl rfl rfl (fun w0 S0 r0 => ?_)
  refine aw_seq ?_
  refine aw_region ?_
  refine st_p (mva rfl) rfl ?_
  refine al_nil ?_
  refine nm ?_
  refine aw_seq ?_
  refine aw_seq ?_
  refine aw_region ?_
  refine st_p (mv rfl) rfl ?_
  refine st_p (op_len Try.underlying24 rfl) rfl ?_
  refine st_p (mv rfl) rfl ?_
  refine st_p (op_len Try.underlying24 rfl) rfl ?_
  refine st_p (OpP.conv (op_ne rfl rfl) (no (by first | assumption | omega))) rfl ?_
  refine al_nil ?_
  refine nm ?_
  refine aw_no (rfl) ?_
  refine aw_skip ?_
  refine nm ?_
  refine aw_seq ?_
  refine aw_seq ?_
  refine aw_region ?_
  refine st_p (mv rfl) rfl ?_
  refine st_p (op_len Try.underlying24 rfl) rfl ?_
  refine st_p (mv rfl) rfl ?_
  refine al_nil ?_
  refine nm ?_
  refine aw_block ?_
  refine aw_loop (fun i : {i : Nat // i ≤ a.length ∧ ((a.zip b).take i).all (fun p => sameWr p.1 p.2) = true} => ⟨[(0, .sl 3 A), (1, .sl 3 B), (12, .int .i64 A.length), (13, .int .i64 i.1)], [], 0⟩) (fun i => a.length - i.1) ⟨0, Nat.zero_le _, rfl⟩ ?_ ?_
  ·exact le_to [] rfl rfl rfl rfl rfl ⟨rfl, rfl, rfl, rfl, trivial⟩ trivial
  ·rintro ⟨i, hi, hall⟩
   dsimp only
   by_cases hlt : i < a.length
   ·obtain ⟨x, hx⟩ : ∃ x, a[i]? = some x := ⟨_, List.getElem?_eq_getElem hlt⟩
    obtain ⟨y, hy⟩ : ∃ y, b[i]? = some y := ⟨_, List.getElem?_eq_getElem (by omega)⟩
    have hxb := hA i x hx
    have hyb := hB i y hy
    have hz := zip_get hx hy
    have hstep : ((a.zip b).take (i + 1)).all (fun p => sameWr p.1 p.2) = (((a.zip b).take i).all (fun p => sameWr p.1 p.2) && sameWr x y) := all_take (p := fun p : WR × WR => sameWr p.1 p.2) hz
    have hE := eq_wr x y Try.underlying65
    have hmem := List.mem_of_getElem? hz
    clear hz
    cases hs : sameWr x y with
    | true =>
     rw [hs] at hE hstep
     refine aw_seq ?_
     refine aw_region ?_
     refine st_p (OpP.conv (op_lt rfl rfl) (yes (by first | assumption | omega))) rfl ?_
     refine al_nil ?_
     refine nm ?_
     refine aw_seq ?_
     refine aw_yes (rfl) ?_
     refine aw_skip ?_
     refine nm ?_
     refine aw_seq ?_
     refine aw_block ?_
     refine aw_seq ?_
     refine aw_region ?_
     refine st_p (mv rfl) rfl ?_
     refine st_p (mva rfl) rfl ?_
     refine al_nil ?_
     refine nm ?_
     refine aw_seq ?_
     refine dr_go ?_
     refine dr_f 0 0 [0] rfl (fun H => mv rfl) ?_
     refine dr_f 0 0 [5] rfl (fun H => mv rfl) ?_
     refine dr_q 0 0 [16, 17] rfl (op_indexAddrL Try.underlying24 z65 rfl rfl (by omega) (by first | assumption | rfl)) ?_
     refine dr_q 0 0 [18] rfl (op_loadAL Try.underlying65 rfl z65 rfl rfl) ?_
     refine dr_f 0 0 [1] rfl (fun H => mv rfl) ?_
     refine dr_f 0 0 [5] rfl (fun H => mv rfl) ?_
     refine dr_q 0 0 [20, 21] rfl (op_indexAddrL Try.underlying24 z65 rfl rfl (by omega) (by first | assumption | rfl)) ?_
     refine dr_q 0 0 [22] rfl (op_loadAL Try.underlying65 rfl z65 rfl rfl) ?_
     refine dr_f 0 0 [19, 23] rfl (fun H => (op_eqA Try.underlying65 (by kernel_rfl) (by kernel_rfl) rfl rfl (by first | assumption | exact eq_rd _ _ Try.underlying65 | exact eq_wr _ _ Try.underlying65)).2) ?_
     refine dr_end [] (by kernel_rfl) (by kernel_rfl) (by kernel_rfl) (by kernel_rfl) trivial ?_
     refine nm ?_
     refine aw_no (rfl) ?_
     refine aw_skip ?_
     refine nmb ?_
     refine nm ?_
     refine aw_region ?_
     refine st_p (op_addi rfl rfl (by omega)) rfl ?_
     refine st_p (mv rfl) rfl ?_
     refine al_nil ?_
     refine nm ?_
     refine ⟨⟨i + 1, hlt, by rw [hstep, hall]; rfl⟩, by dsimp only; omega, le_to [] rfl rfl rfl rfl rfl ⟨rfl, rfl, rfl, rfl, trivial⟩ trivial⟩
    | false =>
     rw [hs] at hE
     have hF : eqWrs a b = false := by
      have : (a.zip b).all (fun p => sameWr p.1 p.2) = false := by rw [List.all_eq_false]; exact ⟨(x, y), hmem, by simp [hs]⟩
      simp [eqWrs, this]
     refine aw_seq ?_
     refine aw_region ?_
     refine st_p (OpP.conv (op_lt rfl rfl) (yes (by first | assumption | omega))) rfl ?_
     refine al_nil ?_
     refine nm ?_
     refine aw_seq ?_
     refine aw_yes (rfl) ?_
     refine aw_skip ?_
     refine nm ?_
     refine aw_seq ?_
     refine aw_block ?_
     refine aw_seq ?_
     refine aw_region ?_
     refine st_p (mv rfl) rfl ?_
     refine st_p (mva rfl) rfl ?_
     refine al_nil ?_
     refine nm ?_
     refine aw_seq ?_
     refine dr_go ?_
     refine dr_f 0 0 [0] rfl (fun H => mv rfl) ?_
     refine dr_f 0 0 [5] rfl (fun H => mv rfl) ?_
     refine dr_q 0 0 [16, 17] rfl (op_indexAddrL Try.underlying24 z65 rfl rfl (by omega) (by first | assumption | rfl)) ?_
     refine dr_q 0 0 [18] rfl (op_loadAL Try.underlying65 rfl z65 rfl rfl) ?_
     refine dr_f 0 0 [1] rfl (fun H => mv rfl) ?_
     refine dr_f 0 0 [5] rfl (fun H => mv rfl) ?_
     refine dr_q 0 0 [20, 21] rfl (op_indexAddrL Try.underlying24 z65 rfl rfl (by omega) (by first | assumption | rfl)) ?_
     refine dr_q 0 0 [22] rfl (op_loadAL Try.underlying65 rfl z65 rfl rfl) ?_
     refine dr_f 0 0 [19, 23] rfl (fun H => (op_eqA Try.underlying65 (by kernel_rfl) (by kernel_rfl) rfl rfl (by first | assumption | exact eq_rd _ _ Try.underlying65 | exact eq_wr _ _ Try.underlying65)).2) ?_
     refine dr_end [] (by kernel_rfl) (by kernel_rfl) (by kernel_rfl) (by kernel_rfl) trivial ?_
     refine nm ?_
     refine aw_yes (rfl) ?_
     refine aw_seq ?_
     refine aw_region ?_
     refine st_p (mva rfl) rfl ?_
     refine al_nil ?_
     refine nm ?_
     refine aw_ret ?_
     refine rb ?_
     refine rs ?_
     refine rs ?_
     refine rb ?_
     refine rs ?_
     exact ret_a ⟨[(4, .bool false)], [], 0⟩ (le_to [] rfl rfl rfl rfl rfl ⟨rfl, trivial⟩ trivial) (res1 Try.results56) (.inr ⟨rfl, rfl⟩) ⟨by rw [hF]; rfl, rfl, rfl⟩
   ·have e : (a.zip b).take i = a.zip b := List.take_of_length_le (by rw [List.length_zip]; omega)
    rw [e] at hall
    refine aw_seq ?_
    refine aw_region ?_
    refine st_p (OpP.conv (op_lt rfl rfl) (no (by first | assumption | omega))) rfl ?_
    refine al_nil ?_
    refine nm ?_
    refine aw_seq ?_
    refine aw_no (rfl) ?_
    refine aw_exit ?_
    refine xs ?_
    refine xs ?_
    refine xb ?_
    refine nm ?_
    refine aw_seq ?_
    refine aw_region ?_
    refine st_p (mva rfl) rfl ?_
    refine al_nil ?_
    refine nm ?_
    refine aw_ret ?_
    exact ret_a ⟨[(4, .bool true)], [], 0⟩ (le_to [] rfl rfl rfl rfl rfl ⟨rfl, trivial⟩ trivial) (res1 Try.results56) (.inr ⟨rfl, rfl⟩) ⟨by simp [eqWrs, hl, hall, tget], rfl, rfl⟩
 ·skip
  refine ac_fn Try.func56 rfl rfl rfl rfl (fun w0 S0 r0 => ?_)
  refine aw_seq ?_
  refine aw_region ?_
  refine st_p (mva rfl) rfl ?_
  refine al_nil ?_
  refine nm ?_
  refine aw_seq ?_
  refine aw_seq ?_
  refine aw_region ?_
  refine st_p (mv rfl) rfl ?_
  refine st_p (op_len Try.underlying24 rfl) rfl ?_
  refine st_p (mv rfl) rfl ?_
  refine st_p (op_len Try.underlying24 rfl) rfl ?_
  refine st_p (OpP.conv (op_ne rfl rfl) (yes (by first | assumption | omega))) rfl ?_
  refine al_nil ?_
  refine nm ?_
  refine aw_yes (rfl) ?_
  refine aw_seq ?_
  refine aw_region ?_
  refine st_p (mva rfl) rfl ?_
  refine al_nil ?_
  refine nm ?_
  refine aw_ret ?_
  refine rs ?_
  exact ret_a ⟨[(4, .bool false)], [], 0⟩ (le_to [] rfl rfl rfl rfl rfl ⟨rfl, trivial⟩ trivial) (res1 Try.results56) (.inr ⟨rfl, rfl⟩) ⟨by simp [eqWrs, hl, tget], rfl, rfl⟩

set_option maxRecDepth 100000 in
set_option maxHeartbeats 4000000 in
theorem txn_Same (a b : TX) (ha : a.reads.length ≤ 1000000) (hb : b.reads.length ≤ 1000000) (hwa : a.writes.length ≤ 1000000) (hwb : b.writes.length ≤ 1000000) :
  AC Try.prog 14 [txA a, txA b] [] 0 false (fun v h nx => v = .bool (sameTxB a b) ∧ h = [] ∧ nx = 0) := by
 have hsr := eq_Reads a.reads b.reads ha hb
 have hsw := eq_Writes a.writes b.writes hwa hwb
 obtain ⟨s1, q1, r1, w1⟩ := a
 obtain ⟨s2, q2, r2, w2⟩ := b
 dsimp only at ha hb hwa hwb hsr hsw
 dsimp only [txA]
 generalize w1.map wrA = W1 at hsw ⊢
 generalize w2.map wrA = W2 at hsw ⊢
 generalize r1.map rdA = R1 at hsr ⊢
 generalize r2.map rdA = R2 at hsr ⊢
 by_cases c0 : s1 = s2
 ·by_cases c1 : q1 = q2
  ·cases c3 : eqRds r1 r2 with
   | true =>
    rw [c3] at hsr
    cases c4 : eqWrs w1 w2 with
    | true =>
     rw [c4] at hsw
     refine ac_fn Try.func14 rfl rfl rfl rfl (fun w0 S0 r0 => ?_)
     refine aw_seq ?_
     refine aw_region ?_
     refine st_o (bx rfl rfl) rfl ?_
     refine st_o (bx rfl rfl) rfl ?_
     refine st_p (mva rfl) rfl ?_
     refine al_nil ?_
     refine nm ?_
     refine aw_seq ?_
     refine aw_region ?_
     refine st_p (op_fieldAddr Try.underlying26 rfl z3 (by decide) rfl) rfl ?_
     refine st_p (op_load1 Try.underlying3 rfl rfl rfl rfl rfl) rfl ?_
     refine st_p (op_fieldAddr Try.underlying26 rfl z3 (by decide) rfl) rfl ?_
     refine st_p (op_load1 Try.underlying3 rfl rfl rfl rfl rfl) rfl ?_
     refine st_p (OpP.conv (op_eq rfl rfl) (yes (by first | assumption | omega))) rfl ?_
     refine st_p (mv rfl) rfl ?_
     refine st_pg rfl rfl rfl (op_fieldAddr Try.underlying26 rfl z3 (by decide) rfl) rfl ?_
     refine st_pg rfl rfl rfl (op_load1 Try.underlying3 rfl rfl rfl rfl rfl) rfl ?_
     refine st_pg rfl rfl rfl (op_fieldAddr Try.underlying26 rfl z3 (by decide) rfl) rfl ?_
     refine st_pg rfl rfl rfl (op_load1 Try.underlying3 rfl rfl rfl rfl rfl) rfl ?_
     refine st_pg rfl rfl rfl (OpP.conv (op_eq rfl rfl) (yes (by first | assumption | omega))) rfl ?_
     refine st_p (pkT rfl rfl) rfl ?_
     refine st_p (mv rfl) rfl ?_
     refine st_pg rfl rfl rfl (op_fieldAddr Try.underlying26 rfl z23 (by decide) rfl) rfl ?_
     refine st_pg rfl rfl rfl (op_load1 Try.underlying23 rfl rfl rfl rfl rfl) rfl ?_
     refine st_pg rfl rfl rfl (op_fieldAddr Try.underlying26 rfl z23 (by decide) rfl) rfl ?_
     refine st_pg rfl rfl rfl (op_load1 Try.underlying23 rfl rfl rfl rfl rfl) rfl ?_
     refine st_og rfl rfl rfl ((op_callq (hsr) Try.func55 ⟨rfl, rfl⟩ rfl rfl (fun nx => (.cons (.same (by rfl)) (.cons (.same (by rfl)) .nil))) (by rintro _ _ _ ⟨rfl, rfl, rfl⟩; exact .same rfl)).ok) rfl ?_
     refine st_p (pkT rfl rfl) rfl ?_
     refine st_p (mv rfl) rfl ?_
     refine st_pg rfl rfl rfl (op_fieldAddr Try.underlying26 rfl z24 (by decide) rfl) rfl ?_
     refine st_pg rfl rfl rfl (op_load1 Try.underlying24 rfl rfl rfl rfl rfl) rfl ?_
     refine st_pg rfl rfl rfl (op_fieldAddr Try.underlying26 rfl z24 (by decide) rfl) rfl ?_
     refine st_pg rfl rfl rfl (op_load1 Try.underlying24 rfl rfl rfl rfl rfl) rfl ?_
     refine st_og rfl rfl rfl ((op_callq (hsw) Try.func56 ⟨rfl, rfl⟩ rfl rfl (fun nx => (.cons (.same (by rfl)) (.cons (.same (by rfl)) .nil))) (by rintro _ _ _ ⟨rfl, rfl, rfl⟩; exact .same rfl)).ok) rfl ?_
     refine st_p (pkT rfl rfl) rfl ?_
     refine st_p (mva rfl) rfl ?_
     refine al_nil ?_
     refine nm ?_
     refine aw_ret ?_
     exact ret_a ⟨[(4, .bool true)], [], 0⟩ (le_to [] rfl rfl rfl rfl rfl ⟨rfl, trivial⟩ trivial) (res1 Try.results14) (.inr ⟨rfl, rfl⟩) ⟨by simp [sameTxB, tget, c0, c1, c3, c4], rfl, rfl⟩
    | false =>
     rw [c4] at hsw
     refine ac_fn Try.func14 rfl rfl rfl rfl (fun w0 S0 r0 => ?_)
     refine aw_seq ?_
     refine aw_region ?_
     refine st_o (bx rfl rfl) rfl ?_
     refine st_o (bx rfl rfl) rfl ?_
     refine st_p (mva rfl) rfl ?_
     refine al_nil ?_
     refine nm ?_
     refine aw_seq ?_
     refine aw_region ?_
     refine st_p (op_fieldAddr Try.underlying26 rfl z3 (by decide) rfl) rfl ?_
     refine st_p (op_load1 Try.underlying3 rfl rfl rfl rfl rfl) rfl ?_
     refine st_p (op_fieldAddr Try.underlying26 rfl z3 (by decide) rfl) rfl ?_
     refine st_p (op_load1 Try.underlying3 rfl rfl rfl rfl rfl) rfl ?_
     refine st_p (OpP.conv (op_eq rfl rfl) (yes (by first | assumption | omega))) rfl ?_
     refine st_p (mv rfl) rfl ?_
     refine st_pg rfl rfl rfl (op_fieldAddr Try.underlying26 rfl z3 (by decide) rfl) rfl ?_
     refine st_pg rfl rfl rfl (op_load1 Try.underlying3 rfl rfl rfl rfl rfl) rfl ?_
     refine st_pg rfl rfl rfl (op_fieldAddr Try.underlying26 rfl z3 (by decide) rfl) rfl ?_
     refine st_pg rfl rfl rfl (op_load1 Try.underlying3 rfl rfl rfl rfl rfl) rfl ?_
     refine st_pg rfl rfl rfl (OpP.conv (op_eq rfl rfl) (yes (by first | assumption | omega))) rfl ?_
     refine st_p (pkT rfl rfl) rfl ?_
     refine st_p (mv rfl) rfl ?_
     refine st_pg rfl rfl rfl (op_fieldAddr Try.underlying26 rfl z23 (by decide) rfl) rfl ?_
     refine st_pg rfl rfl rfl (op_load1 Try.underlying23 rfl rfl rfl rfl rfl) rfl ?_
     refine st_pg rfl rfl rfl (op_fieldAddr Try.underlying26 rfl z23 (by decide) rfl) rfl ?_
     refine st_pg rfl rfl rfl (op_load1 Try.underlying23 rfl rfl rfl rfl rfl) rfl ?_
     refine st_og rfl rfl rfl ((op_callq (hsr) Try.func55 ⟨rfl, rfl⟩ rfl rfl (fun nx => (.cons (.same (by rfl)) (.cons (.same (by rfl)) .nil))) (by rintro _ _ _ ⟨rfl, rfl, rfl⟩; exact .same rfl)).ok) rfl ?_
     refine st_p (pkT rfl rfl) rfl ?_
     refine st_p (mv rfl) rfl ?_
     refine st_pg rfl rfl rfl (op_fieldAddr Try.underlying26 rfl z24 (by decide) rfl) rfl ?_
     refine st_pg rfl rfl rfl (op_load1 Try.underlying24 rfl rfl rfl rfl rfl) rfl ?_
     refine st_pg rfl rfl rfl (op_fieldAddr Try.underlying26 rfl z24 (by decide) rfl) rfl ?_
     refine st_pg rfl rfl rfl (op_load1 Try.underlying24 rfl rfl rfl rfl rfl) rfl ?_
     refine st_og rfl rfl rfl ((op_callq (hsw) Try.func56 ⟨rfl, rfl⟩ rfl rfl (fun nx => (.cons (.same (by rfl)) (.cons (.same (by rfl)) .nil))) (by rintro _ _ _ ⟨rfl, rfl, rfl⟩; exact .same rfl)).ok) rfl ?_
     refine st_p (pkT rfl rfl) rfl ?_
     refine st_p (mva rfl) rfl ?_
     refine al_nil ?_
     refine nm ?_
     refine aw_ret ?_
     exact ret_a ⟨[(4, .bool false)], [], 0⟩ (le_to [] rfl rfl rfl rfl rfl ⟨rfl, trivial⟩ trivial) (res1 Try.results14) (.inr ⟨rfl, rfl⟩) ⟨by simp [sameTxB, tget, c0, c1, c3, c4], rfl, rfl⟩
   | false =>
    rw [c3] at hsr
    refine ac_fn Try.func14 rfl rfl rfl rfl (fun w0 S0 r0 => ?_)
    refine aw_seq ?_
    refine aw_region ?_
    refine st_o (bx rfl rfl) rfl ?_
    refine st_o (bx rfl rfl) rfl ?_
    refine st_p (mva rfl) rfl ?_
    refine al_nil ?_
    refine nm ?_
    refine aw_seq ?_
    refine aw_region ?_
    refine st_p (op_fieldAddr Try.underlying26 rfl z3 (by decide) rfl) rfl ?_
    refine st_p (op_load1 Try.underlying3 rfl rfl rfl rfl rfl) rfl ?_
    refine st_p (op_fieldAddr Try.underlying26 rfl z3 (by decide) rfl) rfl ?_
    refine st_p (op_load1 Try.underlying3 rfl rfl rfl rfl rfl) rfl ?_
    refine st_p (OpP.conv (op_eq rfl rfl) (yes (by first | assumption | omega))) rfl ?_
    refine st_p (mv rfl) rfl ?_
    refine st_pg rfl rfl rfl (op_fieldAddr Try.underlying26 rfl z3 (by decide) rfl) rfl ?_
    refine st_pg rfl rfl rfl (op_load1 Try.underlying3 rfl rfl rfl rfl rfl) rfl ?_
    refine st_pg rfl rfl rfl (op_fieldAddr Try.underlying26 rfl z3 (by decide) rfl) rfl ?_
    refine st_pg rfl rfl rfl (op_load1 Try.underlying3 rfl rfl rfl rfl rfl) rfl ?_
    refine st_pg rfl rfl rfl (OpP.conv (op_eq rfl rfl) (yes (by first | assumption | omega))) rfl ?_
    refine st_p (pkT rfl rfl) rfl ?_
    refine st_p (mv rfl) rfl ?_
    refine st_pg rfl rfl rfl (op_fieldAddr Try.underlying26 rfl z23 (by decide) rfl) rfl ?_
    refine st_pg rfl rfl rfl (op_load1 Try.underlying23 rfl rfl rfl rfl rfl) rfl ?_
    refine st_pg rfl rfl rfl (op_fieldAddr Try.underlying26 rfl z23 (by decide) rfl) rfl ?_
    refine st_pg rfl rfl rfl (op_load1 Try.underlying23 rfl rfl rfl rfl rfl) rfl ?_
    refine st_og rfl rfl rfl ((op_callq (hsr) Try.func55 ⟨rfl, rfl⟩ rfl rfl (fun nx => (.cons (.same (by rfl)) (.cons (.same (by rfl)) .nil))) (by rintro _ _ _ ⟨rfl, rfl, rfl⟩; exact .same rfl)).ok) rfl ?_
    refine st_p (pkT rfl rfl) rfl ?_
    refine st_p (mv rfl) rfl ?_
    refine st_s rfl rfl rfl rfl rfl ?_
    refine st_s rfl rfl rfl rfl rfl ?_
    refine st_s rfl rfl rfl rfl rfl ?_
    refine st_s rfl rfl rfl rfl rfl ?_
    refine st_s rfl rfl rfl rfl rfl ?_
    refine st_p (pkF rfl rfl) rfl ?_
    refine st_p (mva rfl) rfl ?_
    refine al_nil ?_
    refine nm ?_
    refine aw_ret ?_
    exact ret_a ⟨[(4, .bool false)], [], 0⟩ (le_to [] rfl rfl rfl rfl rfl ⟨rfl, trivial⟩ trivial) (res1 Try.results14) (.inr ⟨rfl, rfl⟩) ⟨by simp [sameTxB, tget, c3], rfl, rfl⟩
  ·skip
   refine ac_fn Try.func14 rfl rfl rfl rfl (fun w0 S0 r0 => ?_)
   refine aw_seq ?_
   refine aw_region ?_
   refine st_o (bx rfl rfl) rfl ?_
   refine st_o (bx rfl rfl) rfl ?_
   refine st_p (mva rfl) rfl ?_
   refine al_nil ?_
   refine nm ?_
   refine aw_seq ?_
   refine aw_region ?_
   refine st_p (op_fieldAddr Try.underlying26 rfl z3 (by decide) rfl) rfl ?_
   refine st_p (op_load1 Try.underlying3 rfl rfl rfl rfl rfl) rfl ?_
   refine st_p (op_fieldAddr Try.underlying26 rfl z3 (by decide) rfl) rfl ?_
   refine st_p (op_load1 Try.underlying3 rfl rfl rfl rfl rfl) rfl ?_
   refine st_p (OpP.conv (op_eq rfl rfl) (yes (by first | assumption | omega))) rfl ?_
   refine st_p (mv rfl) rfl ?_
   refine st_pg rfl rfl rfl (op_fieldAddr Try.underlying26 rfl z3 (by decide) rfl) rfl ?_
   refine st_pg rfl rfl rfl (op_load1 Try.underlying3 rfl rfl rfl rfl rfl) rfl ?_
   refine st_pg rfl rfl rfl (op_fieldAddr Try.underlying26 rfl z3 (by decide) rfl) rfl ?_
   refine st_pg rfl rfl rfl (op_load1 Try.underlying3 rfl rfl rfl rfl rfl) rfl ?_
   refine st_pg rfl rfl rfl (OpP.conv (op_eq rfl rfl) (no (by first | assumption | omega))) rfl ?_
   refine st_p (pkT rfl rfl) rfl ?_
   refine st_p (mv rfl) rfl ?_
   refine st_s rfl rfl rfl rfl rfl ?_
   refine st_s rfl rfl rfl rfl rfl ?_
   refine st_s rfl rfl rfl rfl rfl ?_
   refine st_s rfl rfl rfl rfl rfl ?_
   refine st_s rfl rfl rfl rfl rfl ?_
   refine st_p (pkF rfl rfl) rfl ?_
   refine st_p (mv rfl) rfl ?_
   refine st_s rfl rfl rfl rfl rfl ?_
   refine st_s rfl rfl rfl rfl rfl ?_
   refine st_s rfl rfl rfl rfl rfl ?_
   refine st_s rfl rfl rfl rfl rfl ?_
   refine st_s rfl rfl rfl rfl rfl ?_
   refine st_p (pkF rfl rfl) rfl ?_
   refine st_p (mva rfl) rfl ?_
   refine al_nil ?_
   refine nm ?_
   refine aw_ret ?_
   exact ret_a ⟨[(4, .bool false)], [], 0⟩ (le_to [] rfl rfl rfl rfl rfl ⟨rfl, trivial⟩ trivial) (res1 Try.results14) (.inr ⟨rfl, rfl⟩) ⟨by simp [sameTxB, tget, c1], rfl, rfl⟩
 ·skip
  refine ac_fn Try.func14 rfl rfl rfl rfl (fun w0 S0 r0 => ?_)
  refine aw_seq ?_
  refine aw_region ?_
  refine st_o (bx rfl rfl) rfl ?_
  refine st_o (bx rfl rfl) rfl ?_
  refine st_p (mva rfl) rfl ?_
  refine al_nil ?_
  refine nm ?_
  refine aw_seq ?_
  refine aw_region ?_
  refine st_p (op_fieldAddr Try.underlying26 rfl z3 (by decide) rfl) rfl ?_
  refine st_p (op_load1 Try.underlying3 rfl rfl rfl rfl rfl) rfl ?_
  refine st_p (op_fieldAddr Try.underlying26 rfl z3 (by decide) rfl) rfl ?_
  refine st_p (op_load1 Try.underlying3 rfl rfl rfl rfl rfl) rfl ?_
  refine st_p (OpP.conv (op_eq rfl rfl) (no (by first | assumption | omega))) rfl ?_
  refine st_p (mv rfl) rfl ?_
  refine st_s rfl rfl rfl rfl rfl ?_
  refine st_s rfl rfl rfl rfl rfl ?_
  refine st_s rfl rfl rfl rfl rfl ?_
  refine st_s rfl rfl rfl rfl rfl ?_
  refine st_s rfl rfl rfl rfl rfl ?_
  refine st_p (pkF rfl rfl) rfl ?_
  refine st_p (mv rfl) rfl ?_
  refine st_s rfl rfl rfl rfl rfl ?_
  refine st_s rfl rfl rfl rfl rfl ?_
  refine st_s rfl rfl rfl rfl rfl ?_
  refine st_s rfl rfl rfl rfl rfl ?_
  refine st_s rfl rfl rfl rfl rfl ?_
  refine st_p (pkF rfl rfl) rfl ?_
  refine st_p (mv rfl) rfl ?_
  refine st_s rfl rfl rfl rfl rfl ?_
  refine st_s rfl rfl rfl rfl rfl ?_
  refine st_s rfl rfl rfl rfl rfl ?_
  refine st_s rfl rfl rfl rfl rfl ?_
  refine st_s rfl rfl rfl rfl rfl ?_
  refine st_p (pkF rfl rfl) rfl ?_
  refine st_p (mva rfl) rfl ?_
  refine al_nil ?_
  refine nm ?_
  refine aw_ret ?_
  exact ret_a ⟨[(4, .bool false)], [], 0⟩ (le_to [] rfl rfl rfl rfl rfl ⟨rfl, trivial⟩ trivial) (res1 Try.results14) (.inr ⟨rfl, rfl⟩) ⟨by simp [sameTxB, tget, c0], rfl, rfl⟩

end Go.Proofs.Ytpggknkhldecaaa.Abs
end
section
namespace Go.Proofs.Ytpggknkhldecaaa.Abs

theorem pick_rising : ∀ b : Fin 64, risingB (pickK keysL b.val 3) = true := by decide +kernel
theorem pkKeys_rising (l : List UInt8) (n : Nat) : risingB (pkKeys l n 3) = true := pick_rising ⟨pkV l n 64, pkV_lt l n 64 (by omega)⟩

theorem pkVal_len (l : List UInt8) (n : Nat) : (pkVal l n).length ≤ 16 := by
 unfold pkVal
 have h := pkV_lt l n 5 (by omega)
 generalize pkV l n 5 = v at h
 match v, h with
 | 0, _ => decide
 | 1, _ => decide
 | 2, _ => decide
 | 3, _ => decide
 | 4, _ => decide

theorem pkFold_map {α β : Type} (f : List UInt8 → Nat → α × Nat) (g : α → β) (h : List UInt8 → β) (hg : ∀ k n, g (f k n).1 = h k) : ∀ (ks : List (List UInt8)) (n : Nat), (pkFold f ks n).1.map g = ks.map h := by
 intro ks
 induction ks with
 | nil => intro n; rfl
 | cons k ks ih => intro n; simp only [pkFold, List.map_cons, hg, ih]

theorem pkFold_all {α : Type} (f : List UInt8 → Nat → α × Nat) (p : α → Bool) (hp : ∀ k n, p (f k n).1 = true) : ∀ (ks : List (List UInt8)) (n : Nat), (pkFold f ks n).1.all p = true := by
 intro ks
 induction ks with
 | nil => intro n; rfl
 | cons k ks ih => intro n; simp only [pkFold, List.all_cons, hp, ih, Bool.and_self]

theorem rdStep_key (l : List UInt8) (most : Nat) (k : List UInt8) (n : Nat) : (rdStep l most k n).1.key = k := by
 unfold rdStep
 split
 ·rfl
 ·split <;> rfl
theorem wrStep_key (l : List UInt8) (k : List UInt8) (n : Nat) : (wrStep l k n).1.key = k := by
 unfold wrStep
 split <;> rfl

theorem rdStep_read (l : List UInt8) (most : Nat) (k : List UInt8) (n : Nat) : readB (rdStep l most k n).1 = true := by
 unfold rdStep
 split
 ·simp [readB]
 ·split
  ·simp [readB]
  ·have := pkVal_len l (pkN l (pkN l n))
   simp only [readB, Bool.not_true, Bool.false_and, Bool.true_and, Bool.false_or, Bool.and_eq_true, Bool.not_eq_true', decide_eq_true_eq, decide_eq_false_iff_not]
   exact ⟨by omega, by omega, this⟩

theorem wrStep_write (l : List UInt8) (k : List UInt8) (n : Nat) : writeB (wrStep l k n).1 = true := by
 unfold wrStep
 split
 ·simp [writeB]
 ·have := pkVal_len l n
  simp only [writeB, Bool.not_false, Bool.true_or, Bool.and_true, decide_eq_true_eq]
  exact this

theorem rdStep_ver (l : List UInt8) (most : Nat) (hm : 1 ≤ most) (k : List UInt8) (n : Nat) : decide ((rdStep l most k n).1.ver < most) = true := by
 have := pkV_lt l n most hm
 unfold rdStep
 rw [decide_eq_true_eq]
 split
 ·show (0 : Int) < most; omega
 ·split
  ·show ((pkV l n most : Nat) : Int) < most; omega
  ·show ((pkV l n most : Nat) : Int) < most; omega

theorem pkTx_may (l : List UInt8) (n most : Nat) : mayTxB (pkTx l n most).1 = true := by
 have h3 := pkV_lt l n 3 (by omega)
 have h6 := pkV_lt l (pkN l n) 6 (by omega)
 have hr : (pkRds l n most).1.length ≤ 3 := by unfold pkRds; rw [pkFold_len]; exact pickK_len _ _ _
 have hw : ∀ m, (pkWrs l m).1.length ≤ 3 := fun m => by unfold pkWrs; rw [pkFold_len]; exact pickK_len _ _ _
 have hw := hw (pkRds l n most).2
 unfold mayTxB pkTx
 simp only [Bool.and_eq_true, decide_eq_true_eq]
 refine ⟨by omega, by omega, by omega, by omega, by omega, ?_, by omega, ?_, ?_, ?_⟩
 ·unfold pkRds
  rw [pkFold_map _ _ id (rdStep_key l most), List.map_id]
  exact pkKeys_rising _ _
 ·unfold pkWrs
  rw [pkFold_map _ _ id (wrStep_key l), List.map_id]
  exact pkKeys_rising _ _
 ·exact pkFold_all _ _ (rdStep_read l most) _ _
 ·exact pkFold_all _ _ (wrStep_write l) _ _

theorem pkTx_ver (l : List UInt8) (n most : Nat) (hm : 1 ≤ most) : ∀ r ∈ (pkTx l n most).1.reads, r.ver < most := fun r hr => by
 have := List.all_eq_true.1 (pkFold_all (rdStep l most) (fun r => decide (r.ver < most)) (rdStep_ver l most hm) (pkKeys l (pkN l (pkN l n)) 3) (pkN l (pkN l (pkN l n)))) r hr
 simpa using this

theorem pkTx_len (l : List UInt8) (n most : Nat) : (pkTx l n most).1.reads.length ≤ 3 ∧ (pkTx l n most).1.writes.length ≤ 3 := by
 refine ⟨?_, ?_⟩
 ·show (pkRds l n most).1.length ≤ 3
  unfold pkRds; rw [pkFold_len]; exact pickK_len _ _ _
 ·show (pkWrs l (pkRds l n most).2).1.length ≤ 3
  unfold pkWrs; rw [pkFold_len]; exact pickK_len _ _ _

end Go.Proofs.Ytpggknkhldecaaa.Abs
end
section
namespace Go.Proofs.Ytpggknkhldecaaa.Abs

def ints (l : List Int) : List AV := l.map (AV.int .i64)
theorem ints_len (l : List Int) : (ints l).length = l.length := List.length_map _

def swapL (l : List Int) (j : Nat) : List Int := (l.set (j + 1) (l.getD j 0)).set j (l.getD (j + 1) 0)
def downL : List Int → Nat → List Int
 | l, 0 => l
 | l, j + 1 => if l.getD (j + 1) 0 < l.getD j 0 then downL (swapL l j) j else l
def sortL (l : List Int) : Nat → List Int
 | 0 => l
 | i + 1 => downL (sortL l i) (i + 1)

theorem swapL_len (l : List Int) (j : Nat) : (swapL l j).length = l.length := by simp [swapL]
theorem downL_len : ∀ (j : Nat) (l : List Int), (downL l j).length = l.length := by
 intro j
 induction j with
 | zero => intro l; rfl
 | succ j ih =>
  intro l
  simp only [downL]
  split
  ·rw [ih, swapL_len]
  ·rfl
theorem sortL_len (l : List Int) : ∀ i, (sortL l i).length = l.length := by
 intro i
 induction i with
 | zero => rfl
 | succ i ih => rw [sortL, downL_len, ih]

theorem swapL_get (l : List Int) (j : Nat) (hj : j + 1 < l.length) (k : Nat) : (swapL l j).getD k 0 = if k = j then l.getD (j + 1) 0 else if k = j + 1 then l.getD j 0 else l.getD k 0 := by
 unfold swapL
 simp only [List.getD_eq_getElem?_getD]
 by_cases h1 : k = j
 ·subst h1
  rw [if_pos rfl, List.getElem?_set_self (by simp; omega)]; rfl
 ·rw [if_neg h1, List.getElem?_set_ne (fun e => h1 e.symm)]
  by_cases h2 : k = j + 1
  ·subst h2
   rw [if_pos rfl, List.getElem?_set_self (by omega)]; rfl
  ·rw [if_neg h2, List.getElem?_set_ne (fun e => h2 e.symm)]

theorem swapL_mem (l : List Int) (j : Nat) (hj : j + 1 < l.length) (x : Int) : x ∈ swapL l j ↔ x ∈ l := by
 have key : ∀ (m : List Int) (y : Int), y ∈ m ↔ ∃ k, k < m.length ∧ m.getD k 0 = y := fun m y => by
  constructor
  ·intro h
   obtain ⟨k, hk⟩ := List.getElem?_of_mem h
   have := (List.getElem?_eq_some_iff.1 hk).1
   exact ⟨k, this, by rw [List.getD_eq_getElem?_getD, hk]; rfl⟩
  ·rintro ⟨k, hk, rfl⟩
   rw [List.getD_eq_getElem?_getD, List.getElem?_eq_getElem hk]
   exact List.getElem_mem hk
 rw [key, key]
 constructor
 ·rintro ⟨k, hk, h⟩
  rw [swapL_len] at hk
  rw [swapL_get l j hj] at h
  split at h
  ·exact ⟨j + 1, hj, h⟩
  ·split at h
   ·exact ⟨j, by omega, h⟩
   ·exact ⟨k, hk, h⟩
 ·rintro ⟨k, hk, h⟩
  by_cases h1 : k = j
  ·subst h1
   exact ⟨k + 1, by rw [swapL_len]; exact hj, by rw [swapL_get l k hj, if_neg (by omega), if_pos rfl]; exact h⟩
  ·by_cases h2 : k = j + 1
   ·subst h2
    exact ⟨j, by rw [swapL_len]; omega, by rw [swapL_get l j hj, if_pos rfl]; exact h⟩
   ·exact ⟨k, by rw [swapL_len]; exact hk, by rw [swapL_get l j hj, if_neg h1, if_neg h2]; exact h⟩

theorem downL_mem : ∀ (j : Nat) (l : List Int), j < l.length → ∀ x, x ∈ downL l j ↔ x ∈ l := by
 intro j
 induction j with
 | zero => intro l _ x; exact Iff.rfl
 | succ j ih =>
  intro l hj x
  simp only [downL]
  split
  ·rw [ih _ (by rw [swapL_len]; omega), swapL_mem l j hj]
  ·exact Iff.rfl

theorem sortL_mem (l : List Int) : ∀ i, i < l.length ∨ i = 0 → ∀ x, x ∈ sortL l i ↔ x ∈ l := by
 intro i
 induction i with
 | zero => intro _ x; exact Iff.rfl
 | succ i ih =>
  intro hi x
  rw [sortL, downL_mem _ _ (by rw [sortL_len]; omega), ih (by omega)]

theorem downL_up : ∀ (j m : Nat) (l : List Int), j ≤ m → m < l.length → (∀ a b, a < b → b ≤ m → a ≠ j → b ≠ j → l.getD a 0 ≤ l.getD b 0) → (∀ b, j < b → b ≤ m → l.getD j 0 ≤ l.getD b 0) → ∀ a b, a < b → b ≤ m → (downL l j).getD a 0 ≤ (downL l j).getD b 0 := by
 intro j
 induction j with
 | zero =>
  intro m l _ hm h1 h2 a b hab hb
  simp only [downL]
  by_cases ha : a = 0
  ·subst ha; exact h2 b hab hb
  ·exact h1 a b hab hb ha (by omega)
 | succ j ih =>
  intro m l hj hm h1 h2 a b hab hb
  simp only [downL]
  split
  ·rename_i hlt
   have hs : ∀ k, (swapL l j).getD k 0 = if k = j then l.getD (j + 1) 0 else if k = j + 1 then l.getD j 0 else l.getD k 0 := swapL_get l j (by omega)
   refine ih m (swapL l j) (by omega) (by rw [swapL_len]; exact hm) (fun a b hab hb ha hb' => ?_) (fun b hjb hb => ?_) a b hab hb
   ·rw [hs a, hs b, if_neg ha, if_neg hb']
    by_cases h3 : a = j + 1
    ·rw [if_pos h3, if_neg (by omega)]
     exact h1 j b (by omega) hb (by omega) (by omega)
    ·rw [if_neg h3]
     by_cases h4 : b = j + 1
     ·rw [if_pos h4]
      exact h1 a j (by omega) (by omega) h3 (by omega)
     ·rw [if_neg h4]
      exact h1 a b hab hb h3 h4
   ·rw [hs j, hs b, if_pos rfl, if_neg (by omega)]
    by_cases h4 : b = j + 1
    ·rw [if_pos h4]; omega
    ·rw [if_neg h4]
     exact h2 b (by omega) hb
  ·rename_i hge
   by_cases h3 : a = j + 1
   ·subst h3; exact h2 b hab hb
   ·by_cases h4 : b = j + 1
    ·subst h4
     by_cases h5 : a = j
     ·subst h5; omega
     ·have := h1 a j (by omega) (by omega) h3 (by omega)
      omega
    ·exact h1 a b hab hb h3 h4

theorem sortL_up (l : List Int) : ∀ i, i < l.length ∨ i = 0 → ∀ a b, a < b → b ≤ i → (sortL l i).getD a 0 ≤ (sortL l i).getD b 0 := by
 intro i
 induction i with
 | zero => intro _ a b h1 h2; omega
 | succ i ih =>
  intro hi a b hab hb
  rw [sortL]
  refine downL_up (i + 1) (i + 1) (sortL l i) (Nat.le_refl _) (by rw [sortL_len]; omega) (fun a b hab hb ha hb' => ?_) (fun b h1 h2 => by omega) a b hab hb
  exact ih (by omega) a b hab (by omega)

end Go.Proofs.Ytpggknkhldecaaa.Abs
end
section
namespace Go.Proofs.Ytpggknkhldecaaa.Abs

theorem nan_int (x : Int) : AC Try.prog 114 [.int .i64 x] [] 0 false (fun v h nx => v = .bool false ∧ h = [] ∧ nx = 0) := by
 refine ac_fn Try.func114 rfl rfl rfl rfl (fun w0 S0 r0 => ?_)
 refine aw_seq ?_
 refine aw_region ?_
 refine st_p (mva rfl) rfl ?_
 refine al_nil ?_
 refine nm ?_
 refine aw_seq ?_
 refine aw_region ?_
 refine st_p (mv rfl) rfl ?_
 refine st_p (mv rfl) rfl ?_
 refine st_p (OpP.conv (op_ne rfl rfl) (no (by first | assumption | omega))) rfl ?_
 refine st_p (mva rfl) rfl ?_
 refine al_nil ?_
 refine nm ?_
 refine aw_ret ?_
 exact ret_v (res1 Try.results114) (.inr ⟨rfl, rfl⟩) ⟨rfl, rfl, rfl⟩

theorem less_int (x y : Int) : AC Try.prog 108 [.int .i64 x, .int .i64 y] [] 0 false (fun v h nx => v = .bool (decide (x < y)) ∧ h = [] ∧ nx = 0) := by
 have hx := nan_int x
 have hy := nan_int y
 by_cases h : x < y
 ·rw [decide_eq_true h]
  refine ac_fn Try.func108 rfl rfl rfl rfl (fun w0 S0 r0 => ?_)
  refine aw_seq ?_
  refine aw_region ?_
  refine st_p (mva rfl) rfl ?_
  refine al_nil ?_
  refine nm ?_
  refine aw_seq ?_
  refine aw_region ?_
  refine st_p (mv rfl) rfl ?_
  refine st_o ((op_callq (hx) Try.func114 ⟨rfl, rfl⟩ rfl rfl (fun nx => (.cons (.same (by rfl)) .nil)) (by rintro _ _ _ ⟨rfl, rfl, rfl⟩; exact .same rfl)).ok) rfl ?_
  refine st_p (mv rfl) rfl ?_
  refine st_s rfl rfl rfl rfl rfl ?_
  refine st_s rfl rfl rfl rfl rfl ?_
  refine st_s rfl rfl rfl rfl rfl ?_
  refine st_p (pkF rfl rfl) rfl ?_
  refine st_p (mv rfl) rfl ?_
  refine st_pg rfl rfl rfl (mv rfl) rfl ?_
  refine st_pg rfl rfl rfl (mv rfl) rfl ?_
  refine st_pg rfl rfl rfl (OpP.conv (op_lt rfl rfl) (yes (by first | assumption | omega))) rfl ?_
  refine st_p (pkF rfl rfl) rfl ?_
  refine st_p (mva rfl) rfl ?_
  refine al_nil ?_
  refine nm ?_
  refine aw_ret ?_
  exact ret_v (res1 Try.results108) (.inr ⟨rfl, rfl⟩) ⟨rfl, rfl, rfl⟩
 ·rw [decide_eq_false h]
  refine ac_fn Try.func108 rfl rfl rfl rfl (fun w0 S0 r0 => ?_)
  refine aw_seq ?_
  refine aw_region ?_
  refine st_p (mva rfl) rfl ?_
  refine al_nil ?_
  refine nm ?_
  refine aw_seq ?_
  refine aw_region ?_
  refine st_p (mv rfl) rfl ?_
  refine st_o ((op_callq (hx) Try.func114 ⟨rfl, rfl⟩ rfl rfl (fun nx => (.cons (.same (by rfl)) .nil)) (by rintro _ _ _ ⟨rfl, rfl, rfl⟩; exact .same rfl)).ok) rfl ?_
  refine st_p (mv rfl) rfl ?_
  refine st_s rfl rfl rfl rfl rfl ?_
  refine st_s rfl rfl rfl rfl rfl ?_
  refine st_s rfl rfl rfl rfl rfl ?_
  refine st_p (pkF rfl rfl) rfl ?_
  refine st_p (mv rfl) rfl ?_
  refine st_pg rfl rfl rfl (mv rfl) rfl ?_
  refine st_pg rfl rfl rfl (mv rfl) rfl ?_
  refine st_pg rfl rfl rfl (OpP.conv (op_lt rfl rfl) (no (by first | assumption | omega))) rfl ?_
  refine st_p (pkF rfl rfl) rfl ?_
  refine st_p (mva rfl) rfl ?_
  refine al_nil ?_
  refine nm ?_
  refine aw_ret ?_
  exact ret_v (res1 Try.results108) (.inr ⟨rfl, rfl⟩) ⟨rfl, rfl, rfl⟩

theorem getD_some (d : List Int) (k : Nat) (hk : k < d.length) : (ints d)[k]? = some (.int .i64 (d.getD k 0)) := by
 unfold ints
 rw [List.getElem?_map, List.getElem?_eq_getElem hk, List.getD_eq_getElem?_getD, List.getElem?_eq_getElem hk]
 rfl

theorem ren_ints (σ : Nat → Nat) (l : List Int) : (ints l).map (AV.ren σ) = ints l := by simp [ints, AV.ren, Function.comp_def]
theorem ren_intsB (σ : Nat → Nat) (l : List Int) : (Blk.cells 1 (ints l)).ren σ = .cells 1 (ints l) := by simp only [Blk.ren, ren_ints]

theorem ints_swap (d : List Int) (q : Nat) : ((ints d).set (0 + ((q + 1 : Nat) : Int).toNat) (.int .i64 (d.getD q 0))).set (0 + (((q + 1 : Nat) : Int) - 1).toNat) (.int .i64 (d.getD (q + 1) 0)) = ints (swapL d q) := by
 rw [show 0 + (((q + 1 : Nat) : Int) - 1).toNat = q by omega, Nat.zero_add, Int.toNat_natCast]
 unfold ints swapL
 rw [List.map_set, List.map_set]

set_option maxHeartbeats 4000000 in
theorem insertion (l : List Int) (hl : l.length ≤ 1000000) :
  AC Try.prog 102 [.own 0 0 l.length, .int .i64 0, .int .i64 l.length] [(0, .cells 1 (ints l))] 1 false (fun v h nx => v = .tup [] ∧ h = [(0, .cells 1 (ints (sortL l (l.length - 1))))] ∧ nx = 1) := by
 refine ac_fn Try.func102 rfl rfl rfl rfl (fun w0 S0 r0 => ?_)
 refine aw_seq ?_
 refine aw_region ?_
 refine st_p (mv rfl) rfl ?_
 refine st_p (op_addi rfl rfl (by omega)) rfl ?_
 refine st_p (mva rfl) rfl ?_
 refine al_nil ?_
 refine nm ?_
 refine aw_block ?_
 refine aw_loop (fun i : {i : Nat // 1 ≤ i ∧ (i ≤ l.length ∨ i = 1)} => ⟨[(0, .own 0 0 l.length), (1, .int .i64 0), (2, .int .i64 l.length), (6, .int .i64 i.1)], [(0, .cells 1 (ints (sortL l (i.1 - 1))))], 1⟩) (fun i => l.length - i.1) ⟨1, Nat.le_refl _, .inr rfl⟩ ?_ ?_
 ·exact le_to [] rfl rfl rfl rfl rfl ⟨rfl, rfl, rfl, rfl, trivial⟩ ⟨by rw [ren_intsB]; rfl, trivial⟩
 ·rintro ⟨i, h1, h2⟩
  dsimp only
  by_cases hi : i < l.length
  ·skip
   refine aw_seq ?_
   refine aw_seq ?_
   refine aw_region ?_
   refine st_p (mv rfl) rfl ?_
   refine st_p (mv rfl) rfl ?_
   refine st_p (OpP.conv (op_lt rfl rfl) (yes (by first | assumption | omega))) rfl ?_
   refine al_nil ?_
   refine nm ?_
   refine aw_yes (rfl) ?_
   refine aw_skip ?_
   refine nm ?_
   refine aw_seq ?_
   refine aw_block ?_
   refine aw_seq ?_
   refine aw_region ?_
   refine st_p (mv rfl) rfl ?_
   refine st_p (mva rfl) rfl ?_
   refine al_nil ?_
   refine nm ?_
   refine aw_block ?_
   refine aw_loop (fun p : {p : Nat × List Int // p.1 ≤ i ∧ p.2.length = l.length ∧ downL p.2 p.1 = sortL l i} => ⟨[(0, .own 0 0 l.length), (1, .int .i64 0), (2, .int .i64 l.length), (6, .int .i64 i), (7, .int .i64 p.1.1)], [(0, .cells 1 (ints p.1.2))], 1⟩) (fun p => p.1.1) ⟨(i, sortL l (i - 1)), by dsimp only; refine ⟨Nat.le_refl _, sortL_len _ _, ?_⟩; obtain ⟨q, rfl⟩ : ∃ q, i = q + 1 := ⟨i - 1, by omega⟩; rfl⟩ ?_ ?_
   ·exact le_to [] rfl rfl rfl rfl rfl ⟨rfl, rfl, rfl, rfl, rfl, trivial⟩ ⟨by rw [ren_intsB]; rfl, trivial⟩
   ·rintro ⟨⟨j, d⟩, k1, k2, k3⟩
    dsimp only at k1 k2 k3 ⊢
    have hdl : (ints d).length = d.length := ints_len d
    cases j with
    | zero =>
     refine aw_seq ?_
     refine aw_seq ?_
     refine dr_go ?_
     refine dr_f 0 0 [7] rfl (fun H => mv rfl) ?_
     refine dr_f 0 0 [1] rfl (fun H => mv rfl) ?_
     refine dr_f 0 0 [16, 17] rfl (fun H => OpP.conv (op_gt rfl rfl) (no (by first | assumption | omega))) ?_
     refine dr_f 0 0 [18] rfl (fun H => mv rfl) ?_
     refine dr_s 0 0 0 rfl rfl rfl ?_
     refine dr_s 0 0 1 rfl rfl rfl ?_
     refine dr_s 0 0 2 rfl rfl rfl ?_
     refine dr_s 0 0 3 rfl rfl rfl ?_
     refine dr_s 0 0 4 rfl rfl rfl ?_
     refine dr_s 0 0 5 rfl rfl rfl ?_
     refine dr_s 0 0 6 rfl rfl rfl ?_
     refine dr_s 0 0 7 rfl rfl rfl ?_
     refine dr_s 0 0 8 rfl rfl rfl ?_
     refine dr_s 0 0 9 rfl rfl rfl ?_
     refine dr_f 0 0 [19, 29] rfl (fun H => pkF rfl rfl) ?_
     refine dr_end [] (by kernel_rfl) (by kernel_rfl) (by kernel_rfl) (by kernel_rfl) trivial ?_
     refine nm ?_
     refine aw_no (rfl) ?_
     refine aw_exit ?_
     refine xs ?_
     refine xs ?_
     refine xb ?_
     refine nmb ?_
     refine nm ?_
     refine aw_region ?_
     refine st_p (mv rfl) rfl ?_
     refine st_p (op_addi rfl rfl (by omega)) rfl ?_
     refine st_p (mva rfl) rfl ?_
     refine al_nil ?_
     refine nm ?_
     refine ⟨⟨i + 1, by omega, by omega⟩, by dsimp only; omega, le_to [] rfl rfl rfl rfl rfl ⟨rfl, rfl, rfl, rfl, trivial⟩ ⟨?_, trivial⟩⟩
     rw [ren_intsB, show (i + 1 - 1) = i from rfl, ← k3]; rfl
    | succ q =>
     have hx : (ints d)[0 + ((q + 1 : Nat) : Int).toNat]? = some (.int .i64 (d.getD (q + 1) 0)) := by rw [Nat.zero_add, Int.toNat_natCast]; exact getD_some d _ (by omega)
     have hy : (ints d)[0 + (((q + 1 : Nat) : Int) - 1).toNat]? = some (.int .i64 (d.getD q 0)) := by rw [show 0 + (((q + 1 : Nat) : Int) - 1).toNat = q by omega]; exact getD_some d _ (by omega)
     have hz : ((ints d).set (0 + ((q + 1 : Nat) : Int).toNat) (.int .i64 (d.getD q 0)))[0 + (((q + 1 : Nat) : Int) - 1).toNat]? = some (.int .i64 (d.getD q 0)) := by
      rw [List.getElem?_set_ne (by omega)]; exact hy
     have hless := less_int (d.getD (q + 1) 0) (d.getD q 0)
     by_cases hlt : d.getD (q + 1) 0 < d.getD q 0
     ·rw [decide_eq_true hlt] at hless
      refine aw_seq ?_
      refine aw_seq ?_
      refine dr_go ?_
      refine dr_f 0 0 [7] rfl (fun H => mv rfl) ?_
      refine dr_f 0 0 [1] rfl (fun H => mv rfl) ?_
      refine dr_f 0 0 [16, 17] rfl (fun H => OpP.conv (op_gt rfl rfl) (yes (by first | assumption | omega))) ?_
      refine dr_f 0 0 [18] rfl (fun H => mv rfl) ?_
      refine dr_gf 0 0 [0] rfl (fun H => mv rfl) 0 rfl rfl ?_
      refine dr_gf 0 0 [7] rfl (fun H => mv rfl) 1 rfl rfl ?_
      refine dr_gq 0 0 [20, 21] rfl (op_indexAddr Try.underlying35 z3 rfl rfl rfl (by omega) (by omega)) 2 rfl rfl ?_
      refine dr_gq 0 0 [22] rfl (op_load1 Try.underlying3 rfl rfl rfl (by assumption) rfl) 3 rfl rfl ?_
      refine dr_gf 0 0 [0] rfl (fun H => mv rfl) 4 rfl rfl ?_
      refine dr_gf 0 0 [7] rfl (fun H => mv rfl) 5 rfl rfl ?_
      refine dr_gf 0 0 [25] rfl (fun H => op_subi rfl rfl (by omega)) 6 rfl rfl ?_
      refine dr_gq 0 0 [24, 26] rfl (op_indexAddr Try.underlying35 z3 rfl rfl rfl (by omega) (by omega)) 7 rfl rfl ?_
      refine dr_gq 0 0 [27] rfl (op_load1 Try.underlying3 rfl rfl rfl (by assumption) rfl) 8 rfl rfl ?_
      refine dr_gfq 0 0 [23, 28] rfl (fun H => op_callq (hless) Try.func108 ⟨rfl, rfl⟩ rfl rfl (fun nx => (.cons (.same (by rfl)) (.cons (.same (by rfl)) .nil))) (by rintro _ _ _ ⟨rfl, rfl, rfl⟩; exact .same rfl)) 9 rfl rfl ?_
      refine dr_f 0 0 [19, 29] rfl (fun H => pkT rfl rfl) ?_
      refine dr_end [] (by kernel_rfl) (by kernel_rfl) (by kernel_rfl) (by kernel_rfl) trivial ?_
      refine nm ?_
      refine aw_yes (rfl) ?_
      refine aw_skip ?_
      refine nm ?_
      refine aw_seq ?_
      refine aw_block ?_
      refine dr_go ?_
      refine dr_f 0 0 [0] rfl (fun H => mv rfl) ?_
      refine dr_f 0 0 [7] rfl (fun H => mv rfl) ?_
      refine dr_f 0 1 [0] rfl (fun H => mv rfl) ?_
      refine dr_f 0 1 [7] rfl (fun H => mv rfl) ?_
      refine dr_f 0 1 [36] rfl (fun H => op_subi rfl rfl (by omega)) ?_
      refine dr_f 0 0 [0] rfl (fun H => mv rfl) ?_
      refine dr_f 0 0 [7] rfl (fun H => mv rfl) ?_
      refine dr_f 0 0 [39] rfl (fun H => op_subi rfl rfl (by omega)) ?_
      refine dr_q 0 0 [38, 40] rfl (op_indexAddr Try.underlying35 z3 rfl rfl rfl (by omega) (by omega)) ?_
      refine dr_q 0 0 [41] rfl (op_load1 Try.underlying3 rfl rfl rfl (by assumption) rfl) ?_
      refine dr_f 0 0 [0] rfl (fun H => mv rfl) ?_
      refine dr_f 0 0 [7] rfl (fun H => mv rfl) ?_
      refine dr_q 0 0 [43, 44] rfl (op_indexAddr Try.underlying35 z3 rfl rfl rfl (by omega) (by omega)) ?_
      refine dr_q 0 0 [45] rfl (op_load1 Try.underlying3 rfl rfl rfl (by assumption) rfl) ?_
      refine dr_q 0 0 [33, 34] rfl (op_indexAddr Try.underlying35 z3 rfl rfl rfl (by omega) (by omega)) ?_
      refine dr_n 0 [47, 42] rfl (st1s z3 rfl rfl rfl (by assumption) rfl rfl rfl) ?_
      refine dr_q 1 1 [35, 37] rfl (op_indexAddr Try.underlying35 z3 rfl rfl rfl (by omega) (by omega)) ?_
      refine dr_n 1 [48, 46] rfl (st1s z3 rfl rfl rfl (by assumption) rfl rfl rfl) ?_
      refine dr_end [] (by kernel_rfl) (by kernel_rfl) (by kernel_rfl) (by kernel_rfl) trivial ?_
      refine nmb ?_
      refine nm ?_
      refine aw_region ?_
      refine st_p (mv rfl) rfl ?_
      refine st_p (op_subi rfl rfl (by omega)) rfl ?_
      refine st_p (mva rfl) rfl ?_
      refine al_nil ?_
      refine nm ?_
      rw [downL, if_pos hlt] at k3
      refine ⟨⟨(q, swapL d q), by dsimp only; refine ⟨by omega, by rw [swapL_len]; exact k2, k3⟩⟩, by dsimp only; omega, le_to [] rfl rfl rfl rfl rfl ⟨rfl, rfl, rfl, rfl, ?_, trivial⟩ ⟨?_, trivial⟩⟩
      ·show AV.int .i64 (((q + 1 : Nat) : Int) - 1) = AV.int .i64 (q : Int)
       congr 1
       omega
      ·rw [ren_intsB, ← ints_swap]; rfl
     ·rw [decide_eq_false hlt] at hless
      refine aw_seq ?_
      refine aw_seq ?_
      refine dr_go ?_
      refine dr_f 0 0 [7] rfl (fun H => mv rfl) ?_
      refine dr_f 0 0 [1] rfl (fun H => mv rfl) ?_
      refine dr_f 0 0 [16, 17] rfl (fun H => OpP.conv (op_gt rfl rfl) (yes (by first | assumption | omega))) ?_
      refine dr_f 0 0 [18] rfl (fun H => mv rfl) ?_
      refine dr_gf 0 0 [0] rfl (fun H => mv rfl) 0 rfl rfl ?_
      refine dr_gf 0 0 [7] rfl (fun H => mv rfl) 1 rfl rfl ?_
      refine dr_gq 0 0 [20, 21] rfl (op_indexAddr Try.underlying35 z3 rfl rfl rfl (by omega) (by omega)) 2 rfl rfl ?_
      refine dr_gq 0 0 [22] rfl (op_load1 Try.underlying3 rfl rfl rfl (by assumption) rfl) 3 rfl rfl ?_
      refine dr_gf 0 0 [0] rfl (fun H => mv rfl) 4 rfl rfl ?_
      refine dr_gf 0 0 [7] rfl (fun H => mv rfl) 5 rfl rfl ?_
      refine dr_gf 0 0 [25] rfl (fun H => op_subi rfl rfl (by omega)) 6 rfl rfl ?_
      refine dr_gq 0 0 [24, 26] rfl (op_indexAddr Try.underlying35 z3 rfl rfl rfl (by omega) (by omega)) 7 rfl rfl ?_
      refine dr_gq 0 0 [27] rfl (op_load1 Try.underlying3 rfl rfl rfl (by assumption) rfl) 8 rfl rfl ?_
      refine dr_gfq 0 0 [23, 28] rfl (fun H => op_callq (hless) Try.func108 ⟨rfl, rfl⟩ rfl rfl (fun nx => (.cons (.same (by rfl)) (.cons (.same (by rfl)) .nil))) (by rintro _ _ _ ⟨rfl, rfl, rfl⟩; exact .same rfl)) 9 rfl rfl ?_
      refine dr_f 0 0 [19, 29] rfl (fun H => pkT rfl rfl) ?_
      refine dr_end [] (by kernel_rfl) (by kernel_rfl) (by kernel_rfl) (by kernel_rfl) trivial ?_
      refine nm ?_
      refine aw_no (rfl) ?_
      refine aw_exit ?_
      refine xs ?_
      refine xs ?_
      refine xb ?_
      refine nmb ?_
      refine nm ?_
      refine aw_region ?_
      refine st_p (mv rfl) rfl ?_
      refine st_p (op_addi rfl rfl (by omega)) rfl ?_
      refine st_p (mva rfl) rfl ?_
      refine al_nil ?_
      refine nm ?_
      refine ⟨⟨i + 1, by omega, by omega⟩, by dsimp only; omega, le_to [] rfl rfl rfl rfl rfl ⟨rfl, rfl, rfl, rfl, trivial⟩ ⟨?_, trivial⟩⟩
      rw [ren_intsB, show (i + 1 - 1) = i from rfl, ← k3, downL, if_neg hlt]; rfl
  ·skip
   refine aw_seq ?_
   refine aw_seq ?_
   refine aw_region ?_
   refine st_p (mv rfl) rfl ?_
   refine st_p (mv rfl) rfl ?_
   refine st_p (OpP.conv (op_lt rfl rfl) (no (by first | assumption | omega))) rfl ?_
   refine al_nil ?_
   refine nm ?_
   refine aw_no (rfl) ?_
   refine aw_exit ?_
   refine xs ?_
   refine xs ?_
   refine xb ?_
   refine ret_n ⟨[], [(0, .cells 1 (ints (sortL l (i - 1))))], 1⟩ (le_to [] rfl rfl rfl rfl rfl trivial ⟨by rw [ren_intsB]; rfl, trivial⟩) (res0 Try.results102) (.inr ⟨rfl, ?_⟩) ⟨rfl, ?_, rfl⟩
   ·simp [Blk.nosl, AV.nosl, ints]
   ·have : i - 1 = l.length - 1 := by omega
    rw [this]


def bitsLen (n : Nat) : Int := if n = 0 then 0 else if n = 1 then 1 else if n ≤ 3 then 2 else if n ≤ 7 then 3 else 4
theorem bitsLen_le (n : Nat) : 0 ≤ bitsLen n ∧ bitsLen n ≤ 4 := by
 unfold bitsLen
 repeat' split
 all_goals omega

theorem wrap8 (n : Nat) (hn : n ≤ 12) : IntKind.u8.wrap (n : Int) = n := by
 match n, hn with
 | 0, _ | 1, _ | 2, _ | 3, _ | 4, _ | 5, _ | 6, _ | 7, _ | 8, _ | 9, _ | 10, _ | 11, _ | 12, _ => rfl

theorem wrap64 (n : Nat) (hn : n ≤ 12) : IntKind.u64.wrap (n : Int) = n := by
 match n, hn with
 | 0, _ | 1, _ | 2, _ | 3, _ | 4, _ | 5, _ | 6, _ | 7, _ | 8, _ | 9, _ | 10, _ | 11, _ | 12, _ => rfl

theorem bits_byte (n : Nat) (hn : n ≤ 12) (L : List UInt8) (h : L.take 13 = [0, 1, 2, 2, 3, 3, 3, 3, 4, 4, 4, 4, 4]) : L[(IntKind.u8.wrap (n : Int)).toNat]? = some (UInt8.ofNat (bitsLen n).toNat) := by
 have e : (IntKind.u8.wrap (n : Int)).toNat = n := by rw [wrap8 n hn]; rfl
 rw [e, ← List.getElem?_take_of_lt (show n < 13 by omega), h]
 match n, hn with
 | 0, _ | 1, _ | 2, _ | 3, _ | 4, _ | 5, _ | 6, _ | 7, _ | 8, _ | 9, _ | 10, _ | 11, _ | 12, _ => rfl

theorem bits_Len64 (n : Nat) (hn : n ≤ 12) : AC Try.prog 112 [.int .u64 (n : Int)] [] 0 false (fun v h nx => v = .int .i64 (bitsLen n) ∧ h = [] ∧ nx = 0) := by
 have hbyte := bits_byte n hn
 have h0 : 0 ≤ IntKind.u8.wrap (n : Int) := by rw [wrap8 n hn]; omega
 have hv : ((UInt8.ofNat (bitsLen n).toNat).toNat : Int) = bitsLen n := by
  have := bitsLen_le n
  have : (UInt8.ofNat (bitsLen n).toNat).toNat = (bitsLen n).toNat % 256 := rfl
  omega
 have hl := bitsLen_le n
 refine ac_fn Try.func112 rfl rfl rfl rfl (fun w0 S0 r0 => ?_)
 refine aw_seq ?_
 refine aw_region ?_
 refine st_p (mva rfl) rfl ?_
 refine al_nil ?_
 refine nm ?_
 refine aw_seq ?_
 refine aw_seq ?_
 refine aw_region ?_
 refine st_p (mv rfl) rfl ?_
 first | refine st_p (OpP.conv (op_ge rfl rfl) (yes (by first | assumption | omega))) rfl ?_ | refine st_p (OpP.conv (op_ge rfl rfl) (no (by first | assumption | omega))) rfl ?_ | refine st_p (op_ge rfl rfl) rfl ?_
 refine al_nil ?_
 refine nm ?_
 refine aw_no (rfl) ?_
 refine aw_skip ?_
 refine nm ?_
 refine aw_seq ?_
 refine aw_seq ?_
 refine aw_region ?_
 refine st_p (mv rfl) rfl ?_
 first | refine st_p (OpP.conv (op_ge rfl rfl) (yes (by first | assumption | omega))) rfl ?_ | refine st_p (OpP.conv (op_ge rfl rfl) (no (by first | assumption | omega))) rfl ?_ | refine st_p (op_ge rfl rfl) rfl ?_
 refine al_nil ?_
 refine nm ?_
 refine aw_no (rfl) ?_
 refine aw_skip ?_
 refine nm ?_
 refine aw_seq ?_
 refine aw_seq ?_
 refine aw_region ?_
 refine st_p (mv rfl) rfl ?_
 first | refine st_p (OpP.conv (op_ge rfl rfl) (yes (by first | assumption | omega))) rfl ?_ | refine st_p (OpP.conv (op_ge rfl rfl) (no (by first | assumption | omega))) rfl ?_ | refine st_p (op_ge rfl rfl) rfl ?_
 refine al_nil ?_
 refine nm ?_
 refine aw_no (rfl) ?_
 refine aw_skip ?_
 refine nm ?_
 refine aw_seq ?_
 refine aw_region ?_
 refine st_p (mv rfl) rfl ?_
 refine st_p (mv rfl) rfl ?_
 refine st_p (op_conv (by rw [Try.underlying146]; rfl) Try.underlying5 rfl) rfl ?_
 refine st_p (op_index Try.underlying9 rfl rfl (by omega) (by first | assumption | rfl | exact hbyte _ rfl)) rfl ?_
 first | refine st_p (op_convi (by rw [Try.underlying5]; rfl) Try.underlying3 rfl (by omega)) rfl ?_ | refine st_p (op_conv (by rw [Try.underlying5]; rfl) Try.underlying3 rfl) rfl ?_
 first | refine st_p (op_addi rfl rfl (by omega)) rfl ?_ | refine st_p (op_add rfl rfl) rfl ?_
 refine st_p (mva rfl) rfl ?_
 refine al_nil ?_
 refine nm ?_
 refine aw_ret ?_
 rw [hv, Int.zero_add]
 exact ret_v (res1 Try.results112) (.inr ⟨rfl, rfl⟩) ⟨rfl, rfl, rfl⟩

theorem bits_Len (n : Nat) (hn : n ≤ 12) : AC Try.prog 85 [.int .u64 (IntKind.u64.wrap (n : Int))] [] 0 false (fun v h nx => v = .int .i64 (bitsLen n) ∧ h = [] ∧ nx = 0) := by
 have hb := bits_Len64 n hn
 rw [wrap64 n hn]
 refine ac_fn Try.func85 rfl rfl rfl rfl (fun w0 S0 r0 => ?_)
 refine aw_seq ?_
 refine aw_region ?_
 refine st_p (mva rfl) rfl ?_
 refine al_nil ?_
 refine nm ?_
 refine aw_seq ?_
 refine aw_no (rfl) ?_
 refine aw_skip ?_
 refine nm ?_
 refine aw_seq ?_
 refine aw_region ?_
 refine st_p (mv rfl) rfl ?_
 refine st_o ((op_callq (hb) Try.func112 ⟨rfl, rfl⟩ rfl rfl (fun nx => (.cons (.same (by rfl)) .nil)) (by rintro _ _ _ ⟨rfl, rfl, rfl⟩; exact .same rfl)).ok) rfl ?_
 refine st_p (mva rfl) rfl ?_
 refine al_nil ?_
 refine nm ?_
 refine aw_ret ?_
 exact ret_v (res1 Try.results85) (.inr ⟨rfl, rfl⟩) ⟨rfl, rfl, rfl⟩

theorem pdq_few (l : List Int) (k : Int) (hl : l.length ≤ 12) :
  AC Try.prog 84 [.own 0 0 l.length, .int .i64 0, .int .i64 l.length, .int .i64 k] [(0, .cells 1 (ints l))] 1 false (fun v h nx => v = .tup [] ∧ h = [(0, .cells 1 (ints (sortL l (l.length - 1))))] ∧ nx = 1) := by
 have hi := insertion l (by omega)
 refine ac_fn Try.func84 rfl rfl rfl rfl (fun w0 S0 r0 => ?_)
 refine aw_seq ?_
 refine aw_region ?_
 refine st_p (mva rfl) rfl ?_
 refine al_nil ?_
 refine nm ?_
 refine aw_seq ?_
 refine aw_region ?_
 refine st_p (mva rfl) rfl ?_
 refine al_nil ?_
 refine nm ?_
 refine aw_block ?_
 refine aw_loop (fun _ : Unit => ⟨[(0, .own 0 0 l.length), (1, .int .i64 0), (2, .int .i64 l.length)], [(0, .cells 1 (ints l))], 1⟩) (fun _ => 0) () ?_ ?_
 ·exact le_to [] rfl rfl rfl rfl rfl ⟨rfl, rfl, rfl, trivial⟩ ⟨by rw [ren_intsB]; rfl, trivial⟩
 ·rintro ⟨⟩
  refine aw_block ?_
  refine aw_seq ?_
  refine aw_region ?_
  refine st_p (mv rfl) rfl ?_
  refine st_p (mv rfl) rfl ?_
  refine st_p (op_subi rfl rfl (by omega)) rfl ?_
  refine st_p (mva rfl) rfl ?_
  refine al_nil ?_
  refine nm ?_
  refine aw_seq ?_
  refine aw_seq ?_
  refine aw_region ?_
  refine st_p (mv rfl) rfl ?_
  refine st_p (OpP.conv (op_le rfl rfl) (yes (by first | assumption | omega))) rfl ?_
  refine al_nil ?_
  refine nm ?_
  refine aw_yes (rfl) ?_
  refine aw_seq ?_
  refine aw_region ?_
  refine st_p (mv rfl) rfl ?_
  refine st_p (mv rfl) rfl ?_
  refine st_p (mv rfl) rfl ?_
  refine st_o (op_callg [(0, 0)] 1 false [(0, .cells 1 (ints l))] [0] (hi) Try.func102 ⟨rfl, rfl⟩ rfl rfl rfl rfl (by omega) (by intro p hp; simp only [List.mem_cons, List.not_mem_nil, or_false] at hp; rcases hp with rfl | rfl <;> exact ⟨by first | rfl | ((simp [hget, swp, Blk.ren, AV.ren, ints, Function.comp_def]) <;> rfl), rfl⟩) rfl (.cons (.same (by rfl)) (.cons (.same (by rfl)) (.cons (.same (by rfl)) .nil))) rfl rfl rfl) rfl ?_
  refine al_nil ?_
  refine nm ?_
  refine aw_ret ?_
  refine rs ?_
  refine rb ?_
  refine rs ?_
  refine rb ?_
  refine ret_a ⟨[], [(0, .cells 1 (ints (sortL l (l.length - 1))))], 1⟩ (le_to [] rfl rfl rfl rfl rfl trivial ⟨by simp only [List.map_cons, List.map_nil, ren_intsB]; rfl, trivial⟩) (res0 Try.results84) (.inr ⟨rfl, ?_⟩) ⟨rfl, rfl, rfl⟩
  simp [Blk.nosl, AV.nosl, ints]

theorem sort_few (l : List Int) (hl : l.length ≤ 12) :
  AC Try.prog 59 [.own 0 0 l.length] [(0, .cells 1 (ints l))] 1 false (fun v h nx => v = .tup [] ∧ h = [(0, .cells 1 (ints (sortL l (l.length - 1))))] ∧ nx = 1) := by
 have hb := bits_Len l.length hl
 have hp := pdq_few l (bitsLen l.length) hl
 refine ac_fn Try.func59 rfl rfl rfl rfl (fun w0 S0 r0 => ?_)
 refine aw_seq ?_
 refine aw_region ?_
 refine st_p (mv rfl) rfl ?_
 refine st_p (op_leno Try.underlying35 rfl) rfl ?_
 refine st_p (mva rfl) rfl ?_
 refine al_nil ?_
 refine nm ?_
 refine aw_region ?_
 refine st_p (mv rfl) rfl ?_
 refine st_p (mv rfl) rfl ?_
 refine st_p (mv rfl) rfl ?_
 refine st_p (op_conv (by rw [Try.underlying3]; rfl) Try.underlying116 rfl) rfl ?_
 refine st_o ((op_callq (hb) Try.func85 ⟨rfl, rfl⟩ rfl rfl (fun nx => (.cons (.same (by rfl)) .nil)) (by rintro _ _ _ ⟨rfl, rfl, rfl⟩; exact .same rfl)).ok) rfl ?_
 refine st_o (op_callg [(0, 0)] 1 false [(0, .cells 1 (ints l))] [0] (hp) Try.func84 ⟨rfl, rfl⟩ rfl rfl rfl rfl (by omega) (by intro p hp; simp only [List.mem_cons, List.not_mem_nil, or_false] at hp; rcases hp with rfl | rfl <;> exact ⟨by first | rfl | ((simp [hget, swp, Blk.ren, AV.ren, ints, Function.comp_def]) <;> rfl), rfl⟩) rfl (.cons (.same (by rfl)) (.cons (.same (by rfl)) (.cons (.same (by rfl)) (.cons (.same (by rfl)) .nil)))) rfl rfl rfl) rfl ?_
 refine al_nil ?_
 refine ret_n ⟨[], [(0, .cells 1 (ints (sortL l (l.length - 1))))], 1⟩ (le_to [] rfl rfl rfl rfl rfl trivial ⟨by simp only [List.map_cons, List.map_nil, ren_intsB]; rfl, trivial⟩) (res0 Try.results59) (.inr ⟨rfl, ?_⟩) ⟨rfl, rfl, rfl⟩
 simp [Blk.nosl, AV.nosl, ints]

end Go.Proofs.Ytpggknkhldecaaa.Abs
end
section
namespace Go.Proofs.Ytpggknkhldecaaa.Abs

theorem op_clearP {P : Program} {tm : List (Nat × AV)} {h : Heap} {nx : Nat} {t e : TypeId} {x : Operand} {z : Value} {sz bytes b st len : Nat} {xs : List AV} {h' : Heap} (hu : P.underlying t = some (.slice e)) (hi : (P.info? e).map (fun i => (i.zero, i.size, i.bytes)) = some (some z, sz, bytes)) (hzs : z.cells.size = sz ∧ ∀ (i : Nat) (u : Value), z.cells[i]? = some u → u.oneCell' = true)
  (hx : oev tm x = .own b st len) (hlen : 0 < len) (hb : hget h b = some (.cells sz xs)) (hst : st ≤ xs.length) (hh : hset h b (.cells sz (xs.take st)) = h') :
  OpOK P (.call { callee := .builtin .clear, args := #[x], argTypes := #[t] }) ⟨tm, h, nx⟩ (.tup []) h' nx := by
 obtain ⟨m, rfl⟩ : ∃ m, len = m + 1 := ⟨len - 1, by omega⟩
 exact op_clear hu hi hzs hx hb hst hh

end Go.Proofs.Ytpggknkhldecaaa.Abs
end
section
namespace Go.Proofs.Ytpggknkhldecaaa.Abs

def adjL : List Int → List Int
 | [] => []
 | [a] => [a]
 | a :: b :: t => if a = b then adjL (b :: t) else a :: adjL (b :: t)

theorem adjL_snoc : ∀ (m : List Int) (y x : Int), adjL (m ++ [y, x]) = if y = x then adjL (m ++ [y]) else adjL (m ++ [y]) ++ [x] := by
 intro m
 induction m with
 | nil =>
  intro y x
  simp only [List.nil_append, adjL]
  by_cases h : y = x <;> simp [h]
 | cons a m ih =>
  intro y x
  cases m with
  | nil =>
   simp only [List.cons_append, List.nil_append, adjL]
   by_cases h1 : a = y <;> by_cases h2 : y = x <;> simp [h1, h2]
  | cons b m =>
   have := ih y x
   simp only [List.cons_append, adjL] at this ⊢
   rw [this]
   by_cases h1 : a = b <;> by_cases h2 : y = x <;> simp [h1, h2]

theorem adjL_take (l : List Int) (k : Nat) (h0 : 1 ≤ k) (hk : k < l.length) : adjL (l.take (k + 1)) = if l.getD k 0 = l.getD (k - 1) 0 then adjL (l.take k) else adjL (l.take k) ++ [l.getD k 0] := by
 obtain ⟨q, rfl⟩ : ∃ q, k = q + 1 := ⟨k - 1, by omega⟩
 have e1 : l.take (q + 1) = l.take q ++ [l.getD q 0] := by
  rw [List.take_add_one, List.getD_eq_getElem?_getD, List.getElem?_eq_getElem (by omega)]; rfl
 have e2 : l.take (q + 1 + 1) = l.take q ++ [l.getD q 0, l.getD (q + 1) 0] := by
  rw [List.take_add_one, e1, List.append_assoc, List.getD_eq_getElem?_getD (i := q + 1), List.getElem?_eq_getElem hk]; rfl
 rw [e2, e1, adjL_snoc, show q + 1 - 1 = q from rfl]
 by_cases h : l.getD q 0 = l.getD (q + 1) 0
 ·rw [if_pos h, if_pos h.symm]
 ·rw [if_neg h, if_neg (fun e => h e.symm)]

theorem ints_take (l : List Int) (k : Nat) : (ints l).take k = ints (l.take k) := by simp [ints, List.map_take]
theorem ints_set (l : List Int) (k : Nat) (x : Int) : (ints l).set k (.int .i64 x) = ints (l.set k x) := by simp [ints, List.map_set]

set_option maxHeartbeats 4000000 in
theorem compact_ints (l : List Int) (hl : l.length ≤ 1000000) :
  AC Try.prog 60 [.own 0 0 l.length] [(0, .cells 1 (ints l))] 1 false (fun v h nx => v = .own 0 0 (adjL l).length ∧ h = [(0, .cells 1 (ints (adjL l)))] ∧ nx = 1) := by
 have hil : (ints l).length = l.length := ints_len l
 have hns : ∀ m : List Int, (Blk.cells 1 (ints m)).nosl = true := fun m => by simp [Blk.nosl, AV.nosl, ints]
 by_cases h2 : l.length < 2
 ·have ha : adjL l = l := by
   match l, h2 with
   | [], _ => rfl
   | [a], _ => rfl
   | a :: b :: t, h2 => simp at h2; omega
  refine ac_fn Try.func60 rfl rfl rfl rfl (fun w0 S0 r0 => ?_)
  refine aw_seq ?_
  refine aw_region ?_
  refine st_p (mva rfl) rfl ?_
  refine al_nil ?_
  refine nm ?_
  refine aw_seq ?_
  refine aw_seq ?_
  refine aw_region ?_
  refine st_p (mv rfl) rfl ?_
  refine st_p (op_leno Try.underlying35 rfl) rfl ?_
  refine st_p (OpP.conv (op_lt rfl rfl) (yes (by first | assumption | omega))) rfl ?_
  refine al_nil ?_
  refine nm ?_
  refine aw_yes (rfl) ?_
  refine aw_seq ?_
  refine aw_region ?_
  refine st_p (mv rfl) rfl ?_
  refine st_p (mva rfl) rfl ?_
  refine al_nil ?_
  refine nm ?_
  refine aw_ret ?_
  refine rs ?_
  rw [ha]
  exact ret_a ⟨[(2, .own 0 0 l.length)], [(0, .cells 1 (ints l))], 1⟩ (le_to [] rfl rfl rfl rfl rfl ⟨rfl, trivial⟩ ⟨by rw [ren_intsB]; rfl, trivial⟩) (res1 Try.results60) (.inr ⟨rfl, by simp only [List.all_cons, List.all_nil, hns, Bool.and_true]⟩) ⟨rfl, rfl, rfl⟩
 ·skip
  refine ac_fn Try.func60 rfl rfl rfl rfl (fun w0 S0 r0 => ?_)
  refine aw_seq ?_
  refine aw_region ?_
  refine st_p (mva rfl) rfl ?_
  refine al_nil ?_
  refine nm ?_
  refine aw_seq ?_
  refine aw_seq ?_
  refine aw_region ?_
  refine st_p (mv rfl) rfl ?_
  refine st_p (op_leno Try.underlying35 rfl) rfl ?_
  refine st_p (OpP.conv (op_lt rfl rfl) (no (by first | assumption | omega))) rfl ?_
  refine al_nil ?_
  refine nm ?_
  refine aw_no (rfl) ?_
  refine aw_skip ?_
  refine nm ?_
  refine aw_seq ?_
  refine aw_seq ?_
  refine aw_region ?_
  refine st_p (mva rfl) rfl ?_
  refine al_nil ?_
  refine nm ?_
  refine aw_block ?_
  refine aw_loop (fun k : {k : Nat // 1 ≤ k ∧ k ≤ l.length ∧ adjL (l.take k) = l.take k} => ⟨[(0, .own 0 0 l.length), (3, .int .i64 k.1)], [(0, .cells 1 (ints l))], 1⟩) (fun k => l.length - k.1) ⟨1, Nat.le_refl _, by omega, by cases l <;> simp [adjL]⟩ ?_ ?_
  ·exact le_to [] rfl rfl rfl rfl rfl ⟨rfl, rfl, trivial⟩ ⟨by rw [ren_intsB]; rfl, trivial⟩
  ·rintro ⟨k, k1, k2, k3⟩
   dsimp only
   by_cases hk : k < l.length
   ·have hx : (ints l)[0 + ((k : Nat) : Int).toNat]? = some (.int .i64 (l.getD k 0)) := by rw [Nat.zero_add, Int.toNat_natCast]; exact getD_some l _ hk
    have hy : (ints l)[0 + (((k : Nat) : Int) - 1).toNat]? = some (.int .i64 (l.getD (k - 1) 0)) := by rw [show 0 + (((k : Nat) : Int) - 1).toNat = k - 1 by omega]; exact getD_some l _ (by omega)
    have ht := adjL_take l k k1 hk
    by_cases he : l.getD k 0 = l.getD (k - 1) 0
    ·rw [if_pos he] at ht
     refine aw_seq ?_
     refine aw_seq ?_
     refine aw_region ?_
     refine st_p (mv rfl) rfl ?_
     refine st_p (mv rfl) rfl ?_
     refine st_p (op_leno Try.underlying35 rfl) rfl ?_
     refine st_p (OpP.conv (op_lt rfl rfl) (yes (by first | assumption | omega))) rfl ?_
     refine al_nil ?_
     refine nm ?_
     refine aw_yes (rfl) ?_
     refine aw_skip ?_
     refine nm ?_
     refine aw_seq ?_
     refine aw_block ?_
     refine aw_seq ?_
     refine dr_go ?_
     refine dr_f 0 0 [0] rfl (fun H => mv rfl) ?_
     refine dr_f 0 0 [3] rfl (fun H => mv rfl) ?_
     refine dr_q 0 0 [16, 17] rfl (op_indexAddr Try.underlying35 z3 rfl rfl rfl (by omega) (by omega)) ?_
     refine dr_q 0 0 [18] rfl (op_load1 Try.underlying3 rfl rfl rfl (by assumption) rfl) ?_
     refine dr_f 0 0 [0] rfl (fun H => mv rfl) ?_
     refine dr_f 0 0 [3] rfl (fun H => mv rfl) ?_
     refine dr_f 0 0 [21] rfl (fun H => op_subi rfl rfl (by omega)) ?_
     refine dr_q 0 0 [20, 22] rfl (op_indexAddr Try.underlying35 z3 rfl rfl rfl (by omega) (by omega)) ?_
     refine dr_q 0 0 [23] rfl (op_load1 Try.underlying3 rfl rfl rfl (by assumption) rfl) ?_
     refine dr_f 0 0 [19, 24] rfl (fun H => OpP.conv (op_eq rfl rfl) (yes (by first | assumption | omega))) ?_
     refine dr_end [] (by kernel_rfl) (by kernel_rfl) (by kernel_rfl) (by kernel_rfl) trivial ?_
     refine nm ?_
     refine aw_yes (rfl) ?_
     refine aw_seq ?_
     refine aw_region ?_
     refine st_p (mv rfl) rfl ?_
     refine st_p (mv rfl) rfl ?_
     refine st_p (op_slice Try.underlying35 z3 rfl rfl (by exact ⟨_, rfl⟩) (by exact rfl) (by first | omega | (simp only [bl_len, List.length_map, List.length_append, List.length_take, List.length_drop]; omega)) (by first | omega | (simp only [bl_len, List.length_map, List.length_append, List.length_take, List.length_drop]; omega)) (by first | omega | (simp only [bl_len, List.length_map, List.length_append, List.length_take, List.length_drop]; omega))) rfl ?_
     refine st_p (mva rfl) rfl ?_
     refine al_nil ?_
     refine nm ?_
     refine aw_seq ?_
     refine aw_seq ?_
     refine aw_region ?_
     refine st_p (mva rfl) rfl ?_
     refine al_nil ?_
     refine nm ?_
     refine aw_block ?_
     have hk3 : adjL (l.take (k + 1)) = l.take k := ht.trans k3
     refine aw_loop (fun p : {p : Nat × List Int × Nat // k ≤ p.1 ∧ p.1 < k + p.2.2 ∧ 1 ≤ p.2.2 ∧ k + p.2.2 ≤ l.length ∧ p.2.1.length = l.length ∧ (∀ j, k + p.2.2 - 1 ≤ j → p.2.1.getD j 0 = l.getD j 0) ∧ p.2.1.take p.1 = adjL (l.take (k + p.2.2))} => ⟨[(0, .own 0 0 l.length), (3, .int .i64 p.1.1), (4, .own 0 k (l.length - k)), (5, .int .i64 p.1.2.2)], [(0, .cells 1 (ints p.1.2.1))], 1⟩) (fun p => l.length - p.1.2.2) ⟨(k, l, 1), by dsimp only; exact ⟨Nat.le_refl _, by omega, Nat.le_refl _, by omega, rfl, fun _ _ => rfl, hk3.symm⟩⟩ ?_ ?_
     ·refine le_to [] rfl rfl rfl rfl rfl ⟨rfl, rfl, ?_, rfl, trivial⟩ ⟨by rw [ren_intsB]; rfl, trivial⟩
      show AV.own 0 (0 + ((k : Nat) : Int).toNat) (((l.length : Nat) : Int).toNat - ((k : Nat) : Int).toNat) = AV.own 0 k (l.length - k)
      simp
     ·rintro ⟨⟨m, d, q⟩, m1, m2, m3, m4, m5, m6, m7⟩
      dsimp only at m1 m2 m3 m4 m5 m6 m7 ⊢
      have hdl : (ints d).length = d.length := ints_len d
      by_cases hq : q < l.length - k
      ·have hx : (ints d)[k + ((q : Nat) : Int).toNat]? = some (.int .i64 (l.getD (k + q) 0)) := by rw [Int.toNat_natCast, ← m6 (k + q) (by omega)]; exact getD_some d _ (by omega)
       have hy : (ints d)[k + (((q : Nat) : Int) - 1).toNat]? = some (.int .i64 (l.getD (k + q - 1) 0)) := by rw [show k + (((q : Nat) : Int) - 1).toNat = k + q - 1 by omega, ← m6 (k + q - 1) (by omega)]; exact getD_some d _ (by omega)
       have ht2 := adjL_take l (k + q) (by omega) (by omega)
       by_cases he2 : l.getD (k + q) 0 = l.getD (k + q - 1) 0
       ·rw [if_pos he2] at ht2
        refine aw_seq ?_
        refine aw_seq ?_
        refine aw_region ?_
        refine st_p (mv rfl) rfl ?_
        refine st_p (mv rfl) rfl ?_
        refine st_p (op_leno Try.underlying35 rfl) rfl ?_
        refine st_p (OpP.conv (op_lt rfl rfl) (yes (by first | assumption | omega))) rfl ?_
        refine al_nil ?_
        refine nm ?_
        refine aw_yes (rfl) ?_
        refine aw_skip ?_
        refine nm ?_
        refine aw_seq ?_
        refine aw_block ?_
        refine aw_seq ?_
        refine dr_go ?_
        refine dr_f 0 0 [4] rfl (fun H => mv rfl) ?_
        refine dr_f 0 0 [5] rfl (fun H => mv rfl) ?_
        refine dr_q 0 0 [35, 36] rfl (op_indexAddr Try.underlying35 z3 rfl rfl rfl (by omega) (by omega)) ?_
        refine dr_q 0 0 [37] rfl (op_load1 Try.underlying3 rfl rfl rfl (by assumption) rfl) ?_
        refine dr_f 0 0 [4] rfl (fun H => mv rfl) ?_
        refine dr_f 0 0 [5] rfl (fun H => mv rfl) ?_
        refine dr_f 0 0 [40] rfl (fun H => op_subi rfl rfl (by omega)) ?_
        refine dr_q 0 0 [39, 41] rfl (op_indexAddr Try.underlying35 z3 rfl rfl rfl (by omega) (by omega)) ?_
        refine dr_q 0 0 [42] rfl (op_load1 Try.underlying3 rfl rfl rfl (by assumption) rfl) ?_
        refine dr_f 0 0 [38, 43] rfl (fun H => OpP.conv (op_ne rfl rfl) (no (by first | assumption | omega))) ?_
        refine dr_end [] (by kernel_rfl) (by kernel_rfl) (by kernel_rfl) (by kernel_rfl) trivial ?_
        refine nm ?_
        refine aw_no (rfl) ?_
        refine aw_skip ?_
        refine nmb ?_
        refine nm ?_
        refine aw_region ?_
        refine st_p (mv rfl) rfl ?_
        refine st_p (op_addi rfl rfl (by omega)) rfl ?_
        refine st_p (mva rfl) rfl ?_
        refine al_nil ?_
        refine nm ?_
        refine ⟨⟨(m, d, q + 1), by dsimp only; exact ⟨m1, by omega, by omega, by omega, m5, fun j hj => m6 j (by omega), by rw [m7, ← ht2]; rfl⟩⟩, by dsimp only; omega, le_to [] rfl rfl rfl rfl rfl ⟨rfl, rfl, rfl, rfl, trivial⟩ ⟨by rw [ren_intsB]; rfl, trivial⟩⟩
       ·rw [if_neg he2] at ht2
        have hs : (ints d)[0 + ((m : Nat) : Int).toNat]? = some (.int .i64 (d.getD m 0)) := by rw [Nat.zero_add, Int.toNat_natCast]; exact getD_some d _ (by omega)
        refine aw_seq ?_
        refine aw_seq ?_
        refine aw_region ?_
        refine st_p (mv rfl) rfl ?_
        refine st_p (mv rfl) rfl ?_
        refine st_p (op_leno Try.underlying35 rfl) rfl ?_
        refine st_p (OpP.conv (op_lt rfl rfl) (yes (by first | assumption | omega))) rfl ?_
        refine al_nil ?_
        refine nm ?_
        refine aw_yes (rfl) ?_
        refine aw_skip ?_
        refine nm ?_
        refine aw_seq ?_
        refine aw_block ?_
        refine aw_seq ?_
        refine dr_go ?_
        refine dr_f 0 0 [4] rfl (fun H => mv rfl) ?_
        refine dr_f 0 0 [5] rfl (fun H => mv rfl) ?_
        refine dr_q 0 0 [35, 36] rfl (op_indexAddr Try.underlying35 z3 rfl rfl rfl (by omega) (by omega)) ?_
        refine dr_q 0 0 [37] rfl (op_load1 Try.underlying3 rfl rfl rfl (by assumption) rfl) ?_
        refine dr_f 0 0 [4] rfl (fun H => mv rfl) ?_
        refine dr_f 0 0 [5] rfl (fun H => mv rfl) ?_
        refine dr_f 0 0 [40] rfl (fun H => op_subi rfl rfl (by omega)) ?_
        refine dr_q 0 0 [39, 41] rfl (op_indexAddr Try.underlying35 z3 rfl rfl rfl (by omega) (by omega)) ?_
        refine dr_q 0 0 [42] rfl (op_load1 Try.underlying3 rfl rfl rfl (by assumption) rfl) ?_
        refine dr_f 0 0 [38, 43] rfl (fun H => OpP.conv (op_ne rfl rfl) (yes (by first | assumption | omega))) ?_
        refine dr_end [] (by kernel_rfl) (by kernel_rfl) (by kernel_rfl) (by kernel_rfl) trivial ?_
        refine nm ?_
        refine aw_yes (rfl) ?_
        refine aw_seq ?_
        refine aw_region ?_
        refine st_p (mv rfl) rfl ?_
        refine st_p (mv rfl) rfl ?_
        refine st_p (mv rfl) rfl ?_
        refine st_p (mv rfl) rfl ?_
        refine st_p (op_indexAddr Try.underlying35 z3 rfl rfl rfl (by omega) (by omega)) rfl ?_
        refine st_p (op_load1 Try.underlying3 rfl rfl rfl (by assumption) rfl) rfl ?_
        refine st_p (op_indexAddr Try.underlying35 z3 rfl rfl rfl (by omega) (by omega)) rfl ?_
        refine st_n (st1s z3 rfl rfl rfl (by assumption) rfl rfl rfl) ?_
        refine al_nil ?_
        refine nm ?_
        refine aw_region ?_
        refine st_p (mv rfl) rfl ?_
        refine st_p (op_addi rfl rfl (by omega)) rfl ?_
        refine st_p (mva rfl) rfl ?_
        refine al_nil ?_
        refine nmb ?_
        refine nm ?_
        refine aw_region ?_
        refine st_p (mv rfl) rfl ?_
        refine st_p (op_addi rfl rfl (by omega)) rfl ?_
        refine st_p (mva rfl) rfl ?_
        refine al_nil ?_
        refine nm ?_
        have hA : ∀ j, k + (q + 1) - 1 ≤ j → (d.set m (l.getD (k + q) 0)).getD j 0 = l.getD j 0 := fun j hj => by
         rw [List.getD_eq_getElem?_getD, List.getElem?_set_ne (by omega), ← List.getD_eq_getElem?_getD]
         exact m6 j (by omega)
        have hB : (d.set m (l.getD (k + q) 0)).take (m + 1) = adjL (l.take (k + (q + 1))) := by
         rw [show k + (q + 1) = k + q + 1 from rfl, ht2, ← m7, List.take_add_one, List.getElem?_set_self (by omega), List.take_set_of_le (Nat.le_refl _)]
         rfl
        refine ⟨⟨(m + 1, d.set m (l.getD (k + q) 0), q + 1), by dsimp only; exact ⟨by omega, by omega, by omega, by omega, by rw [List.length_set]; exact m5, hA, hB⟩⟩, by dsimp only; omega, le_to [] rfl rfl rfl rfl rfl ⟨rfl, rfl, rfl, rfl, trivial⟩ ⟨?_, trivial⟩⟩
        rw [ren_intsB, ← ints_set]
        show some (Blk.cells 1 ((ints d).set (0 + ((m : Nat) : Int).toNat) _)) = _
        rw [Nat.zero_add, Int.toNat_natCast]
      ·skip
       refine aw_seq ?_
       refine aw_seq ?_
       refine aw_region ?_
       refine st_p (mv rfl) rfl ?_
       refine st_p (mv rfl) rfl ?_
       refine st_p (op_leno Try.underlying35 rfl) rfl ?_
       refine st_p (OpP.conv (op_lt rfl rfl) (no (by first | assumption | omega))) rfl ?_
       refine al_nil ?_
       refine nm ?_
       refine aw_no (rfl) ?_
       refine aw_exit ?_
       refine xs ?_
       refine xs ?_
       refine xb ?_
       refine nm ?_
       refine aw_seq ?_
       refine aw_region ?_
       refine st_p (mv rfl) rfl ?_
       refine st_p (mv rfl) rfl ?_
       refine st_p (op_slice Try.underlying35 z3 rfl rfl (by exact ⟨_, rfl⟩) (by exact rfl) (by first | omega | (simp only [bl_len, List.length_map, List.length_append, List.length_take, List.length_drop]; omega)) (by first | omega | (simp only [bl_len, List.length_map, List.length_append, List.length_take, List.length_drop]; omega)) (by first | omega | (simp only [bl_len, List.length_map, List.length_append, List.length_take, List.length_drop]; omega))) rfl ?_
       refine st_n (op_clearP Try.underlying35 i3 o3 rfl (by omega) rfl (by omega) rfl) ?_
       refine al_nil ?_
       refine nm ?_
       refine aw_seq ?_
       refine aw_region ?_
       refine st_p (mv rfl) rfl ?_
       refine st_p (mv rfl) rfl ?_
       refine st_p (op_slice Try.underlying35 z3 rfl rfl (by exact rfl) (by exact ⟨_, rfl⟩) (by first | omega | (simp only [bl_len, List.length_map, List.length_append, List.length_take, List.length_drop]; omega)) (by first | omega | (simp only [bl_len, List.length_map, List.length_append, List.length_take, List.length_drop]; omega)) (by first | omega | (simp only [bl_len, List.length_map, List.length_append, List.length_take, List.length_drop]; omega))) rfl ?_
       refine st_p (mva rfl) rfl ?_
       refine al_nil ?_
       refine nm ?_
       refine aw_ret ?_
       refine rb ?_
       refine rs ?_
       refine rs ?_
       refine rb ?_
       refine rs ?_
       rw [show k + q = l.length by omega, List.take_length] at m7
       have hml : (adjL l).length = m := by rw [← m7, List.length_take]; omega
       refine ret_a ⟨[(2, .own 0 0 (adjL l).length)], [(0, .cells 1 (ints (adjL l)))], 1⟩ (le_to [] rfl rfl rfl rfl rfl ⟨?_, trivial⟩ ⟨?_, trivial⟩) (res1 Try.results60) (.inr ⟨rfl, by simp only [List.all_cons, List.all_nil, hns, Bool.and_true]⟩) ⟨rfl, rfl, rfl⟩
       ·show AV.own 0 (0 + Int.toNat 0) (((m : Nat) : Int).toNat - Int.toNat 0) = AV.own 0 0 (adjL l).length
        rw [hml]; simp
       ·rw [ren_intsB]
        show some (Blk.cells 1 ((ints d).take (0 + ((m : Nat) : Int).toNat))) = _
        rw [Nat.zero_add, Int.toNat_natCast, ints_take, m7]
    ·rw [if_neg he] at ht
     refine aw_seq ?_
     refine aw_seq ?_
     refine aw_region ?_
     refine st_p (mv rfl) rfl ?_
     refine st_p (mv rfl) rfl ?_
     refine st_p (op_leno Try.underlying35 rfl) rfl ?_
     refine st_p (OpP.conv (op_lt rfl rfl) (yes (by first | assumption | omega))) rfl ?_
     refine al_nil ?_
     refine nm ?_
     refine aw_yes (rfl) ?_
     refine aw_skip ?_
     refine nm ?_
     refine aw_seq ?_
     refine aw_block ?_
     refine aw_seq ?_
     refine dr_go ?_
     refine dr_f 0 0 [0] rfl (fun H => mv rfl) ?_
     refine dr_f 0 0 [3] rfl (fun H => mv rfl) ?_
     refine dr_q 0 0 [16, 17] rfl (op_indexAddr Try.underlying35 z3 rfl rfl rfl (by omega) (by omega)) ?_
     refine dr_q 0 0 [18] rfl (op_load1 Try.underlying3 rfl rfl rfl (by assumption) rfl) ?_
     refine dr_f 0 0 [0] rfl (fun H => mv rfl) ?_
     refine dr_f 0 0 [3] rfl (fun H => mv rfl) ?_
     refine dr_f 0 0 [21] rfl (fun H => op_subi rfl rfl (by omega)) ?_
     refine dr_q 0 0 [20, 22] rfl (op_indexAddr Try.underlying35 z3 rfl rfl rfl (by omega) (by omega)) ?_
     refine dr_q 0 0 [23] rfl (op_load1 Try.underlying3 rfl rfl rfl (by assumption) rfl) ?_
     refine dr_f 0 0 [19, 24] rfl (fun H => OpP.conv (op_eq rfl rfl) (no (by first | assumption | omega))) ?_
     refine dr_end [] (by kernel_rfl) (by kernel_rfl) (by kernel_rfl) (by kernel_rfl) trivial ?_
     refine nm ?_
     refine aw_no (rfl) ?_
     refine aw_skip ?_
     refine nmb ?_
     refine nm ?_
     refine aw_region ?_
     refine st_p (mv rfl) rfl ?_
     refine st_p (op_addi rfl rfl (by omega)) rfl ?_
     refine st_p (mva rfl) rfl ?_
     refine al_nil ?_
     refine nm ?_
     refine ⟨⟨k + 1, by omega, hk, ?_⟩, by dsimp only; omega, le_to [] rfl rfl rfl rfl rfl ⟨rfl, rfl, trivial⟩ ⟨by rw [ren_intsB]; rfl, trivial⟩⟩
     rw [ht, k3, List.take_add_one, List.getD_eq_getElem?_getD, List.getElem?_eq_getElem hk]; rfl
   ·have ha : adjL l = l := by rw [List.take_of_length_le (by omega)] at k3; exact k3
    refine aw_seq ?_
    refine aw_seq ?_
    refine aw_region ?_
    refine st_p (mv rfl) rfl ?_
    refine st_p (mv rfl) rfl ?_
    refine st_p (op_leno Try.underlying35 rfl) rfl ?_
    refine st_p (OpP.conv (op_lt rfl rfl) (no (by first | assumption | omega))) rfl ?_
    refine al_nil ?_
    refine nm ?_
    refine aw_no (rfl) ?_
    refine aw_exit ?_
    refine xs ?_
    refine xs ?_
    refine xb ?_
    refine nm ?_
    refine aw_seq ?_
    refine aw_region ?_
    refine st_p (mv rfl) rfl ?_
    refine st_p (mva rfl) rfl ?_
    refine al_nil ?_
    refine nm ?_
    refine aw_ret ?_
    rw [ha]
    exact ret_a ⟨[(2, .own 0 0 l.length)], [(0, .cells 1 (ints l))], 1⟩ (le_to [] rfl rfl rfl rfl rfl ⟨rfl, trivial⟩ ⟨by rw [ren_intsB]; rfl, trivial⟩) (res1 Try.results60) (.inr ⟨rfl, by simp only [List.all_cons, List.all_nil, hns, Bool.and_true]⟩) ⟨rfl, rfl, rfl⟩

end Go.Proofs.Ytpggknkhldecaaa.Abs
end
section
namespace Go.Proofs.Ytpggknkhldecaaa.Abs

def shardsL (ks : List (List UInt8)) (n : Int) : List Int := ks.map (fun k => shardI k n)
def readsL (ks : List (List UInt8)) (n : Int) : List Int := adjL (sortL (shardsL ks n) ((shardsL ks n).length - 1))

theorem shardsL_len (ks : List (List UInt8)) (n : Int) : (shardsL ks n).length = ks.length := List.length_map _

set_option maxHeartbeats 4000000 in
theorem txn_Reads (t : TX) (n : Int) (hr : t.reads.length ≤ 12) (hw : t.writes.length ≤ 1000000) (hkr : ∀ r ∈ t.reads, r.key.length ≤ 281474976710656) (hn : n ≤ 9223372036854775807) :
  AC Try.prog 16 [txA t, .int .i64 n] [] 0 false (fun v h nx => v = .own 0 0 (readsL (t.reads.map RD.key) n).length ∧ h = [(0, .cells 1 (ints (readsL (t.reads.map RD.key) n)))] ∧ nx = 1) := by
 have hkeys := txn_keys t (by omega) hw
 have hsh : ∀ r ∈ t.reads, AC Try.prog 58 [sb r.key, .int .i64 n] [] 0 false (fun v h nx => v = .int .i64 (shardI r.key n) ∧ h = [] ∧ nx = 0) := fun r hm => key_Shard r.key n (hkr r hm) hn
 have hns : ∀ m : List Int, (Blk.cells 1 (ints m)).nosl = true := fun m => by simp [Blk.nosl, AV.nosl, ints]
 have hL : ((t.reads.map RD.key).map (fun k => shardI k n)) = t.reads.map fun r => shardI r.key n := by rw [List.map_map]; rfl
 have hsort : ∀ l : List Int, l.length ≤ 12 → _ := sort_few
 have hcomp : ∀ l : List Int, l.length ≤ 1000000 → _ := compact_ints
 unfold readsL shardsL
 rw [hL]
 obtain ⟨ses, seq, rl, wl⟩ := t
 dsimp only [txA] at hkeys hr hw hsh ⊢
 have hkl : (rl.map fun r => sb r.key).length = rl.length := List.length_map _
 have hkp : (rl.map fun r => sb r.key).all AV.plain = true := by simp [AV.plain, plains, sb]
 have hwp : (wl.map fun w => sb w.key).all AV.plain = true := by simp [AV.plain, plains, sb]
 have hwl : (wl.map fun w => sb w.key).length = wl.length := List.length_map _
 have hll : (rl.map fun r => shardI r.key n).length = rl.length := List.length_map _
 refine ac_fn Try.func16 rfl rfl rfl rfl (fun w0 S0 r0 => ?_)
 refine aw_seq ?_
 refine aw_region ?_
 refine st_o (bx rfl rfl) rfl ?_
 refine st_p (mva rfl) rfl ?_
 refine al_nil ?_
 refine nm ?_
 refine aw_seq ?_
 refine aw_region ?_
 refine st_p (op_loadA Try.underlying26 rfl z26 rfl rfl rfl rfl) rfl ?_
 refine st_o ((op_callq (hkeys) Try.func39 ⟨rfl, rfl⟩ rfl rfl (fun nx => (.cons (.same (by rfl)) .nil)) (by rintro _ _ _ ⟨rfl, rfl, rfl⟩; exact (Fzs.tup (.cons (.whole rfl hkl.symm hkp) (.cons (.whole rfl hwl.symm hwp) .nil))))).ok) rfl ?_
 refine st_p (mv rfl) rfl ?_
 refine st_p (op_extract rfl rfl) rfl ?_
 refine st_p (op_extract rfl rfl) rfl ?_
 refine st_p (mva rfl) rfl ?_
 refine st_p (mva rfl) rfl ?_
 refine al_nil ?_
 refine nm ?_
 refine aw_seq ?_
 refine aw_seq ?_
 refine aw_region ?_
 refine st_p (mv rfl) rfl ?_
 refine st_p (op_len Try.underlying71 rfl) rfl ?_
 refine st_p (mv rfl) rfl ?_
 refine al_nil ?_
 refine nm ?_
 refine aw_block ?_
 refine aw_virt 4 1 rfl ?_
 refine aw_loop (fun i : {i : Nat // i ≤ rl.length} => ⟨[(1, .int .i64 n), (4, .own 0 0 i.1), (14, .sl 1 (rl.map fun r => sb r.key)), (15, .int .i64 rl.length), (16, .int .i64 i.1)], [(0, .cells 1 (ints ((rl.map fun r => shardI r.key n).take i.1)))], 1⟩) (fun i => rl.length - i.1) ⟨0, Nat.zero_le _⟩ ?_ ?_
 ·exact le_to [(0, 1)] rfl rfl rfl rfl rfl ⟨rfl, rfl, rfl, by rw [← hkl]; rfl, rfl, trivial⟩ ⟨by rw [ren_intsB]; rfl, trivial⟩
 ·rintro ⟨i, hi⟩
  dsimp only
  by_cases hlt : i < rl.length
  ·obtain ⟨x, hx⟩ : ∃ x, rl[i]? = some x := ⟨_, List.getElem?_eq_getElem hlt⟩
   have hxb : (rl.map fun r => sb r.key)[((i : Nat) : Int).toNat]? = some (sb x.key) := by rw [Int.toNat_natCast, List.getElem?_map, hx]; rfl
   have hs := hsh x (List.mem_of_getElem? hx)
   have hit : (ints ((rl.map fun r => shardI r.key n).take i)).length = i := by rw [ints_len, List.length_take]; omega
   refine aw_seq ?_
   refine aw_region ?_
   refine st_p (OpP.conv (op_lt rfl rfl) (yes (by first | assumption | omega))) rfl ?_
   refine al_nil ?_
   refine nm ?_
   refine aw_seq ?_
   refine aw_yes (rfl) ?_
   refine aw_skip ?_
   refine nm ?_
   refine aw_seq ?_
   refine aw_block ?_
   refine aw_seq ?_
   refine aw_region ?_
   refine st_p (op_indexAddrL Try.underlying71 z9 rfl rfl (by omega) (by first | assumption | rfl)) rfl ?_
   refine st_p (op_load1L Try.underlying9 rfl rfl rfl) rfl ?_
   refine st_p (mva rfl) rfl ?_
   refine al_nil ?_
   refine nm ?_
   refine aw_region ?_
   refine st_p (mv rfl) rfl ?_
   refine st_p (mv rfl) rfl ?_
   refine st_p (mv rfl) rfl ?_
   refine st_o ((op_callq (hs) Try.func58 ⟨rfl, rfl⟩ rfl rfl (fun nx => (.cons (.same (by rfl)) (.cons (.same (by rfl)) .nil))) (by rintro _ _ _ ⟨rfl, rfl, rfl⟩; exact .same rfl)).ok) rfl ?_
   refine st_o (bsl Try.underlying35 i3 o3 (by decide) rfl rfl rfl (by decide)) rfl ?_
   refine st_o (op_app Try.underlying35 Try.underlying35 (.inl ⟨_, rfl⟩) i3 o3 rfl rfl rfl (by first | rfl | omega | (simp; done) | (simp; omega)) ((SrcA.whole rfl (by first | rfl | (simp; done))).ok rfl (by first | assumption | intro z hz; simp only [List.mem_singleton, List.drop_zero, List.take_succ_cons, List.take_zero, List.mem_cons, List.not_mem_nil, or_false, List.mem_map] at hz; first | (subst hz; rfl) | (obtain ⟨_, _, rfl⟩ := hz; rfl) | (rcases hz with rfl | rfl <;> rfl))) (by first | omega | (simp; try omega)) rfl) rfl ?_
   refine st_p (mva rfl) rfl ?_
   refine al_nil ?_
   refine nmb ?_
   refine nm ?_
   refine aw_region ?_
   refine st_p (op_addi rfl rfl (by omega)) rfl ?_
   refine st_p (mv rfl) rfl ?_
   refine al_nil ?_
   refine nm ?_
   refine ⟨⟨i + 1, hlt⟩, by dsimp only; omega, le_to [(0, 2)] rfl rfl rfl rfl rfl ⟨rfl, ?_, rfl, rfl, rfl, trivial⟩ ⟨?_, trivial⟩⟩
   ·simp only [tget, AV.ren, swp]
    simp [hit]
   ·rw [ren_intsB, List.take_add_one, List.getElem?_map, hx]
    simp [hget, swp, ints]
  ·have hin : i = rl.length := by omega
   subst hin
   rw [List.take_of_length_le (by omega)]
   have hs0 := hsort (rl.map fun r => shardI r.key n) (by omega)
   have hc0 := hcomp (sortL (rl.map fun r => shardI r.key n) ((rl.map fun r => shardI r.key n).length - 1)) (by rw [sortL_len]; omega)
   rw [sortL_len] at hc0
   generalize sortL (rl.map fun r => shardI r.key n) ((rl.map fun r => shardI r.key n).length - 1) = M at hs0 hc0 ⊢
   rw [hll] at hs0 hc0
   refine aw_seq ?_
   refine aw_region ?_
   refine st_p (OpP.conv (op_lt rfl rfl) (no (by first | assumption | omega))) rfl ?_
   refine al_nil ?_
   refine nm ?_
   refine aw_seq ?_
   refine aw_no (rfl) ?_
   refine aw_exit ?_
   refine xs ?_
   refine xs ?_
   refine xb ?_
   refine nm ?_
   refine aw_seq ?_
   refine aw_region ?_
   refine st_p (mv rfl) rfl ?_
   refine st_o (op_callg [(0, 0)] 1 false [(0, .cells 1 (ints (rl.map fun r => shardI r.key n)))] [0] (hs0) Try.func59 ⟨rfl, rfl⟩ rfl rfl rfl rfl (by omega) (by intro p hp; simp only [List.mem_cons, List.not_mem_nil, or_false] at hp; rcases hp with rfl | rfl | rfl <;> exact ⟨by first | rfl | ((simp [hget, swp, Blk.ren, AV.ren, ints, Function.comp_def]) <;> rfl), rfl⟩) rfl (.cons (.same (by rfl)) .nil) rfl rfl rfl) rfl ?_
   refine al_nil ?_
   refine nm ?_
   refine aw_seq ?_
   refine aw_region ?_
   refine st_p (mv rfl) rfl ?_
   refine st_o (op_callg [(0, 0)] 1 false [(0, .cells 1 (ints M))] [0] (hc0) Try.func60 ⟨rfl, rfl⟩ rfl rfl rfl rfl (by omega) (by intro p hp; simp only [List.mem_cons, List.not_mem_nil, or_false] at hp; rcases hp with rfl | rfl <;> exact ⟨by first | rfl | ((simp [hget, swp, Blk.ren, AV.ren, ints, Function.comp_def]) <;> rfl), rfl⟩) rfl (.cons (.same (by rfl)) .nil) rfl rfl rfl) rfl ?_
   refine st_p (mva rfl) rfl ?_
   refine al_nil ?_
   refine nm ?_
   refine aw_ret ?_
   refine ret_a ⟨[(4, .own 0 0 (adjL M).length)], [(0, .cells 1 (ints (adjL M)))], 1⟩ (le_to [] rfl rfl rfl rfl rfl ⟨rfl, trivial⟩ ⟨by simp only [List.map_cons, List.map_nil, ren_intsB]; rfl, trivial⟩) (res1 Try.results16) (.inr ⟨rfl, by simp only [List.all_cons, List.all_nil, hns, Bool.and_true]⟩) ⟨rfl, rfl, rfl⟩

end Go.Proofs.Ytpggknkhldecaaa.Abs
end
section
namespace Go.Proofs.Ytpggknkhldecaaa.Abs

abbrev sbs (l : List (List UInt8)) : List AV := l.map sb
theorem sbs_len (l : List (List UInt8)) : (sbs l).length = l.length := List.length_map _
theorem sbs_app (l m : List (List UInt8)) : sbs (l ++ m) = sbs l ++ sbs m := List.map_append
theorem ren_sbs (σ : Nat → Nat) (l : List (List UInt8)) : (sbs l).map (AV.ren σ) = sbs l := by simp [sbs, sb, AV.ren, Function.comp_def]

theorem grow_strs (m : Nat) (hm : 0 < m) (hb : m ≤ 8796093022208) : AC Try.prog 87 [.nils, .int .i64 (m : Int)] [] 0 false (fun v h nx => v = .own 0 0 0 ∧ h = [(0, .cells 1 [])] ∧ nx = 1) := by
 refine ac_fn Try.func87 rfl rfl rfl rfl (fun w0 S0 r0 => ?_)
 refine aw_seq ?_
 refine aw_region ?_
 refine st_p (mva rfl) rfl ?_
 refine al_nil ?_
 refine nm ?_
 refine aw_seq ?_
 refine aw_seq ?_
 refine aw_region ?_
 refine st_p (mv rfl) rfl ?_
 refine st_p (OpP.conv (op_lt rfl rfl) (no (by first | assumption | omega))) rfl ?_
 refine al_nil ?_
 refine nm ?_
 refine aw_no (rfl) ?_
 refine aw_skip ?_
 refine nm ?_
 refine aw_seq ?_
 refine aw_seq ?_
 refine aw_region ?_
 refine st_p (mv rfl) rfl ?_
 refine st_p (mv rfl) rfl ?_
 refine st_p (op_capN Try.underlying71 rfl) rfl ?_
 refine st_p (mv rfl) rfl ?_
 refine st_p (op_lenn Try.underlying71 rfl) rfl ?_
 refine st_p (op_subi rfl rfl (by omega)) rfl ?_
 refine st_p (op_subi rfl rfl (by omega)) rfl ?_
 refine st_p (mva rfl) rfl ?_
 refine al_nil ?_
 refine nm ?_
 refine aw_seq ?_
 refine aw_region ?_
 refine st_p (mv rfl) rfl ?_
 refine st_p (OpP.conv (op_gt rfl rfl) (yes (by first | assumption | omega))) rfl ?_
 refine al_nil ?_
 refine nm ?_
 refine aw_yes (rfl) ?_
 refine aw_region ?_
 refine st_p (mv rfl) rfl ?_
 refine st_p (mv rfl) rfl ?_
 refine st_p (op_capN Try.underlying71 rfl) rfl ?_
 refine st_p (op_sliceN Try.underlying71 z9 rfl rfl) rfl ?_
 refine st_p (mv rfl) rfl ?_
 refine st_o (op_appZi Try.underlying71 Try.underlying3 i9 o9 (by decide) rfl rfl (by omega) (by omega) (by omega)) rfl ?_
 refine st_p (mv rfl) rfl ?_
 refine st_p (op_lenn Try.underlying71 rfl) rfl ?_
 refine st_p (op_slice Try.underlying71 z9 rfl rfl (by exact rfl) (by exact ⟨_, rfl⟩) (by first | omega | (simp only [bl_len, List.length_map, List.length_append, List.length_take, List.length_drop]; omega)) (by first | omega | (simp only [bl_len, List.length_map, List.length_append, List.length_take, List.length_drop]; omega)) (by first | omega | (simp only [bl_len, List.length_map, List.length_append, List.length_take, List.length_drop]; omega))) rfl ?_
 refine st_p (mva rfl) rfl ?_
 refine al_nil ?_
 refine nm ?_
 refine aw_seq ?_
 refine aw_region ?_
 refine st_p (mv rfl) rfl ?_
 refine st_p (mva rfl) rfl ?_
 refine al_nil ?_
 refine nm ?_
 refine aw_ret ?_
 exact ret_a ⟨[(4, .own 0 0 0)], [(0, .cells 1 [])], 1⟩ (le_to [(0, 0)] rfl rfl rfl rfl rfl ⟨rfl, trivial⟩ ⟨rfl, trivial⟩) (res1 Try.results87) (.inr ⟨rfl, rfl⟩) ⟨rfl, rfl, rfl⟩

theorem grow_nostrs : AC Try.prog 87 [.nils, .int .i64 0] [] 0 false (fun v h nx => v = .nils ∧ h = [] ∧ nx = 0) := by
 refine ac_fn Try.func87 rfl rfl rfl rfl (fun w0 S0 r0 => ?_)
 refine aw_seq ?_
 refine aw_region ?_
 refine st_p (mva rfl) rfl ?_
 refine al_nil ?_
 refine nm ?_
 refine aw_seq ?_
 refine aw_seq ?_
 refine aw_region ?_
 refine st_p (mv rfl) rfl ?_
 refine st_p (OpP.conv (op_lt rfl rfl) (no (by first | assumption | omega))) rfl ?_
 refine al_nil ?_
 refine nm ?_
 refine aw_no (rfl) ?_
 refine aw_skip ?_
 refine nm ?_
 refine aw_seq ?_
 refine aw_seq ?_
 refine aw_region ?_
 refine st_p (mv rfl) rfl ?_
 refine st_p (mv rfl) rfl ?_
 refine st_p (op_capN Try.underlying71 rfl) rfl ?_
 refine st_p (mv rfl) rfl ?_
 refine st_p (op_lenn Try.underlying71 rfl) rfl ?_
 refine st_p (op_subi rfl rfl (by omega)) rfl ?_
 refine st_p (op_subi rfl rfl (by omega)) rfl ?_
 refine st_p (mva rfl) rfl ?_
 refine al_nil ?_
 refine nm ?_
 refine aw_seq ?_
 refine aw_region ?_
 refine st_p (mv rfl) rfl ?_
 refine st_p (OpP.conv (op_gt rfl rfl) (no (by first | assumption | omega))) rfl ?_
 refine al_nil ?_
 refine nm ?_
 refine aw_no (rfl) ?_
 refine aw_skip ?_
 refine nm ?_
 refine aw_seq ?_
 refine aw_region ?_
 refine st_p (mv rfl) rfl ?_
 refine st_p (mva rfl) rfl ?_
 refine al_nil ?_
 refine nm ?_
 refine aw_ret ?_
 exact ret_v (res1 Try.results87) (.inr ⟨rfl, rfl⟩) ⟨rfl, rfl, rfl⟩

theorem concat_strs (ll : List (List (List UInt8))) (hl : ll.length ≤ 1000000) (ht : ll.flatten.length ≤ 1000000) : AC Try.prog 63 [.sl 1 (ll.map fun l => .sl 1 (sbs l))] [] 0 false (fun v h nx => v = .own 0 0 ll.flatten.length ∧ h = [(0, .cells 1 (sbs ll.flatten))] ∧ nx = 1) := by
 have hlm : (ll.map fun l => AV.sl 1 (sbs l)).length = ll.length := List.length_map _
 have hsum : ∀ (i : Nat) (x : List (List UInt8)), ll[i]? = some x → (ll.take (i + 1)).flatten.length = (ll.take i).flatten.length + x.length ∧ (ll.take i).flatten.length + x.length ≤ 1000000 := fun i x hx => by
  have h1 : (ll.take (i + 1)).flatten = (ll.take i).flatten ++ x := by rw [List.take_add_one, hx]; simp
  have h2 : ll.flatten = (ll.take (i + 1)).flatten ++ (ll.drop (i + 1)).flatten := by rw [← List.flatten_append, List.take_append_drop]
  have h3 := congrArg List.length h2
  rw [h1, List.length_append, List.length_append] at h3
  rw [h1, List.length_append]
  omega
 refine ac_fn Try.func63 rfl rfl rfl rfl (fun w0 S0 r0 => ?_)
 refine aw_seq ?_
 refine aw_region ?_
 refine st_p (mva rfl) rfl ?_
 refine al_nil ?_
 refine nm ?_
 refine aw_seq ?_
 refine aw_region ?_
 refine st_p (mva rfl) rfl ?_
 refine al_nil ?_
 refine nm ?_
 refine aw_seq ?_
 refine aw_seq ?_
 refine aw_region ?_
 refine st_p (mv rfl) rfl ?_
 refine st_p (op_len Try.underlying120 rfl) rfl ?_
 refine st_p (mv rfl) rfl ?_
 refine al_nil ?_
 refine nm ?_
 refine aw_block ?_
 refine aw_loop (fun i : {i : Nat // i ≤ ll.length} => ⟨[(0, .sl 1 (ll.map fun l => .sl 1 (sbs l))), (3, .int .i64 (ll.take i.1).flatten.length), (9, .sl 1 (ll.map fun l => .sl 1 (sbs l))), (10, .int .i64 ll.length), (11, .int .i64 i.1)], [], 0⟩) (fun i => ll.length - i.1) ⟨0, Nat.zero_le _⟩ ?_ ?_
 ·exact le_to [] rfl rfl rfl rfl rfl ⟨rfl, rfl, rfl, by rw [← hlm]; rfl, rfl, trivial⟩ trivial
 ·rintro ⟨i, hi⟩
  dsimp only
  by_cases hlt : i < ll.length
  ·obtain ⟨x, hx⟩ : ∃ x, ll[i]? = some x := ⟨_, List.getElem?_eq_getElem hlt⟩
   have hxb : (ll.map fun l => AV.sl 1 (sbs l))[((i : Nat) : Int).toNat]? = some (.sl 1 (sbs x)) := by rw [Int.toNat_natCast, List.getElem?_map, hx]; rfl
   have hstep := hsum i x hx
   have hblx : (sbs x).length = x.length := sbs_len _
   refine aw_seq ?_
   refine aw_region ?_
   refine st_p (OpP.conv (op_lt rfl rfl) (yes (by first | assumption | omega))) rfl ?_
   refine al_nil ?_
   refine nm ?_
   refine aw_seq ?_
   refine aw_yes (rfl) ?_
   refine aw_skip ?_
   refine nm ?_
   refine aw_seq ?_
   refine aw_block ?_
   refine aw_seq ?_
   refine aw_region ?_
   refine st_p (op_indexAddrL Try.underlying120 z71 rfl rfl (by omega) (by first | assumption | rfl)) rfl ?_
   refine st_p (op_load1L Try.underlying71 rfl rfl rfl) rfl ?_
   refine st_p (mva rfl) rfl ?_
   refine al_nil ?_
   refine nm ?_
   refine aw_seq ?_
   refine aw_region ?_
   refine st_p (mv rfl) rfl ?_
   refine st_p (mv rfl) rfl ?_
   refine st_p (op_len Try.underlying71 rfl) rfl ?_
   refine st_p (op_addi rfl rfl (by omega)) rfl ?_
   refine st_p (mva rfl) rfl ?_
   refine al_nil ?_
   refine nm ?_
   refine aw_seq ?_
   refine aw_region ?_
   refine st_p (mv rfl) rfl ?_
   refine st_p (OpP.conv (op_lt rfl rfl) (no (by first | assumption | omega))) rfl ?_
   refine al_nil ?_
   refine nm ?_
   refine aw_no (rfl) ?_
   refine aw_skip ?_
   refine nmb ?_
   refine nm ?_
   refine aw_region ?_
   refine st_p (op_addi rfl rfl (by omega)) rfl ?_
   refine st_p (mv rfl) rfl ?_
   refine al_nil ?_
   refine nm ?_
   refine ⟨⟨i + 1, hlt⟩, by dsimp only; omega, le_to [] rfl rfl rfl rfl rfl ⟨rfl, ?_, rfl, rfl, rfl, trivial⟩ trivial⟩
   show AV.int .i64 (((ll.take i).flatten.length : Int) + ((sbs x).length : Nat)) = AV.int .i64 ((ll.take (i + 1)).flatten.length : Nat)
   congr 1
   omega
  ·have e : ll.take i = ll := List.take_of_length_le (by omega)
   rw [e]
   by_cases hz : ll.flatten.length = 0
   ·have hg : AC Try.prog 87 [.nils, .int .i64 (ll.flatten.length : Int)] [] 0 false (fun v h nx => v = .nils ∧ h = [] ∧ nx = 0) := by
     rw [hz]
     exact grow_nostrs
    refine aw_seq ?_
    refine aw_region ?_
    refine st_p (OpP.conv (op_lt rfl rfl) (no (by first | assumption | omega))) rfl ?_
    refine al_nil ?_
    refine nm ?_
    refine aw_seq ?_
    refine aw_no (rfl) ?_
    refine aw_exit ?_
    refine xs ?_
    refine xs ?_
    refine xb ?_
    refine nm ?_
    refine aw_seq ?_
    refine aw_region ?_
    refine st_p (mv rfl) rfl ?_
    refine st_call0 (hg) Try.func87 ⟨rfl, rfl⟩ rfl (.cons (.same (by rfl)) (.cons (.same (by rfl)) .nil)) rfl ?_
    rintro _ _ _ ⟨rfl, rfl, rfl⟩ r2 h2 n2 hr hh hn
    simp only [AV.ren, rens, Blk.ren, swp, List.map_cons, List.map_nil, List.cons_append, List.nil_append, List.append_nil, Nat.not_lt_zero, if_false, Nat.reduceAdd, Nat.zero_add, Nat.add_zero, ren_bl] at hr hh hn
    subst hr hh hn
    refine st_p (mva rfl) rfl ?_
    refine al_nil ?_
    refine nm ?_
    refine aw_seq ?_
    refine aw_seq ?_
    refine aw_region ?_
    refine st_p (mv rfl) rfl ?_
    refine st_p (op_len Try.underlying120 rfl) rfl ?_
    refine st_p (mv rfl) rfl ?_
    refine al_nil ?_
    refine nm ?_
    refine aw_block ?_
    refine aw_virt 6 1 rfl ?_
    refine aw_loop (fun j : {j : Nat // j ≤ ll.length} => ⟨[(6, .own 0 0 (ll.take j.1).flatten.length), (25, .sl 1 (ll.map fun l => .sl 1 (sbs l))), (26, .int .i64 ll.length), (27, .int .i64 j.1)], [(0, .cells 1 (sbs (ll.take j.1).flatten))], 1⟩) (fun j => ll.length - j.1) ⟨0, Nat.zero_le _⟩ ?_ ?_
    ·exact le_to [(0, 0)] rfl rfl rfl rfl rfl ⟨rfl, rfl, by rw [← hlm]; rfl, rfl, trivial⟩ ⟨rfl, trivial⟩
    ·rintro ⟨j, hj⟩
     dsimp only
     by_cases hjt : j < ll.length
     ·obtain ⟨x, hx⟩ : ∃ x, ll[j]? = some x := ⟨_, List.getElem?_eq_getElem hjt⟩
      have hxb : (ll.map fun l => AV.sl 1 (sbs l))[((j : Nat) : Int).toNat]? = some (.sl 1 (sbs x)) := by rw [Int.toNat_natCast, List.getElem?_map, hx]; rfl
      have hstep := hsum j x hx
      have hblk : (sbs (ll.take j).flatten).length = (ll.take j).flatten.length := sbs_len _
      have hblx : (sbs x).length = x.length := sbs_len _
      have hfl : (ll.take (j + 1)).flatten = (ll.take j).flatten ++ x := by rw [List.take_add_one, hx]; simp
      generalize hq : (ll.take j).flatten = q at hstep hblk hfl ⊢
      refine aw_seq ?_
      refine aw_region ?_
      refine st_p (OpP.conv (op_lt rfl rfl) (yes (by first | assumption | omega))) rfl ?_
      refine al_nil ?_
      refine nm ?_
      refine aw_seq ?_
      refine aw_yes (rfl) ?_
      refine aw_skip ?_
      refine nm ?_
      refine aw_seq ?_
      refine aw_block ?_
      refine aw_seq ?_
      refine aw_region ?_
      refine st_p (op_indexAddrL Try.underlying120 z71 rfl rfl (by omega) (by first | assumption | rfl)) rfl ?_
      refine st_p (op_load1L Try.underlying71 rfl rfl rfl) rfl ?_
      refine st_p (mva rfl) rfl ?_
      refine al_nil ?_
      refine nm ?_
      refine aw_region ?_
      refine st_p (mv rfl) rfl ?_
      refine st_p (mv rfl) rfl ?_
      refine st_o (op_app Try.underlying71 Try.underlying71 (.inl ⟨_, rfl⟩) i9 o9 rfl rfl rfl (by first | rfl | omega | (simp; done) | (simp; omega)) ((SrcA.sl (.inr trivial)).ok rfl (by first | assumption | intro z hz; simp only [List.mem_singleton, List.drop_zero, List.take_succ_cons, List.take_zero, List.mem_cons, List.not_mem_nil, or_false, List.mem_map] at hz; first | (subst hz; rfl) | (obtain ⟨_, _, rfl⟩ := hz; rfl) | (rcases hz with rfl | rfl <;> rfl))) (by first | omega | (simp; try omega)) rfl) rfl ?_
      refine st_p (mva rfl) rfl ?_
      refine al_nil ?_
      refine nmb ?_
      refine nm ?_
      refine aw_region ?_
      refine st_p (op_addi rfl rfl (by omega)) rfl ?_
      refine st_p (mv rfl) rfl ?_
      refine al_nil ?_
      refine nm ?_
      refine ⟨⟨j + 1, hjt⟩, by dsimp only; omega, le_to [(0, 1)] rfl rfl rfl rfl rfl ⟨?_, rfl, rfl, rfl, trivial⟩ ⟨?_, trivial⟩⟩
      ·rw [hfl]; simp [AV.ren, tget, swp]
      ·rw [hfl]; simp only [Blk.ren, hget, swp, List.map_append, ren_sbs, sbs_app]; rfl
     ·have e : ll.take j = ll := List.take_of_length_le (by omega)
      refine aw_seq ?_
      refine aw_region ?_
      refine st_p (OpP.conv (op_lt rfl rfl) (no (by first | assumption | omega))) rfl ?_
      refine al_nil ?_
      refine nm ?_
      refine aw_seq ?_
      refine aw_no (rfl) ?_
      refine aw_exit ?_
      refine xs ?_
      refine xs ?_
      refine xb ?_
      refine nm ?_
      refine aw_seq ?_
      refine aw_region ?_
      refine st_p (mv rfl) rfl ?_
      refine st_p (mva rfl) rfl ?_
      refine al_nil ?_
      refine nm ?_
      refine aw_ret ?_
      refine ret_a ⟨[(2, .own 0 0 ll.flatten.length)], [(0, .cells 1 (sbs ll.flatten))], 1⟩ (le_to [(0, 0)] rfl rfl rfl rfl rfl ⟨by rw [e]; rfl, trivial⟩ ⟨by rw [e]; simp only [Blk.ren, hget, ren_sbs]; rfl, trivial⟩) (res1 Try.results63) (.inr ⟨rfl, by simp [Blk.nosl, AV.nosl, sbs, sb]⟩) ⟨rfl, rfl, rfl⟩
   ·have hg := grow_strs ll.flatten.length (by omega) (by omega)
    refine aw_seq ?_
    refine aw_region ?_
    refine st_p (OpP.conv (op_lt rfl rfl) (no (by first | assumption | omega))) rfl ?_
    refine al_nil ?_
    refine nm ?_
    refine aw_seq ?_
    refine aw_no (rfl) ?_
    refine aw_exit ?_
    refine xs ?_
    refine xs ?_
    refine xb ?_
    refine nm ?_
    refine aw_seq ?_
    refine aw_region ?_
    refine st_p (mv rfl) rfl ?_
    refine st_call0 (hg) Try.func87 ⟨rfl, rfl⟩ rfl (.cons (.same (by rfl)) (.cons (.same (by rfl)) .nil)) rfl ?_
    rintro _ _ _ ⟨rfl, rfl, rfl⟩ r2 h2 n2 hr hh hn
    simp only [AV.ren, rens, Blk.ren, swp, List.map_cons, List.map_nil, List.cons_append, List.nil_append, List.append_nil, Nat.not_lt_zero, if_false, Nat.reduceAdd, Nat.zero_add, Nat.add_zero, ren_bl] at hr hh hn
    subst hr hh hn
    refine st_p (mva rfl) rfl ?_
    refine al_nil ?_
    refine nm ?_
    refine aw_seq ?_
    refine aw_seq ?_
    refine aw_region ?_
    refine st_p (mv rfl) rfl ?_
    refine st_p (op_len Try.underlying120 rfl) rfl ?_
    refine st_p (mv rfl) rfl ?_
    refine al_nil ?_
    refine nm ?_
    refine aw_block ?_
    refine aw_loop (fun j : {j : Nat // j ≤ ll.length} => ⟨[(6, .own 0 0 (ll.take j.1).flatten.length), (25, .sl 1 (ll.map fun l => .sl 1 (sbs l))), (26, .int .i64 ll.length), (27, .int .i64 j.1)], [(0, .cells 1 (sbs (ll.take j.1).flatten))], 1⟩) (fun j => ll.length - j.1) ⟨0, Nat.zero_le _⟩ ?_ ?_
    ·exact le_to [(0, 0)] rfl rfl rfl rfl rfl ⟨rfl, rfl, by rw [← hlm]; rfl, rfl, trivial⟩ ⟨rfl, trivial⟩
    ·rintro ⟨j, hj⟩
     dsimp only
     by_cases hjt : j < ll.length
     ·obtain ⟨x, hx⟩ : ∃ x, ll[j]? = some x := ⟨_, List.getElem?_eq_getElem hjt⟩
      have hxb : (ll.map fun l => AV.sl 1 (sbs l))[((j : Nat) : Int).toNat]? = some (.sl 1 (sbs x)) := by rw [Int.toNat_natCast, List.getElem?_map, hx]; rfl
      have hstep := hsum j x hx
      have hblk : (sbs (ll.take j).flatten).length = (ll.take j).flatten.length := sbs_len _
      have hblx : (sbs x).length = x.length := sbs_len _
      have hfl : (ll.take (j + 1)).flatten = (ll.take j).flatten ++ x := by rw [List.take_add_one, hx]; simp
      generalize hq : (ll.take j).flatten = q at hstep hblk hfl ⊢
      refine aw_seq ?_
      refine aw_region ?_
      refine st_p (OpP.conv (op_lt rfl rfl) (yes (by first | assumption | omega))) rfl ?_
      refine al_nil ?_
      refine nm ?_
      refine aw_seq ?_
      refine aw_yes (rfl) ?_
      refine aw_skip ?_
      refine nm ?_
      refine aw_seq ?_
      refine aw_block ?_
      refine aw_seq ?_
      refine aw_region ?_
      refine st_p (op_indexAddrL Try.underlying120 z71 rfl rfl (by omega) (by first | assumption | rfl)) rfl ?_
      refine st_p (op_load1L Try.underlying71 rfl rfl rfl) rfl ?_
      refine st_p (mva rfl) rfl ?_
      refine al_nil ?_
      refine nm ?_
      refine aw_region ?_
      refine st_p (mv rfl) rfl ?_
      refine st_p (mv rfl) rfl ?_
      refine st_o (op_app Try.underlying71 Try.underlying71 (.inl ⟨_, rfl⟩) i9 o9 rfl rfl rfl (by first | rfl | omega | (simp; done) | (simp; omega)) ((SrcA.sl (.inr trivial)).ok rfl (by first | assumption | intro z hz; simp only [List.mem_singleton, List.drop_zero, List.take_succ_cons, List.take_zero, List.mem_cons, List.not_mem_nil, or_false, List.mem_map] at hz; first | (subst hz; rfl) | (obtain ⟨_, _, rfl⟩ := hz; rfl) | (rcases hz with rfl | rfl <;> rfl))) (by first | omega | (simp; try omega)) rfl) rfl ?_
      refine st_p (mva rfl) rfl ?_
      refine al_nil ?_
      refine nmb ?_
      refine nm ?_
      refine aw_region ?_
      refine st_p (op_addi rfl rfl (by omega)) rfl ?_
      refine st_p (mv rfl) rfl ?_
      refine al_nil ?_
      refine nm ?_
      refine ⟨⟨j + 1, hjt⟩, by dsimp only; omega, le_to [(0, 1)] rfl rfl rfl rfl rfl ⟨?_, rfl, rfl, rfl, trivial⟩ ⟨?_, trivial⟩⟩
      ·rw [hfl]; simp [AV.ren, tget, swp]
      ·rw [hfl]; simp only [Blk.ren, hget, swp, List.map_append, ren_sbs, sbs_app]; rfl
     ·have e : ll.take j = ll := List.take_of_length_le (by omega)
      refine aw_seq ?_
      refine aw_region ?_
      refine st_p (OpP.conv (op_lt rfl rfl) (no (by first | assumption | omega))) rfl ?_
      refine al_nil ?_
      refine nm ?_
      refine aw_seq ?_
      refine aw_no (rfl) ?_
      refine aw_exit ?_
      refine xs ?_
      refine xs ?_
      refine xb ?_
      refine nm ?_
      refine aw_seq ?_
      refine aw_region ?_
      refine st_p (mv rfl) rfl ?_
      refine st_p (mva rfl) rfl ?_
      refine al_nil ?_
      refine nm ?_
      refine aw_ret ?_
      refine ret_a ⟨[(2, .own 0 0 ll.flatten.length)], [(0, .cells 1 (sbs ll.flatten))], 1⟩ (le_to [(0, 0)] rfl rfl rfl rfl rfl ⟨by rw [e]; rfl, trivial⟩ ⟨by rw [e]; simp only [Blk.ren, hget, ren_sbs]; rfl, trivial⟩) (res1 Try.results63) (.inr ⟨rfl, by simp [Blk.nosl, AV.nosl, sbs, sb]⟩) ⟨rfl, rfl, rfl⟩

end Go.Proofs.Ytpggknkhldecaaa.Abs
end
section
namespace Go.Proofs.Ytpggknkhldecaaa.Abs

theorem touch_1 (k : List UInt8) (n s : Int) (hk : k.length ≤ 281474976710656) (hn : n ≤ 9223372036854775807) :
  AC Try.prog 64 [sb k, .ptr 0 0 0, .ptr 1 0 0] [(0, .cells 1 [.int .i64 n]), (1, .cells 1 [.int .i64 s])] 2 false (fun v h nx => v = .bool (decide (shardI k n = s)) ∧ h = [(0, .cells 1 [.int .i64 n]), (1, .cells 1 [.int .i64 s])] ∧ nx = 2) := by
 have hs := key_Shard k n hk hn
 generalize shardI k n = q at hs ⊢
 by_cases h : q = s
 ·rw [decide_eq_true h]
  refine ac_fn Try.func64 rfl rfl rfl rfl (fun w0 S0 r0 => ?_)
  refine aw_seq ?_
  refine aw_region ?_
  refine st_p (mva rfl) rfl ?_
  refine al_nil ?_
  refine nm ?_
  refine aw_seq ?_
  refine dr_go ?_
  refine dr_f 0 0 [0] rfl (fun H => mv rfl) ?_
  refine dr_q 0 0 [1] rfl (op_load1 Try.underlying3 rfl rfl rfl rfl rfl) ?_
  refine dr_fq 0 0 [5, 6] rfl (fun H => op_callq (hs) Try.func58 ⟨rfl, rfl⟩ rfl rfl (fun nx => (.cons (.same (by rfl)) (.cons (.same (by rfl)) .nil))) (by rintro _ _ _ ⟨rfl, rfl, rfl⟩; exact .same rfl)) ?_
  refine dr_q 0 0 [2] rfl (op_load1 Try.underlying3 rfl rfl rfl rfl rfl) ?_
  refine dr_f 0 0 [7, 8] rfl (fun H => OpP.conv (op_eq rfl rfl) (yes (by first | assumption | omega))) ?_
  refine dr_f 0 0 [9] rfl (fun H => mva rfl) ?_
  refine dr_end [] (by kernel_rfl) (by kernel_rfl) (by kernel_rfl) (by kernel_rfl) trivial ?_
  refine nm ?_
  refine aw_ret ?_
  exact ret_a ⟨[(4, .bool true)], [(0, .cells 1 [.int .i64 n]), (1, .cells 1 [.int .i64 s])], 2⟩ (le_to [] rfl rfl rfl rfl rfl ⟨rfl, trivial⟩ ⟨rfl, rfl, trivial⟩) (res1 Try.results64) (.inr ⟨rfl, rfl⟩) ⟨rfl, rfl, rfl⟩
 ·rw [decide_eq_false h]
  refine ac_fn Try.func64 rfl rfl rfl rfl (fun w0 S0 r0 => ?_)
  refine aw_seq ?_
  refine aw_region ?_
  refine st_p (mva rfl) rfl ?_
  refine al_nil ?_
  refine nm ?_
  refine aw_seq ?_
  refine dr_go ?_
  refine dr_f 0 0 [0] rfl (fun H => mv rfl) ?_
  refine dr_q 0 0 [1] rfl (op_load1 Try.underlying3 rfl rfl rfl rfl rfl) ?_
  refine dr_fq 0 0 [5, 6] rfl (fun H => op_callq (hs) Try.func58 ⟨rfl, rfl⟩ rfl rfl (fun nx => (.cons (.same (by rfl)) (.cons (.same (by rfl)) .nil))) (by rintro _ _ _ ⟨rfl, rfl, rfl⟩; exact .same rfl)) ?_
  refine dr_q 0 0 [2] rfl (op_load1 Try.underlying3 rfl rfl rfl rfl rfl) ?_
  refine dr_f 0 0 [7, 8] rfl (fun H => OpP.conv (op_eq rfl rfl) (no (by first | assumption | omega))) ?_
  refine dr_f 0 0 [9] rfl (fun H => mva rfl) ?_
  refine dr_end [] (by kernel_rfl) (by kernel_rfl) (by kernel_rfl) (by kernel_rfl) trivial ?_
  refine nm ?_
  refine aw_ret ?_
  exact ret_a ⟨[(4, .bool false)], [(0, .cells 1 [.int .i64 n]), (1, .cells 1 [.int .i64 s])], 2⟩ (le_to [] rfl rfl rfl rfl rfl ⟨rfl, trivial⟩ ⟨rfl, rfl, trivial⟩) (res1 Try.results64) (.inr ⟨rfl, rfl⟩) ⟨rfl, rfl, rfl⟩

theorem touch_index (l : List (List UInt8)) (n s : Int) (hl : l.length ≤ 1000000) (hk : ∀ k ∈ l, k.length ≤ 281474976710656) (hn : n ≤ 9223372036854775807) :
  AC Try.prog 86 [.sl 1 (sbs l), .fn (.func 64) [] [.ptr 0 0 0, .ptr 1 0 0]] [(0, .cells 1 [.int .i64 n]), (1, .cells 1 [.int .i64 s])] 2 false
   (fun v h nx => v = .int .i64 (firstI (fun k => decide (shardI k n = s)) l) ∧ h = [(0, .cells 1 [.int .i64 n]), (1, .cells 1 [.int .i64 s])] ∧ nx = 2) := by
 have hlm : (sbs l).length = l.length := sbs_len l
 refine ac_fn Try.func86 rfl rfl rfl rfl (fun w0 S0 r0 => ?_)
 refine aw_seq ?_
 refine aw_region ?_
 refine st_p (mva rfl) rfl ?_
 refine al_nil ?_
 refine nm ?_
 refine aw_seq ?_
 refine aw_seq ?_
 refine aw_region ?_
 refine st_p (mv rfl) rfl ?_
 refine st_p (op_len Try.underlying71 rfl) rfl ?_
 refine st_p (mv rfl) rfl ?_
 refine al_nil ?_
 refine nm ?_
 refine aw_block ?_
 refine aw_loop (fun i : {i : Nat // i ≤ l.length ∧ ∀ (j : Nat) (x : List UInt8), j < i → l[j]? = some x → decide (shardI x n = s) = false} => ⟨[(0, .sl 1 (sbs l)), (1, .fn (.func 64) [] [.ptr 0 0 0, .ptr 1 0 0]), (7, .int .i64 l.length), (8, .int .i64 i.1)], [(0, .cells 1 [.int .i64 n]), (1, .cells 1 [.int .i64 s])], 2⟩) (fun i => l.length - i.1) ⟨0, Nat.zero_le _, fun j x hj => absurd hj (Nat.not_lt_zero _)⟩ ?_ ?_
 ·exact le_to [] rfl rfl rfl rfl rfl ⟨rfl, rfl, by rw [← hlm]; rfl, rfl, trivial⟩ ⟨rfl, rfl, trivial⟩
 ·rintro ⟨i, hi, ha⟩
  dsimp only
  by_cases hlt : i < l.length
  ·obtain ⟨x, hx⟩ : ∃ x, l[i]? = some x := ⟨_, List.getElem?_eq_getElem hlt⟩
   have hxb : (sbs l)[((i : Nat) : Int).toNat]? = some (sb x) := by rw [Int.toNat_natCast, List.getElem?_map, hx]; rfl
   have hc := touch_1 x n s (hk x (List.mem_of_getElem? hx)) hn
   cases hp : decide (shardI x n = s) with
   | true =>
    rw [hp] at hc
    refine aw_seq ?_
    refine aw_region ?_
    refine st_p (OpP.conv (op_lt rfl rfl) (yes (by first | assumption | omega))) rfl ?_
    refine al_nil ?_
    refine nm ?_
    refine aw_seq ?_
    refine aw_yes (rfl) ?_
    refine aw_skip ?_
    refine nm ?_
    refine aw_seq ?_
    refine aw_block ?_
    refine aw_seq ?_
    refine aw_region ?_
    refine st_p (mv rfl) rfl ?_
    refine st_p (mva rfl) rfl ?_
    refine al_nil ?_
    refine nm ?_
    refine aw_seq ?_
    refine aw_region ?_
    refine st_p (mv rfl) rfl ?_
    refine st_p (mv rfl) rfl ?_
    refine st_p (mv rfl) rfl ?_
    refine st_p (op_indexAddrL Try.underlying71 z9 rfl rfl (by omega) (by first | assumption | rfl)) rfl ?_
    refine st_p (op_load1L Try.underlying9 rfl rfl rfl) rfl ?_
    refine st_o (op_callg [(0, 0), (1, 1)] 2 false [(0, .cells 1 [.int .i64 n]), (1, .cells 1 [.int .i64 s])] [0, 1] (hc) Try.func64 ⟨rfl, rfl⟩ rfl rfl rfl rfl (by omega) (by intro p hp; simp only [List.mem_cons, List.not_mem_nil, or_false] at hp; rcases hp with rfl | rfl <;> exact ⟨by first | rfl | ((simp [hget, swp, Blk.ren, AV.ren, ints, Function.comp_def]) <;> rfl), rfl⟩) rfl (.cons (.same (by rfl)) (.cons (.same (by rfl)) (.cons (.same (by rfl)) .nil))) rfl rfl rfl) rfl ?_
    refine al_nil ?_
    refine nm ?_
    refine aw_yes (rfl) ?_
    refine aw_seq ?_
    refine aw_region ?_
    refine st_p (mv rfl) rfl ?_
    refine st_p (mva rfl) rfl ?_
    refine al_nil ?_
    refine nm ?_
    refine aw_ret ?_
    refine rb ?_
    refine rs ?_
    refine rs ?_
    refine rb ?_
    refine rs ?_
    exact ret_a ⟨[(4, .int .i64 i)], [(0, .cells 1 [.int .i64 n]), (1, .cells 1 [.int .i64 s])], 2⟩ (le_to [] rfl rfl rfl rfl rfl ⟨rfl, trivial⟩ ⟨rfl, rfl, trivial⟩) (res1 Try.results86) (.inr ⟨rfl, rfl⟩) ⟨by rw [firstI_at hx hp (fun j y hj hy => ha j y hj hy)]; rfl, rfl, rfl⟩
   | false =>
    rw [hp] at hc
    refine aw_seq ?_
    refine aw_region ?_
    refine st_p (OpP.conv (op_lt rfl rfl) (yes (by first | assumption | omega))) rfl ?_
    refine al_nil ?_
    refine nm ?_
    refine aw_seq ?_
    refine aw_yes (rfl) ?_
    refine aw_skip ?_
    refine nm ?_
    refine aw_seq ?_
    refine aw_block ?_
    refine aw_seq ?_
    refine aw_region ?_
    refine st_p (mv rfl) rfl ?_
    refine st_p (mva rfl) rfl ?_
    refine al_nil ?_
    refine nm ?_
    refine aw_seq ?_
    refine aw_region ?_
    refine st_p (mv rfl) rfl ?_
    refine st_p (mv rfl) rfl ?_
    refine st_p (mv rfl) rfl ?_
    refine st_p (op_indexAddrL Try.underlying71 z9 rfl rfl (by omega) (by first | assumption | rfl)) rfl ?_
    refine st_p (op_load1L Try.underlying9 rfl rfl rfl) rfl ?_
    refine st_o (op_callg [(0, 0), (1, 1)] 2 false [(0, .cells 1 [.int .i64 n]), (1, .cells 1 [.int .i64 s])] [0, 1] (hc) Try.func64 ⟨rfl, rfl⟩ rfl rfl rfl rfl (by omega) (by intro p hp; simp only [List.mem_cons, List.not_mem_nil, or_false] at hp; rcases hp with rfl | rfl <;> exact ⟨by first | rfl | ((simp [hget, swp, Blk.ren, AV.ren, ints, Function.comp_def]) <;> rfl), rfl⟩) rfl (.cons (.same (by rfl)) (.cons (.same (by rfl)) (.cons (.same (by rfl)) .nil))) rfl rfl rfl) rfl ?_
    refine al_nil ?_
    refine nm ?_
    refine aw_no (rfl) ?_
    refine aw_skip ?_
    refine nmb ?_
    refine nm ?_
    refine aw_region ?_
    refine st_p (op_addi rfl rfl (by omega)) rfl ?_
    refine st_p (mv rfl) rfl ?_
    refine al_nil ?_
    refine nm ?_
    exact ⟨⟨i + 1, hlt, fun j y hj hy => by
     rcases Nat.lt_succ_iff_lt_or_eq.1 hj with h | rfl
     ·exact ha j y h hy
     ·rw [hx] at hy; obtain rfl := Option.some.inj hy; exact hp⟩, by dsimp only; omega, le_to [] rfl rfl rfl rfl rfl ⟨rfl, rfl, rfl, rfl, trivial⟩ ⟨rfl, rfl, trivial⟩⟩
  ·skip
   refine aw_seq ?_
   refine aw_region ?_
   refine st_p (OpP.conv (op_lt rfl rfl) (no (by first | assumption | omega))) rfl ?_
   refine al_nil ?_
   refine nm ?_
   refine aw_seq ?_
   refine aw_no (rfl) ?_
   refine aw_exit ?_
   refine xs ?_
   refine xs ?_
   refine xb ?_
   refine nm ?_
   refine aw_seq ?_
   refine aw_region ?_
   refine st_p (mva rfl) rfl ?_
   refine al_nil ?_
   refine nm ?_
   refine aw_ret ?_
   exact ret_a ⟨[(4, .int .i64 (-1))], [(0, .cells 1 [.int .i64 n]), (1, .cells 1 [.int .i64 s])], 2⟩ (le_to [] rfl rfl rfl rfl rfl ⟨rfl, trivial⟩ ⟨rfl, rfl, trivial⟩) (res1 Try.results86) (.inr ⟨rfl, rfl⟩) ⟨by rw [firstI_none (fun j y hy => ha j y (by have := (List.getElem?_eq_some_iff.1 hy).1; omega) hy)]; rfl, rfl, rfl⟩

theorem firstI_any {α : Type} (p : α → Bool) (l : List α) : 0 ≤ firstI p l ↔ l.any p = true := by
 have := firstI_all (fun x => !p x) l
 simp only [Bool.not_not] at this
 have e : (l.all fun x => !p x) = false ↔ l.any p = true := by rw [List.any_eq_true, List.all_eq_false]; simp
 exact ⟨fun h => e.1 (this.1 h), fun h => this.2 (e.2 h)⟩

theorem touch_contains (l : List (List UInt8)) (n s : Int) (hl : l.length ≤ 1000000) (hk : ∀ k ∈ l, k.length ≤ 281474976710656) (hn : n ≤ 9223372036854775807) :
  AC Try.prog 62 [.sl 1 (sbs l), .fn (.func 64) [] [.ptr 0 0 0, .ptr 1 0 0]] [(0, .cells 1 [.int .i64 n]), (1, .cells 1 [.int .i64 s])] 2 false
   (fun v h nx => v = .bool (l.any (fun k => decide (shardI k n = s))) ∧ h = [(0, .cells 1 [.int .i64 n]), (1, .cells 1 [.int .i64 s])] ∧ nx = 2) := by
 have hi := touch_index l n s hl hk hn
 have hs := firstI_any (fun k => decide (shardI k n = s)) l
 generalize firstI (fun k => decide (shardI k n = s)) l = q at hi hs
 cases ha : l.any (fun k => decide (shardI k n = s)) with
 | false =>
  have hneg : ¬ 0 ≤ q := fun h => by rw [hs.1 h] at ha; cases ha
  refine ac_fn Try.func62 rfl rfl rfl rfl (fun w0 S0 r0 => ?_)
  refine aw_seq ?_
  refine aw_region ?_
  refine st_p (mva rfl) rfl ?_
  refine al_nil ?_
  refine nm ?_
  refine aw_seq ?_
  refine aw_region ?_
  refine st_p (mv rfl) rfl ?_
  refine st_p (mv rfl) rfl ?_
  refine st_o (op_callg [(0, 0), (1, 1)] 2 false [(0, .cells 1 [.int .i64 n]), (1, .cells 1 [.int .i64 s])] [0, 1] (hi) Try.func86 ⟨rfl, rfl⟩ rfl rfl rfl rfl (by omega) (by intro p hp; simp only [List.mem_cons, List.not_mem_nil, or_false] at hp; rcases hp with rfl | rfl <;> exact ⟨by first | rfl | ((simp [hget, swp, Blk.ren, AV.ren, ints, Function.comp_def]) <;> rfl), rfl⟩) rfl (.cons (.same (by rfl)) (.cons (.same (by rfl)) .nil)) rfl rfl rfl) rfl ?_
  refine st_p (OpP.conv (op_ge rfl rfl) (no (by first | assumption | omega))) rfl ?_
  refine st_p (mva rfl) rfl ?_
  refine al_nil ?_
  refine nm ?_
  refine aw_ret ?_
  exact ret_a ⟨[(4, .bool false)], [(0, .cells 1 [.int .i64 n]), (1, .cells 1 [.int .i64 s])], 2⟩ (le_to [] rfl rfl rfl rfl rfl ⟨rfl, trivial⟩ ⟨rfl, rfl, trivial⟩) (res1 Try.results62) (.inr ⟨rfl, rfl⟩) ⟨rfl, rfl, rfl⟩
 | true =>
  have hpos : 0 ≤ q := hs.2 ha
  refine ac_fn Try.func62 rfl rfl rfl rfl (fun w0 S0 r0 => ?_)
  refine aw_seq ?_
  refine aw_region ?_
  refine st_p (mva rfl) rfl ?_
  refine al_nil ?_
  refine nm ?_
  refine aw_seq ?_
  refine aw_region ?_
  refine st_p (mv rfl) rfl ?_
  refine st_p (mv rfl) rfl ?_
  refine st_o (op_callg [(0, 0), (1, 1)] 2 false [(0, .cells 1 [.int .i64 n]), (1, .cells 1 [.int .i64 s])] [0, 1] (hi) Try.func86 ⟨rfl, rfl⟩ rfl rfl rfl rfl (by omega) (by intro p hp; simp only [List.mem_cons, List.not_mem_nil, or_false] at hp; rcases hp with rfl | rfl <;> exact ⟨by first | rfl | ((simp [hget, swp, Blk.ren, AV.ren, ints, Function.comp_def]) <;> rfl), rfl⟩) rfl (.cons (.same (by rfl)) (.cons (.same (by rfl)) .nil)) rfl rfl rfl) rfl ?_
  refine st_p (OpP.conv (op_ge rfl rfl) (yes (by first | assumption | omega))) rfl ?_
  refine st_p (mva rfl) rfl ?_
  refine al_nil ?_
  refine nm ?_
  refine aw_ret ?_
  exact ret_a ⟨[(4, .bool true)], [(0, .cells 1 [.int .i64 n]), (1, .cells 1 [.int .i64 s])], 2⟩ (le_to [] rfl rfl rfl rfl rfl ⟨rfl, trivial⟩ ⟨rfl, rfl, trivial⟩) (res1 Try.results62) (.inr ⟨rfl, rfl⟩) ⟨rfl, rfl, rfl⟩

theorem txn_Touches (t : TX) (s n : Int) (hr : t.reads.length ≤ 1000) (hw : t.writes.length ≤ 1000) (hkr : ∀ r ∈ t.reads, r.key.length ≤ 281474976710656) (hkw : ∀ w ∈ t.writes, w.key.length ≤ 281474976710656) (hn : n ≤ 9223372036854775807) :
  AC Try.prog 18 [txA t, .int .i64 s, .int .i64 n] [] 0 false (fun v h nx => v = .bool (touchB t s n) ∧ h = [] ∧ nx = 0) := by
 have hkeys := txn_keys t (by omega) (by omega)
 rw [show (t.reads.map fun r => sb r.key) = sbs (t.reads.map RD.key) from by simp [sbs, List.map_map, Function.comp_def], show (t.writes.map fun r => sb r.key) = sbs (t.writes.map WR.key) from by simp [sbs, List.map_map, Function.comp_def]] at hkeys
 have hT : touchB t s n = (t.reads.map RD.key ++ t.writes.map WR.key).any (fun k => decide (shardI k n = s)) := by unfold touchB; rw [List.any_append, List.any_map, List.any_map]; rfl
 have hlr : (t.reads.map RD.key).length = t.reads.length := List.length_map _
 have hlw : (t.writes.map WR.key).length = t.writes.length := List.length_map _
 have hcon := concat_strs [t.reads.map RD.key, t.writes.map WR.key] (by simp) (by simp; omega)
 have htc := touch_contains (t.reads.map RD.key ++ t.writes.map WR.key) n s (by rw [List.length_append]; omega) (fun k hk => by
  rcases List.mem_append.1 hk with h | h
  ·obtain ⟨r, hm, rfl⟩ := List.mem_map.1 h; exact hkr r hm
  ·obtain ⟨r, hm, rfl⟩ := List.mem_map.1 h; exact hkw r hm) hn
 rw [show [t.reads.map RD.key, t.writes.map WR.key].flatten = t.reads.map RD.key ++ t.writes.map WR.key from by simp] at hcon
 rw [hT]
 clear hT
 obtain ⟨ses, seq, rl, wl⟩ := t
 dsimp only [txA] at hkeys hr hw hlr hlw hcon htc ⊢
 generalize (rl.map RD.key ++ wl.map WR.key).any (fun k => decide (shardI k n = s)) = q at htc ⊢
 have hll : (sbs (rl.map RD.key)).length = rl.length := by rw [sbs_len]; exact hlr
 have hlw2 : (sbs (wl.map WR.key)).length = wl.length := by rw [sbs_len]; exact hlw
 have hp : ∀ l : List (List UInt8), (sbs l).all AV.plain = true := fun l => by simp [AV.plain, plains, sb, sbs]
 have hlc : (sbs (rl.map RD.key ++ wl.map WR.key)).length = (rl.map RD.key ++ wl.map WR.key).length := sbs_len _
 refine ac_fn Try.func18 rfl rfl rfl rfl (fun w0 S0 r0 => ?_)
 refine aw_seq ?_
 refine aw_region ?_
 refine st_o (bx rfl rfl) rfl ?_
 refine st_o (bx rfl rfl) rfl ?_
 refine st_o (bx rfl rfl) rfl ?_
 refine st_p (mva rfl) rfl ?_
 refine al_nil ?_
 refine nm ?_
 refine aw_seq ?_
 refine aw_region ?_
 refine st_p (op_loadA Try.underlying26 rfl z26 rfl rfl rfl rfl) rfl ?_
 refine st_o ((op_callq (hkeys) Try.func39 ⟨rfl, rfl⟩ rfl rfl (fun nx => (.cons (.same (by rfl)) .nil)) (by rintro _ _ _ ⟨rfl, rfl, rfl⟩; exact (Fzs.tup (.cons (.whole rfl hll.symm (hp _)) (.cons (.whole rfl hlw2.symm (hp _)) .nil))))).ok) rfl ?_
 refine st_p (mv rfl) rfl ?_
 refine st_p (op_extract rfl rfl) rfl ?_
 refine st_p (op_extract rfl rfl) rfl ?_
 refine st_p (mva rfl) rfl ?_
 refine st_p (mva rfl) rfl ?_
 refine al_nil ?_
 refine nm ?_
 refine aw_seq ?_
 refine aw_region ?_
 refine st_p (mv rfl) rfl ?_
 refine st_p (mv rfl) rfl ?_
 refine st_o (bsl Try.underlying120 i71 o71 (by decide) rfl rfl rfl (by decide)) rfl ?_
 refine st_o ((op_callq (hcon) Try.func63 ⟨rfl, rfl⟩ rfl rfl (fun nx => (.cons (.whole rfl rfl rfl (by first | rfl | simp) (by first | rfl | simp [Function.comp_def, AV.ren, sb]) (by first | rfl | simp [AV.plain, plains, bl_plain, sb, AV.ren])) .nil)) (by rintro _ _ _ ⟨rfl, rfl, rfl⟩; exact (.whole rfl hlc.symm (hp _)))).ok) rfl ?_
 refine st_p (mkf rfl rfl) rfl ?_
 refine st_o (op_callg [(0, 2), (1, 1)] 2 false [(0, .cells 1 [.int .i64 n]), (1, .cells 1 [.int .i64 s])] [2, 1] (htc) Try.func62 ⟨rfl, rfl⟩ rfl rfl rfl rfl (by omega) (by intro p hp; simp only [List.mem_cons, List.not_mem_nil, or_false] at hp; rcases hp with rfl | rfl <;> exact ⟨by first | rfl | ((simp [hget, swp, Blk.ren, AV.ren, ints, Function.comp_def]) <;> rfl), rfl⟩) rfl (.cons (.same (by rfl)) (.cons (.same (by rfl)) .nil)) rfl rfl rfl) rfl ?_
 refine st_p (mva rfl) rfl ?_
 refine al_nil ?_
 refine nm ?_
 refine aw_ret ?_
 exact ret_a ⟨[(6, .bool q)], [], 0⟩ (le_to [] rfl rfl rfl rfl rfl ⟨rfl, trivial⟩ trivial) (res1 Try.results18) (.inr ⟨rfl, rfl⟩) ⟨rfl, rfl, rfl⟩

end Go.Proofs.Ytpggknkhldecaaa.Abs
end
section
namespace Go.Proofs.Ytpggknkhldecaaa.Abs

theorem adjL_mem : ∀ (l : List Int) (x : Int), x ∈ adjL l ↔ x ∈ l
 | [], x => Iff.rfl
 | [a], x => Iff.rfl
 | a :: b :: t, x => by
  have ih := adjL_mem (b :: t) x
  simp only [adjL]
  split
  ·rename_i h
   subst h
   rw [ih]
   simp
  ·rw [List.mem_cons, ih, List.mem_cons (a := x) (b := a)]

theorem adjL_up : ∀ (l : List Int), l.Pairwise (· ≤ ·) → (adjL l).Pairwise (· < ·)
 | [], _ => List.Pairwise.nil
 | [a], _ => by simp [adjL]
 | a :: b :: t, h => by
  have ih := adjL_up (b :: t) (List.Pairwise.of_cons h)
  simp only [adjL]
  split
  ·exact ih
  ·rename_i hne
   refine List.Pairwise.cons (fun x hx => ?_) ih
   rw [adjL_mem] at hx
   have h1 := List.rel_of_pairwise_cons h List.mem_cons_self
   rcases List.mem_cons.1 hx with rfl | hx
   ·omega
   ·have := List.rel_of_pairwise_cons (List.Pairwise.of_cons h) hx
    omega

theorem up_of {l : List Int} (h : ∀ a b, a < b → b < l.length → l.getD a 0 ≤ l.getD b 0) : l.Pairwise (· ≤ ·) := by
 rw [List.pairwise_iff_getElem]
 intro i j hi hj hij
 have := h i j hij hj
 rw [List.getD_eq_getElem?_getD, List.getD_eq_getElem?_getD, List.getElem?_eq_getElem hi, List.getElem?_eq_getElem hj] at this
 exact this

theorem rise_ext : ∀ {l m : List Int}, l.Pairwise (· < ·) → m.Pairwise (· < ·) → (∀ x, x ∈ l ↔ x ∈ m) → l = m
 | [], [], _, _, _ => rfl
 | [], b :: m, _, _, h => by have := (h b).2 List.mem_cons_self; cases this
 | a :: l, [], _, _, h => by have := (h a).1 List.mem_cons_self; cases this
 | a :: l, b :: m, hl, hm, h => by
  have e : a = b := by
   rcases List.mem_cons.1 ((h a).1 List.mem_cons_self) with h1 | h1
   ·exact h1
   ·rcases List.mem_cons.1 ((h b).2 List.mem_cons_self) with h2 | h2
    ·exact h2.symm
    ·have := List.rel_of_pairwise_cons hm h1
     have := List.rel_of_pairwise_cons hl h2
     omega
  subst e
  rw [rise_ext (List.Pairwise.of_cons hl) (List.Pairwise.of_cons hm) fun x => ?_]
  constructor
  ·intro hx
   rcases List.mem_cons.1 ((h x).1 (List.mem_cons_of_mem _ hx)) with h1 | h1
   ·subst h1
    have := List.rel_of_pairwise_cons hl hx
    omega
   ·exact h1
  ·intro hx
   rcases List.mem_cons.1 ((h x).2 (List.mem_cons_of_mem _ hx)) with h1 | h1
   ·subst h1
    have := List.rel_of_pairwise_cons hm hx
    omega
   ·exact h1

theorem readsL_up (ks : List (List UInt8)) (n : Int) : (readsL ks n).Pairwise (· < ·) := by
 refine adjL_up _ (up_of fun a b hab hb => ?_)
 rw [sortL_len] at hb
 exact sortL_up _ _ (by omega) a b hab (by omega)

theorem readsL_mem (ks : List (List UInt8)) (n : Int) (x : Int) : x ∈ readsL ks n ↔ ∃ k ∈ ks, shardI k n = x := by
 unfold readsL
 rw [adjL_mem, sortL_mem _ _ (by omega)]
 unfold shardsL
 rw [List.mem_map]

theorem shardN_lt (n : Nat) (k : List UInt8) (hn : 0 < n) : shardN n k < n := by
 have key : ∀ (k : List UInt8) (s : Nat), s < n → k.foldl (fun s c => (s + c.toNat) % n) s < n := by
  intro k
  induction k with
  | nil => intro s hs; exact hs
  | cons c k ih => intro s hs; exact ih _ (Nat.mod_lt _ hn)
 exact key k 0 hn

theorem shardI_range (k : List UInt8) (n : Int) (hn : 1 ≤ n) : 0 ≤ shardI k n ∧ shardI k n < n := by
 unfold shardI
 rw [if_neg (by omega)]
 have := shardN_lt n.toNat k (by omega)
 omega

end Go.Proofs.Ytpggknkhldecaaa.Abs
end
section
namespace Go.Proofs.Ytpggknkhldecaaa.Abs

def upG (ks : List (List UInt8)) (n : Int) (k : Nat) : List Int := ((List.range k).map fun s : Nat => (s : Int)).filter fun s => ks.any fun x => decide (shardI x n = s)
theorem upG_snoc (ks : List (List UInt8)) (n : Int) (k : Nat) : upG ks n (k + 1) = upG ks n k ++ (if ks.any (fun x => decide (shardI x n = (k : Int))) then [(k : Int)] else []) := by
 unfold upG
 rw [List.range_succ, List.map_append, List.filter_append]
 cases h : ks.any (fun x => decide (shardI x n = (k : Int))) <;> simp [h]
theorem upG_len (ks : List (List UInt8)) (n : Int) (k : Nat) : (upG ks n k).length ≤ k := by
 unfold upG
 refine Nat.le_trans (List.length_filter_le _ _) ?_
 simp
theorem range_upG : ∀ k : Nat, ((List.range k).map fun s : Nat => (s : Int)).Pairwise (· < ·)
 | 0 => List.Pairwise.nil
 | k + 1 => by
  rw [List.range_succ, List.map_append, List.pairwise_append]
  refine ⟨range_upG k, by simp, fun x hx y hy => ?_⟩
  obtain ⟨i, hi, rfl⟩ := List.mem_map.1 hx
  simp only [List.map_cons, List.map_nil, List.mem_singleton] at hy
  subst hy
  have := List.mem_range.1 hi
  omega
theorem shardI_any (k : List UInt8) (n : Int) (N : Nat) (hN : max n 1 = (N : Int)) : 0 ≤ shardI k n ∧ shardI k n < (N : Int) := by
 by_cases h : 1 ≤ n
 ·have := shardI_range k n h
  omega
 ·unfold shardI
  rw [if_pos (by omega)]
  omega
theorem upG_reads (ks : List (List UInt8)) (n : Int) (N : Nat) (hN : max n 1 = (N : Int)) : upG ks n N = readsL ks n := by
 refine rise_ext ((range_upG N).sublist List.filter_sublist) (readsL_up ks n) fun x => ?_
 rw [readsL_mem]
 unfold upG
 rw [List.mem_filter, List.any_eq_true]
 constructor
 ·rintro ⟨_, k, hk, h⟩
  exact ⟨k, hk, of_decide_eq_true h⟩
 ·rintro ⟨k, hk, rfl⟩
  have := shardI_any k n N hN
  exact ⟨List.mem_map.2 ⟨(shardI k n).toNat, List.mem_range.2 (by omega), by omega⟩, k, hk, decide_eq_true rfl⟩
theorem any_snocG {α : Type} (f : α → Bool) (l : List α) (i : Nat) (x : α) (h : l[i]? = some x) : (l.take (i + 1)).any f = ((l.take i).any f || f x) := by
 rw [List.take_add_one, h, List.any_append]
 simp

theorem ref_ReadShardsG (t : TX) (n : Int) (hn : n ≤ 1000) (hr : t.reads.length ≤ 1000) (hkr : ∀ r ∈ t.reads, r.key.length ≤ 281474976710656) :
  AC Try.prog 17 [txA t, .int .i64 n] [] 0 false (fun v h nx => v = .own 0 0 (readsL (t.reads.map RD.key) n).length ∧ h = [(0, .cells 1 (ints (readsL (t.reads.map RD.key) n)))] ∧ nx = 1) := by
 have hsh : ∀ r ∈ t.reads, _ := fun r hm => ref_ShardOf r.key n (hkr r hm) (by omega)
 have hns : ∀ m : List Int, (Blk.cells 1 (ints m)).nosl = true := fun m => by simp [Blk.nosl, AV.nosl, ints]
 obtain ⟨N, hN⟩ : ∃ N : Nat, max n 1 = (N : Int) := ⟨(max n 1).toNat, by omega⟩
 have hN2 : N ≤ 1000 := by omega
 rw [← upG_reads _ n N hN]
 obtain ⟨ses, seq, rl, wl⟩ := t
 dsimp only [txA] at hr hsh ⊢
 have hram : (rl.map rdA).length = rl.length := List.length_map _
 refine ac_fn Try.func17 rfl rfl rfl rfl (fun w0 S0 r0 => ?_)
 refine aw_seq ?_
 refine aw_region ?_
 refine st_o (bx rfl rfl) rfl ?_
 refine st_p (mva rfl) rfl ?_
 refine al_nil ?_
 refine nm ?_
 refine aw_seq ?_
 refine aw_region ?_
 refine st_p (mva rfl) rfl ?_
 refine al_nil ?_
 refine nm ?_
 refine aw_seq ?_
 refine aw_seq ?_
 refine aw_region ?_
 refine st_p (mva rfl) rfl ?_
 refine al_nil ?_
 refine nm ?_
 refine aw_block ?_
 refine aw_virt 5 1 rfl ?_
 refine aw_loop (fun k : {k : Nat // k ≤ N} => ⟨[(1, .int .i64 n), (2, .ptr 0 0 0), (5, .own 1 0 (upG (rl.map RD.key) n k.1).length), (6, .int .i64 k.1)], [(0, .cells 4 [.agg [.int .i64 ses, .int .i64 seq, .sl 4 (rl.map rdA), .sl 3 (wl.map wrA)]]), (1, .cells 1 (ints (upG (rl.map RD.key) n k.1)))], 2⟩) (fun k => N - k.1) ⟨0, Nat.zero_le _⟩ ?_ ?_
 ·exact le_to [] rfl rfl rfl rfl rfl ⟨rfl, rfl, rfl, rfl, trivial⟩ ⟨rfl, rfl, trivial⟩
 ·rintro ⟨k, hk⟩
  dsimp only
  have hil := ints_len (upG (rl.map RD.key) n k)
  by_cases hlt : k < N
  ·have hsn := upG_snoc (rl.map RD.key) n k
   have hul := upG_len (rl.map RD.key) n k
   generalize upG (rl.map RD.key) n k = U at hil hsn hul ⊢
   refine aw_seq ?_
   refine aw_seq ?_
   refine aw_region ?_
   refine st_p (mv rfl) rfl ?_
   refine st_p (mv rfl) rfl ?_
   refine st_p (op_max rfl rfl) rfl ?_
   refine st_p (OpP.conv (op_lt rfl rfl) (yes (by first | assumption | omega))) rfl ?_
   refine al_nil ?_
   refine nm ?_
   refine aw_yes (rfl) ?_
   refine aw_skip ?_
   refine nm ?_
   refine aw_seq ?_
   refine aw_block ?_
   refine aw_seq ?_
   refine aw_region ?_
   refine st_p (mva rfl) rfl ?_
   refine al_nil ?_
   refine nm ?_
   refine aw_seq ?_
   refine aw_seq ?_
   refine aw_region ?_
   refine st_p (mva rfl) rfl ?_
   refine al_nil ?_
   refine nm ?_
   refine aw_block ?_
   refine aw_loop (fun i : {i : Nat // i ≤ rl.length} => ⟨[(1, .int .i64 n), (2, .ptr 0 0 0), (5, .own 1 0 U.length), (6, .int .i64 k), (7, .bool (((rl.map RD.key).take i.1).any fun x => decide (shardI x n = (k : Int)))), (8, .int .i64 i.1)], [(0, .cells 4 [.agg [.int .i64 ses, .int .i64 seq, .sl 4 (rl.map rdA), .sl 3 (wl.map wrA)]]), (1, .cells 1 (ints U))], 2⟩) (fun i => rl.length - i.1) ⟨0, Nat.zero_le _⟩ ?_ ?_
   ·exact le_to [] rfl rfl rfl rfl rfl ⟨rfl, rfl, rfl, rfl, rfl, rfl, trivial⟩ ⟨rfl, by rw [ren_intsB]; rfl, trivial⟩
   ·rintro ⟨i, hi⟩
    dsimp only
    by_cases hir : i < rl.length
    ·obtain ⟨x, hx⟩ : ∃ x, rl[i]? = some x := ⟨_, List.getElem?_eq_getElem hir⟩
     have hxb : (rl.map rdA)[((i : Nat) : Int).toNat]? = some (.agg [sb x.key, .int .i64 x.ver, sb x.val, .bool x.there]) := by rw [Int.toNat_natCast, List.getElem?_map, hx]; rfl
     have hs := hsh x (List.mem_of_getElem? hx)
     have han := any_snocG (fun x => decide (shardI x n = (k : Int))) (rl.map RD.key) i x.key (by rw [List.getElem?_map, hx]; rfl)
     cases hB : ((rl.map RD.key).take i).any fun x => decide (shardI x n = (k : Int)) with
     | true =>
      rw [hB, Bool.true_or] at han
      refine aw_seq ?_
      refine aw_seq ?_
      refine aw_region ?_
      refine st_p (mv rfl) rfl ?_
      refine st_p (op_fieldAddr Try.underlying26 rfl z23 (by decide) rfl) rfl ?_
      refine st_p (op_load1 Try.underlying23 rfl rfl rfl rfl rfl) rfl ?_
      refine st_p (op_len Try.underlying23 rfl) rfl ?_
      refine st_p (OpP.conv (op_lt rfl rfl) (yes (by first | assumption | omega))) rfl ?_
      refine al_nil ?_
      refine nm ?_
      refine aw_yes (rfl) ?_
      refine aw_skip ?_
      refine nm ?_
      refine aw_seq ?_
      refine aw_block ?_
      refine aw_region ?_
      refine st_p (mv rfl) rfl ?_
      refine st_p (mv rfl) rfl ?_
      refine st_s rfl rfl rfl rfl rfl ?_
      refine st_s rfl rfl rfl rfl rfl ?_
      refine st_s rfl rfl rfl rfl rfl ?_
      refine st_s rfl rfl rfl rfl rfl ?_
      refine st_s rfl rfl rfl rfl rfl ?_
      refine st_s rfl rfl rfl rfl rfl ?_
      refine st_s rfl rfl rfl rfl rfl ?_
      refine st_s rfl rfl rfl rfl rfl ?_
      refine st_s rfl rfl rfl rfl rfl ?_
      refine st_s rfl rfl rfl rfl rfl ?_
      refine st_p (pkT rfl rfl) rfl ?_
      refine st_p (mva rfl) rfl ?_
      refine al_nil ?_
      refine nmb ?_
      refine nm ?_
      refine aw_region ?_
      refine st_p (mv rfl) rfl ?_
      refine st_p (op_addi rfl rfl (by omega)) rfl ?_
      refine st_p (mva rfl) rfl ?_
      refine al_nil ?_
      refine nm ?_
      exact ⟨⟨i + 1, hir⟩, by dsimp only; omega, le_to [] rfl rfl rfl rfl rfl ⟨rfl, rfl, rfl, rfl, by rw [han]; rfl, rfl, trivial⟩ ⟨rfl, by rw [ren_intsB]; rfl, trivial⟩⟩
     | false =>
      rw [hB, Bool.false_or] at han
      refine aw_seq ?_
      refine aw_seq ?_
      refine aw_region ?_
      refine st_p (mv rfl) rfl ?_
      refine st_p (op_fieldAddr Try.underlying26 rfl z23 (by decide) rfl) rfl ?_
      refine st_p (op_load1 Try.underlying23 rfl rfl rfl rfl rfl) rfl ?_
      refine st_p (op_len Try.underlying23 rfl) rfl ?_
      refine st_p (OpP.conv (op_lt rfl rfl) (yes (by first | assumption | omega))) rfl ?_
      refine al_nil ?_
      refine nm ?_
      refine aw_yes (rfl) ?_
      refine aw_skip ?_
      refine nm ?_
      refine aw_seq ?_
      refine aw_block ?_
      refine aw_region ?_
      refine st_p (mv rfl) rfl ?_
      refine st_p (mv rfl) rfl ?_
      refine st_pg rfl rfl rfl (op_fieldAddr Try.underlying26 rfl z23 (by decide) rfl) rfl ?_
      refine st_pg rfl rfl rfl (op_load1 Try.underlying23 rfl rfl rfl rfl rfl) rfl ?_
      refine st_pg rfl rfl rfl (mv rfl) rfl ?_
      refine st_pg rfl rfl rfl (op_indexAddrL Try.underlying23 z67 rfl rfl (by omega) (by first | assumption | rfl)) rfl ?_
      refine st_pg rfl rfl rfl (op_fieldAddrL Try.underlying67 rfl z9 (by decide) rfl) rfl ?_
      refine st_pg rfl rfl rfl (op_load1L Try.underlying9 rfl rfl rfl) rfl ?_
      refine st_pg rfl rfl rfl (mv rfl) rfl ?_
      refine st_og rfl rfl rfl ((op_callq (hs) Try.func61 ⟨rfl, rfl⟩ rfl rfl (fun nx => (.cons (.same (by rfl)) (.cons (.same (by rfl)) .nil))) (by rintro _ _ _ ⟨rfl, rfl, rfl⟩; exact .same rfl)).ok) rfl ?_
      refine st_pg rfl rfl rfl (mv rfl) rfl ?_
      refine st_pg rfl rfl rfl (op_eq rfl rfl) rfl ?_
      refine st_p (pkF rfl rfl) rfl ?_
      refine st_p (mva rfl) rfl ?_
      refine al_nil ?_
      refine nmb ?_
      refine nm ?_
      refine aw_region ?_
      refine st_p (mv rfl) rfl ?_
      refine st_p (op_addi rfl rfl (by omega)) rfl ?_
      refine st_p (mva rfl) rfl ?_
      refine al_nil ?_
      refine nm ?_
      exact ⟨⟨i + 1, hir⟩, by dsimp only; omega, le_to [] rfl rfl rfl rfl rfl ⟨rfl, rfl, rfl, rfl, by rw [han]; rfl, rfl, trivial⟩ ⟨rfl, by rw [ren_intsB]; rfl, trivial⟩⟩
    ·rw [List.take_of_length_le (by rw [List.length_map]; omega)]
     cases hB : (rl.map RD.key).any fun x => decide (shardI x n = (k : Int)) with
     | true =>
      rw [hB, if_pos rfl] at hsn
      refine aw_seq ?_
      refine aw_seq ?_
      refine aw_region ?_
      refine st_p (mv rfl) rfl ?_
      refine st_p (op_fieldAddr Try.underlying26 rfl z23 (by decide) rfl) rfl ?_
      refine st_p (op_load1 Try.underlying23 rfl rfl rfl rfl rfl) rfl ?_
      refine st_p (op_len Try.underlying23 rfl) rfl ?_
      refine st_p (OpP.conv (op_lt rfl rfl) (no (by first | assumption | omega))) rfl ?_
      refine al_nil ?_
      refine nm ?_
      refine aw_no (rfl) ?_
      refine aw_exit ?_
      refine xs ?_
      refine xs ?_
      refine xb ?_
      refine nm ?_
      refine aw_seq ?_
      refine aw_region ?_
      refine st_p (mv rfl) rfl ?_
      refine al_nil ?_
      refine nm ?_
      refine aw_yes (rfl) ?_
      refine aw_region ?_
      refine st_p (mv rfl) rfl ?_
      refine st_p (mv rfl) rfl ?_
      refine st_o (bsl Try.underlying35 i3 o3 (by decide) rfl rfl rfl (by decide)) rfl ?_
      refine st_o (op_app Try.underlying35 Try.underlying35 (.inl ⟨_, rfl⟩) i3 o3 rfl rfl rfl (by first | rfl | omega | (simp; done) | (simp; omega)) ((SrcA.whole rfl (by first | rfl | (simp; done))).ok rfl (by first | assumption | intro z hz; simp only [List.mem_singleton, List.drop_zero, List.take_succ_cons, List.take_zero, List.mem_cons, List.not_mem_nil, or_false, List.mem_map] at hz; first | (subst hz; rfl) | (obtain ⟨_, _, rfl⟩ := hz; rfl) | (rcases hz with rfl | rfl <;> rfl))) (by first | omega | (simp; try omega)) rfl) rfl ?_
      refine st_p (mva rfl) rfl ?_
      refine al_nil ?_
      refine nmb ?_
      refine nm ?_
      refine aw_region ?_
      refine st_p (mv rfl) rfl ?_
      refine st_p (op_addi rfl rfl (by omega)) rfl ?_
      refine st_p (mva rfl) rfl ?_
      refine al_nil ?_
      refine nm ?_
      refine ⟨⟨k + 1, hlt⟩, by dsimp only; omega, le_to [(1, 3)] rfl rfl rfl rfl rfl ⟨rfl, rfl, ?_, rfl, trivial⟩ ⟨rfl, ?_, trivial⟩⟩
      ·simp only [tget, AV.ren, swp]
       simp [hil, hsn]
      ·rw [ren_intsB, hsn]
       simp [hget, swp, ints]
     | false =>
      rw [hB, if_neg (by decide), List.append_nil] at hsn
      refine aw_seq ?_
      refine aw_seq ?_
      refine aw_region ?_
      refine st_p (mv rfl) rfl ?_
      refine st_p (op_fieldAddr Try.underlying26 rfl z23 (by decide) rfl) rfl ?_
      refine st_p (op_load1 Try.underlying23 rfl rfl rfl rfl rfl) rfl ?_
      refine st_p (op_len Try.underlying23 rfl) rfl ?_
      refine st_p (OpP.conv (op_lt rfl rfl) (no (by first | assumption | omega))) rfl ?_
      refine al_nil ?_
      refine nm ?_
      refine aw_no (rfl) ?_
      refine aw_exit ?_
      refine xs ?_
      refine xs ?_
      refine xb ?_
      refine nm ?_
      refine aw_seq ?_
      refine aw_region ?_
      refine st_p (mv rfl) rfl ?_
      refine al_nil ?_
      refine nm ?_
      refine aw_no (rfl) ?_
      refine aw_skip ?_
      refine nmb ?_
      refine nm ?_
      refine aw_region ?_
      refine st_p (mv rfl) rfl ?_
      refine st_p (op_addi rfl rfl (by omega)) rfl ?_
      refine st_p (mva rfl) rfl ?_
      refine al_nil ?_
      refine nm ?_
      exact ⟨⟨k + 1, hlt⟩, by dsimp only; omega, le_to [] rfl rfl rfl rfl rfl ⟨rfl, rfl, by dsimp only; rw [hsn]; rfl, rfl, trivial⟩ ⟨rfl, by rw [ren_intsB, hsn]; rfl, trivial⟩⟩
  ·have hin : k = N := by omega
   subst hin
   generalize upG (rl.map RD.key) n k = U at hil ⊢
   refine aw_seq ?_
   refine aw_seq ?_
   refine aw_region ?_
   refine st_p (mv rfl) rfl ?_
   refine st_p (mv rfl) rfl ?_
   refine st_p (op_max rfl rfl) rfl ?_
   refine st_p (OpP.conv (op_lt rfl rfl) (no (by first | assumption | omega))) rfl ?_
   refine al_nil ?_
   refine nm ?_
   refine aw_no (rfl) ?_
   refine aw_exit ?_
   refine xs ?_
   refine xs ?_
   refine xb ?_
   refine nm ?_
   refine aw_seq ?_
   refine aw_region ?_
   refine st_p (mv rfl) rfl ?_
   refine st_p (mva rfl) rfl ?_
   refine al_nil ?_
   refine nm ?_
   refine aw_ret ?_
   exact ret_a ⟨[(4, .own 0 0 U.length)], [(0, .cells 1 (ints U))], 1⟩ (le_to [(0, 1)] rfl rfl rfl rfl rfl ⟨rfl, trivial⟩ ⟨by rw [ren_intsB]; rfl, trivial⟩) (res1 Try.results17) (.inr ⟨rfl, by simp only [List.all_cons, List.all_nil, hns, Bool.and_true]⟩) ⟨rfl, rfl, rfl⟩

end Go.Proofs.Ytpggknkhldecaaa.Abs
end
section
namespace Go.Proofs.Ytpggknkhldecaaa.Abs

def rdrB (b : List UInt8) (n : Nat) (bad : Bool) : Blk := .cells 3 [.agg [.sl 1 (bl b), .int .i64 n, .bool bad]]

def numS (b : List UInt8) (s : Nat × Bool) : Nat × Nat × Bool := match takeNum (b.drop s.1) with
 | some (v, k) => (v, s.1 + k, s.2)
 | none => (0, s.1, true)
def textS (b : List UInt8) (s : Nat × Bool) : List UInt8 × Nat × Bool := match takeText (b.drop s.1) with
 | some (v, k) => (v, s.1 + k, s.2)
 | none => ([], s.1, true)

theorem takeText_spec {l v : List UInt8} {n : Nat} (h : takeText l = some (v, n)) : n ≤ l.length ∧ 1 ≤ n ∧ v.length ≤ 255 := by
 unfold takeText at h
 split at h
 ·rename_i q k hq
  obtain ⟨h1, h2, h3, h4⟩ := takeNum_spec hq
  split at h
  ·rename_i hc
   obtain ⟨rfl, rfl⟩ := Prod.mk.inj (Option.some.inj h)
   refine ⟨by omega, by omega, ?_⟩
   rw [List.length_take]
   omega
  ·cases h
 ·cases h

theorem numS_le (b : List UInt8) (s : Nat × Bool) (h : s.1 ≤ b.length) : (numS b s).2.1 ≤ b.length ∧ s.1 ≤ (numS b s).2.1 ∧ (numS b s).1 ≤ 9223372036854775807 ∧ ((numS b s).2.2 = false → s.2 = false ∧ s.1 + 1 ≤ (numS b s).2.1) := by
 unfold numS
 split
 ·rename_i v k hq
  obtain ⟨h1, h2, h3, h4⟩ := takeNum_spec hq
  rw [List.length_drop] at h1
  exact ⟨by dsimp only; omega, by dsimp only; omega, h4, fun e => ⟨e, by dsimp only; omega⟩⟩
 ·exact ⟨h, Nat.le_refl _, by simp, fun e => by cases e⟩

theorem textS_le (b : List UInt8) (s : Nat × Bool) (h : s.1 ≤ b.length) : (textS b s).2.1 ≤ b.length ∧ s.1 ≤ (textS b s).2.1 ∧ (textS b s).1.length ≤ 255 ∧ ((textS b s).2.2 = false → s.2 = false ∧ s.1 + 1 ≤ (textS b s).2.1) := by
 unfold textS
 split
 ·rename_i v k hq
  obtain ⟨h1, h2, h3⟩ := takeText_spec hq
  rw [List.length_drop] at h1
  exact ⟨by dsimp only; omega, by dsimp only; omega, h3, fun e => ⟨e, by dsimp only; omega⟩⟩
 ·exact ⟨h, Nat.le_refl _, by simp, fun e => by cases e⟩

set_option maxRecDepth 100000 in
theorem rdr_goes (b : List UInt8) (n k : Nat) (bad ok : Bool) (hn : n + k ≤ 1000000) :
  AC Try.prog 89 [.ptr 0 0 0, .int .i64 k, .bool ok] [(0, rdrB b n bad)] 1 true (fun v h nx => v = .tup [] ∧ h = [(0, rdrB b (n + k) (bad || !ok))] ∧ nx = 1) := by
 unfold rdrB
 generalize bl b = B
 cases bad with
 | true =>
  refine ac_fn Try.func89 rfl rfl rfl rfl (fun w0 S0 r0 => ?_)
  refine aw_seq ?_
  refine aw_region ?_
  refine st_p (mv rfl) rfl ?_
  refine st_p (mv rfl) rfl ?_
  refine st_p (op_nilCheck rfl trivial) rfl ?_
  refine st_p (op_fieldAddr Try.underlying95 rfl z4 (by decide) rfl) rfl ?_
  refine st_p (op_load1 Try.underlying4 rfl rfl rfl rfl rfl) rfl ?_
  refine st_p (mv rfl) rfl ?_
  refine st_s rfl rfl rfl rfl rfl ?_
  refine st_s rfl rfl rfl rfl rfl ?_
  refine st_p (pkT rfl rfl) rfl ?_
  refine st_p (op_nilCheck rfl trivial) rfl ?_
  refine st_p (op_fieldAddr Try.underlying95 rfl z4 (by decide) rfl) rfl ?_
  refine st_n (stA z4 rfl rfl rfl rfl rfl rfl rfl rfl rfl rfl) ?_
  refine al_nil ?_
  refine nm ?_
  refine aw_region ?_
  refine st_p (mv rfl) rfl ?_
  refine st_p (op_nilCheck rfl trivial) rfl ?_
  refine st_p (op_fieldAddr Try.underlying95 rfl z3 (by decide) rfl) rfl ?_
  refine st_p (op_load1 Try.underlying3 rfl rfl rfl rfl rfl) rfl ?_
  refine st_p (mv rfl) rfl ?_
  refine st_p (op_addi rfl rfl (by omega)) rfl ?_
  refine st_p (op_nilCheck rfl trivial) rfl ?_
  refine st_p (op_fieldAddr Try.underlying95 rfl z3 (by decide) rfl) rfl ?_
  refine st_n (stA z3 rfl rfl rfl rfl rfl rfl rfl rfl rfl rfl) ?_
  refine al_nil ?_
  exact ret_n ⟨[], [(0, .cells 3 [.agg [.sl 1 B, .int .i64 (n + k : Nat), .bool true]])], 1⟩ (le_to [] rfl rfl rfl rfl rfl trivial ⟨by simp only [Blk.ren, hget, AV.ren, rens, List.map_cons, List.map_nil]; rfl, trivial⟩) (res0 Try.results89) (.inl rfl) ⟨rfl, rfl, rfl⟩
 | false =>
  cases ok with
  | true =>
   refine ac_fn Try.func89 rfl rfl rfl rfl (fun w0 S0 r0 => ?_)
   refine aw_seq ?_
   refine aw_region ?_
   refine st_p (mv rfl) rfl ?_
   refine st_p (mv rfl) rfl ?_
   refine st_p (op_nilCheck rfl trivial) rfl ?_
   refine st_p (op_fieldAddr Try.underlying95 rfl z4 (by decide) rfl) rfl ?_
   refine st_p (op_load1 Try.underlying4 rfl rfl rfl rfl rfl) rfl ?_
   refine st_p (mv rfl) rfl ?_
   refine st_pg rfl rfl rfl (mv rfl) rfl ?_
   refine st_pg rfl rfl rfl (op_notT rfl) rfl ?_
   refine st_p (pkF rfl rfl) rfl ?_
   refine st_p (op_nilCheck rfl trivial) rfl ?_
   refine st_p (op_fieldAddr Try.underlying95 rfl z4 (by decide) rfl) rfl ?_
   refine st_n (stA z4 rfl rfl rfl rfl rfl rfl rfl rfl rfl rfl) ?_
   refine al_nil ?_
   refine nm ?_
   refine aw_region ?_
   refine st_p (mv rfl) rfl ?_
   refine st_p (op_nilCheck rfl trivial) rfl ?_
   refine st_p (op_fieldAddr Try.underlying95 rfl z3 (by decide) rfl) rfl ?_
   refine st_p (op_load1 Try.underlying3 rfl rfl rfl rfl rfl) rfl ?_
   refine st_p (mv rfl) rfl ?_
   refine st_p (op_addi rfl rfl (by omega)) rfl ?_
   refine st_p (op_nilCheck rfl trivial) rfl ?_
   refine st_p (op_fieldAddr Try.underlying95 rfl z3 (by decide) rfl) rfl ?_
   refine st_n (stA z3 rfl rfl rfl rfl rfl rfl rfl rfl rfl rfl) ?_
   refine al_nil ?_
   exact ret_n ⟨[], [(0, .cells 3 [.agg [.sl 1 B, .int .i64 (n + k : Nat), .bool false]])], 1⟩ (le_to [] rfl rfl rfl rfl rfl trivial ⟨by simp only [Blk.ren, hget, AV.ren, rens, List.map_cons, List.map_nil]; rfl, trivial⟩) (res0 Try.results89) (.inl rfl) ⟨rfl, rfl, rfl⟩
  | false =>
   refine ac_fn Try.func89 rfl rfl rfl rfl (fun w0 S0 r0 => ?_)
   refine aw_seq ?_
   refine aw_region ?_
   refine st_p (mv rfl) rfl ?_
   refine st_p (mv rfl) rfl ?_
   refine st_p (op_nilCheck rfl trivial) rfl ?_
   refine st_p (op_fieldAddr Try.underlying95 rfl z4 (by decide) rfl) rfl ?_
   refine st_p (op_load1 Try.underlying4 rfl rfl rfl rfl rfl) rfl ?_
   refine st_p (mv rfl) rfl ?_
   refine st_pg rfl rfl rfl (mv rfl) rfl ?_
   refine st_pg rfl rfl rfl (op_notF rfl) rfl ?_
   refine st_p (pkF rfl rfl) rfl ?_
   refine st_p (op_nilCheck rfl trivial) rfl ?_
   refine st_p (op_fieldAddr Try.underlying95 rfl z4 (by decide) rfl) rfl ?_
   refine st_n (stA z4 rfl rfl rfl rfl rfl rfl rfl rfl rfl rfl) ?_
   refine al_nil ?_
   refine nm ?_
   refine aw_region ?_
   refine st_p (mv rfl) rfl ?_
   refine st_p (op_nilCheck rfl trivial) rfl ?_
   refine st_p (op_fieldAddr Try.underlying95 rfl z3 (by decide) rfl) rfl ?_
   refine st_p (op_load1 Try.underlying3 rfl rfl rfl rfl rfl) rfl ?_
   refine st_p (mv rfl) rfl ?_
   refine st_p (op_addi rfl rfl (by omega)) rfl ?_
   refine st_p (op_nilCheck rfl trivial) rfl ?_
   refine st_p (op_fieldAddr Try.underlying95 rfl z3 (by decide) rfl) rfl ?_
   refine st_n (stA z3 rfl rfl rfl rfl rfl rfl rfl rfl rfl rfl) ?_
   refine al_nil ?_
   exact ret_n ⟨[], [(0, .cells 3 [.agg [.sl 1 B, .int .i64 (n + k : Nat), .bool true]])], 1⟩ (le_to [] rfl rfl rfl rfl rfl trivial ⟨by simp only [Blk.ren, hget, AV.ren, rens, List.map_cons, List.map_nil]; rfl, trivial⟩) (res0 Try.results89) (.inl rfl) ⟨rfl, rfl, rfl⟩

theorem bl_from (b : List UInt8) (n : Nat) : List.take ((((bl b).length : Nat) : Int).toNat - ((n : Nat) : Int).toNat) (List.drop ((n : Nat) : Int).toNat (bl b)) = bl (b.drop n) := by
 rw [Int.toNat_natCast, Int.toNat_natCast, List.take_of_length_le (by rw [List.length_drop]; exact Nat.le_refl _)]
 simp [bl, List.map_drop]

set_option maxRecDepth 100000 in
theorem rdr_num (b : List UInt8) (n : Nat) (bad : Bool) (hb : b.length ≤ 100000) (hn : n ≤ b.length) :
  AC Try.prog 65 [.ptr 0 0 0] [(0, rdrB b n bad)] 1 true (fun v h nx => v = .int .i64 (numS b (n, bad)).1 ∧ h = [(0, rdrB b (numS b (n, bad)).2.1 (numS b (n, bad)).2.2)] ∧ nx = 1) := by
 have ht := num_Take (b.drop n)
 have hbl : (bl b).length = b.length := bl_len b
 rw [← bl_from] at ht
 unfold numS
 dsimp only
 cases hq : takeNum (b.drop n) with
 | none =>
  rw [hq] at ht
  dsimp only [numA] at ht ⊢
  have hg := rdr_goes b n 0 bad false (by omega)
  rw [Bool.not_false, Bool.or_true, Nat.add_zero] at hg
  unfold rdrB at hg ⊢
  refine ac_fn Try.func65 rfl rfl rfl rfl (fun w0 S0 r0 => ?_)
  refine aw_seq ?_
  refine aw_region ?_
  refine st_p (mva rfl) rfl ?_
  refine al_nil ?_
  refine nm ?_
  refine aw_seq ?_
  refine dr_go ?_
  refine dr_f 0 0 [0] rfl (fun H => mv rfl) ?_
  refine dr_f 0 0 [7] rfl (fun H => op_nilCheck rfl trivial) ?_
  refine dr_f 0 0 [8] rfl (fun H => op_fieldAddr Try.underlying95 rfl z22 (by decide) rfl) ?_
  refine dr_q 0 0 [9] rfl (op_load1 Try.underlying22 rfl rfl rfl rfl rfl) ?_
  refine dr_f 0 0 [0] rfl (fun H => mv rfl) ?_
  refine dr_f 0 0 [11] rfl (fun H => op_nilCheck rfl trivial) ?_
  refine dr_f 0 0 [12] rfl (fun H => op_fieldAddr Try.underlying95 rfl z3 (by decide) rfl) ?_
  refine dr_q 0 0 [13] rfl (op_load1 Try.underlying3 rfl rfl rfl rfl rfl) ?_
  refine dr_q 0 0 [10, 14] rfl (op_sliceL Try.underlying22 z5 rfl (by exact ⟨_, rfl⟩) (by exact rfl) (by first | omega | (simp only [bl_len, List.length_map, List.length_append, List.length_take, List.length_drop]; omega)) (by first | omega | (simp only [bl_len, List.length_map, List.length_append, List.length_take, List.length_drop]; omega)) (by first | omega | (simp only [bl_len, List.length_map, List.length_append, List.length_take, List.length_drop]; omega))) ?_
  refine dr_fq 0 0 [15] rfl (fun H => op_callq (ht) Try.func88 ⟨rfl, rfl⟩ rfl rfl (fun nx => (.cons (.same (by rfl)) .nil)) (by rintro _ _ _ ⟨rfl, rfl, rfl⟩; exact .same rfl)) ?_
  refine dr_f 0 0 [16] rfl (fun H => mv rfl) ?_
  refine dr_f 0 0 [6] rfl (fun H => op_extract rfl rfl) ?_
  refine dr_f 0 0 [6] rfl (fun H => op_extract rfl rfl) ?_
  refine dr_f 0 0 [6] rfl (fun H => op_extract rfl rfl) ?_
  refine dr_f 0 0 [17] rfl (fun H => mva rfl) ?_
  refine dr_f 0 0 [18] rfl (fun H => mva rfl) ?_
  refine dr_f 0 0 [19] rfl (fun H => mva rfl) ?_
  refine dr_end [] (by kernel_rfl) (by kernel_rfl) (by kernel_rfl) (by kernel_rfl) trivial ?_
  refine nm ?_
  refine aw_seq ?_
  refine aw_region ?_
  refine st_p (mv rfl) rfl ?_
  refine st_p (mv rfl) rfl ?_
  refine st_p (mv rfl) rfl ?_
  refine st_o (op_callg [(0, 0)] 1 true [(0, .cells 3 [.agg [.sl 1 (bl b), .int .i64 n, .bool bad]])] [0] (hg) Try.func89 ⟨rfl, rfl⟩ rfl rfl rfl rfl (by omega) (by intro p hp; simp only [List.mem_cons, List.not_mem_nil, or_false] at hp; rcases hp with rfl | rfl <;> exact ⟨by first | rfl | ((simp [hget, swp, Blk.ren, AV.ren, ints, Function.comp_def]) <;> rfl), rfl⟩) rfl (.cons (.same (by rfl)) (.cons (.same (by rfl)) (.cons (.same (by rfl)) .nil))) rfl rfl rfl) rfl ?_
  refine al_nil ?_
  refine nm ?_
  refine aw_seq ?_
  refine aw_region ?_
  refine st_p (mv rfl) rfl ?_
  refine st_p (mva rfl) rfl ?_
  refine al_nil ?_
  refine nm ?_
  refine aw_ret ?_
  exact ret_a ⟨[(2, .int .i64 0)], [(0, .cells 3 [.agg [.sl 1 (bl b), .int .i64 n, .bool true]])], 1⟩ (le_to [] rfl rfl rfl rfl rfl ⟨rfl, trivial⟩ ⟨rfl, trivial⟩) (res1 Try.results65) (.inl rfl) ⟨rfl, rfl, rfl⟩
 | some vk =>
  obtain ⟨v, k⟩ := vk
  obtain ⟨h1, h2, h3, h4⟩ := takeNum_spec hq
  rw [List.length_drop] at h1
  rw [hq] at ht
  dsimp only [numA] at ht ⊢
  have hg := rdr_goes b n k bad true (by omega)
  rw [Bool.not_true, Bool.or_false] at hg
  unfold rdrB at hg ⊢
  refine ac_fn Try.func65 rfl rfl rfl rfl (fun w0 S0 r0 => ?_)
  refine aw_seq ?_
  refine aw_region ?_
  refine st_p (mva rfl) rfl ?_
  refine al_nil ?_
  refine nm ?_
  refine aw_seq ?_
  refine dr_go ?_
  refine dr_f 0 0 [0] rfl (fun H => mv rfl) ?_
  refine dr_f 0 0 [7] rfl (fun H => op_nilCheck rfl trivial) ?_
  refine dr_f 0 0 [8] rfl (fun H => op_fieldAddr Try.underlying95 rfl z22 (by decide) rfl) ?_
  refine dr_q 0 0 [9] rfl (op_load1 Try.underlying22 rfl rfl rfl rfl rfl) ?_
  refine dr_f 0 0 [0] rfl (fun H => mv rfl) ?_
  refine dr_f 0 0 [11] rfl (fun H => op_nilCheck rfl trivial) ?_
  refine dr_f 0 0 [12] rfl (fun H => op_fieldAddr Try.underlying95 rfl z3 (by decide) rfl) ?_
  refine dr_q 0 0 [13] rfl (op_load1 Try.underlying3 rfl rfl rfl rfl rfl) ?_
  refine dr_q 0 0 [10, 14] rfl (op_sliceL Try.underlying22 z5 rfl (by exact ⟨_, rfl⟩) (by exact rfl) (by first | omega | (simp only [bl_len, List.length_map, List.length_append, List.length_take, List.length_drop]; omega)) (by first | omega | (simp only [bl_len, List.length_map, List.length_append, List.length_take, List.length_drop]; omega)) (by first | omega | (simp only [bl_len, List.length_map, List.length_append, List.length_take, List.length_drop]; omega))) ?_
  refine dr_fq 0 0 [15] rfl (fun H => op_callq (ht) Try.func88 ⟨rfl, rfl⟩ rfl rfl (fun nx => (.cons (.same (by rfl)) .nil)) (by rintro _ _ _ ⟨rfl, rfl, rfl⟩; exact .same rfl)) ?_
  refine dr_f 0 0 [16] rfl (fun H => mv rfl) ?_
  refine dr_f 0 0 [6] rfl (fun H => op_extract rfl rfl) ?_
  refine dr_f 0 0 [6] rfl (fun H => op_extract rfl rfl) ?_
  refine dr_f 0 0 [6] rfl (fun H => op_extract rfl rfl) ?_
  refine dr_f 0 0 [17] rfl (fun H => mva rfl) ?_
  refine dr_f 0 0 [18] rfl (fun H => mva rfl) ?_
  refine dr_f 0 0 [19] rfl (fun H => mva rfl) ?_
  refine dr_end [] (by kernel_rfl) (by kernel_rfl) (by kernel_rfl) (by kernel_rfl) trivial ?_
  refine nm ?_
  refine aw_seq ?_
  refine aw_region ?_
  refine st_p (mv rfl) rfl ?_
  refine st_p (mv rfl) rfl ?_
  refine st_p (mv rfl) rfl ?_
  refine st_o (op_callg [(0, 0)] 1 true [(0, .cells 3 [.agg [.sl 1 (bl b), .int .i64 n, .bool bad]])] [0] (hg) Try.func89 ⟨rfl, rfl⟩ rfl rfl rfl rfl (by omega) (by intro p hp; simp only [List.mem_cons, List.not_mem_nil, or_false] at hp; rcases hp with rfl | rfl <;> exact ⟨by first | rfl | ((simp [hget, swp, Blk.ren, AV.ren, ints, Function.comp_def]) <;> rfl), rfl⟩) rfl (.cons (.same (by rfl)) (.cons (.same (by rfl)) (.cons (.same (by rfl)) .nil))) rfl rfl rfl) rfl ?_
  refine al_nil ?_
  refine nm ?_
  refine aw_seq ?_
  refine aw_region ?_
  refine st_p (mv rfl) rfl ?_
  refine st_p (mva rfl) rfl ?_
  refine al_nil ?_
  refine nm ?_
  refine aw_ret ?_
  exact ret_a ⟨[(2, .int .i64 v)], [(0, .cells 3 [.agg [.sl 1 (bl b), .int .i64 (n + k : Nat), .bool bad]])], 1⟩ (le_to [] rfl rfl rfl rfl rfl ⟨rfl, trivial⟩ ⟨rfl, trivial⟩) (res1 Try.results65) (.inl rfl) ⟨rfl, rfl, rfl⟩

set_option maxRecDepth 100000 in
theorem rdr_text (b : List UInt8) (n : Nat) (bad : Bool) (hb : b.length ≤ 100000) (hn : n ≤ b.length) :
  AC Try.prog 66 [.ptr 0 0 0] [(0, rdrB b n bad)] 1 true (fun v h nx => v = sb (textS b (n, bad)).1 ∧ h = [(0, rdrB b (textS b (n, bad)).2.1 (textS b (n, bad)).2.2)] ∧ nx = 1) := by
 have ht := num_TakeText (b.drop n) (by rw [List.length_drop]; omega)
 have hbl : (bl b).length = b.length := bl_len b
 rw [← bl_from] at ht
 unfold textS
 dsimp only
 cases hq : takeText (b.drop n) with
 | none =>
  rw [hq] at ht
  dsimp only [textA] at ht ⊢
  have hg := rdr_goes b n 0 bad false (by omega)
  rw [Bool.not_false, Bool.or_true, Nat.add_zero] at hg
  unfold rdrB at hg ⊢
  refine ac_fn Try.func66 rfl rfl rfl rfl (fun w0 S0 r0 => ?_)
  refine aw_seq ?_
  refine aw_region ?_
  refine st_p (mva rfl) rfl ?_
  refine al_nil ?_
  refine nm ?_
  refine aw_seq ?_
  refine dr_go ?_
  refine dr_f 0 0 [0] rfl (fun H => mv rfl) ?_
  refine dr_f 0 0 [7] rfl (fun H => op_nilCheck rfl trivial) ?_
  refine dr_f 0 0 [8] rfl (fun H => op_fieldAddr Try.underlying95 rfl z22 (by decide) rfl) ?_
  refine dr_q 0 0 [9] rfl (op_load1 Try.underlying22 rfl rfl rfl rfl rfl) ?_
  refine dr_f 0 0 [0] rfl (fun H => mv rfl) ?_
  refine dr_f 0 0 [11] rfl (fun H => op_nilCheck rfl trivial) ?_
  refine dr_f 0 0 [12] rfl (fun H => op_fieldAddr Try.underlying95 rfl z3 (by decide) rfl) ?_
  refine dr_q 0 0 [13] rfl (op_load1 Try.underlying3 rfl rfl rfl rfl rfl) ?_
  refine dr_q 0 0 [10, 14] rfl (op_sliceL Try.underlying22 z5 rfl (by exact ⟨_, rfl⟩) (by exact rfl) (by first | omega | (simp only [bl_len, List.length_map, List.length_append, List.length_take, List.length_drop]; omega)) (by first | omega | (simp only [bl_len, List.length_map, List.length_append, List.length_take, List.length_drop]; omega)) (by first | omega | (simp only [bl_len, List.length_map, List.length_append, List.length_take, List.length_drop]; omega))) ?_
  refine dr_fq 0 0 [15] rfl (fun H => op_callq (ht) Try.func90 ⟨rfl, rfl⟩ rfl rfl (fun nx => (.cons (.same (by rfl)) .nil)) (by rintro _ _ _ ⟨rfl, rfl, rfl⟩; exact .same rfl)) ?_
  refine dr_f 0 0 [16] rfl (fun H => mv rfl) ?_
  refine dr_f 0 0 [6] rfl (fun H => op_extract rfl rfl) ?_
  refine dr_f 0 0 [6] rfl (fun H => op_extract rfl rfl) ?_
  refine dr_f 0 0 [6] rfl (fun H => op_extract rfl rfl) ?_
  refine dr_f 0 0 [17] rfl (fun H => mva rfl) ?_
  refine dr_f 0 0 [18] rfl (fun H => mva rfl) ?_
  refine dr_f 0 0 [19] rfl (fun H => mva rfl) ?_
  refine dr_end [] (by kernel_rfl) (by kernel_rfl) (by kernel_rfl) (by kernel_rfl) trivial ?_
  refine nm ?_
  refine aw_seq ?_
  refine aw_region ?_
  refine st_p (mv rfl) rfl ?_
  refine st_p (mv rfl) rfl ?_
  refine st_p (mv rfl) rfl ?_
  refine st_o (op_callg [(0, 0)] 1 true [(0, .cells 3 [.agg [.sl 1 (bl b), .int .i64 n, .bool bad]])] [0] (hg) Try.func89 ⟨rfl, rfl⟩ rfl rfl rfl rfl (by omega) (by intro p hp; simp only [List.mem_cons, List.not_mem_nil, or_false] at hp; rcases hp with rfl | rfl <;> exact ⟨by first | rfl | ((simp [hget, swp, Blk.ren, AV.ren, ints, Function.comp_def]) <;> rfl), rfl⟩) rfl (.cons (.same (by rfl)) (.cons (.same (by rfl)) (.cons (.same (by rfl)) .nil))) rfl rfl rfl) rfl ?_
  refine al_nil ?_
  refine nm ?_
  refine aw_seq ?_
  refine aw_region ?_
  refine st_p (mv rfl) rfl ?_
  refine st_p (mva rfl) rfl ?_
  refine al_nil ?_
  refine nm ?_
  refine aw_ret ?_
  exact ret_a ⟨[(2, sb [])], [(0, .cells 3 [.agg [.sl 1 (bl b), .int .i64 n, .bool true]])], 1⟩ (le_to [] rfl rfl rfl rfl rfl ⟨rfl, trivial⟩ ⟨rfl, trivial⟩) (res1 Try.results66) (.inl rfl) ⟨rfl, rfl, rfl⟩
 | some vk =>
  obtain ⟨v, k⟩ := vk
  obtain ⟨h1, h2, h3⟩ := takeText_spec hq
  rw [List.length_drop] at h1
  rw [hq] at ht
  dsimp only [textA] at ht ⊢
  have hg := rdr_goes b n k bad true (by omega)
  rw [Bool.not_true, Bool.or_false] at hg
  unfold rdrB at hg ⊢
  refine ac_fn Try.func66 rfl rfl rfl rfl (fun w0 S0 r0 => ?_)
  refine aw_seq ?_
  refine aw_region ?_
  refine st_p (mva rfl) rfl ?_
  refine al_nil ?_
  refine nm ?_
  refine aw_seq ?_
  refine dr_go ?_
  refine dr_f 0 0 [0] rfl (fun H => mv rfl) ?_
  refine dr_f 0 0 [7] rfl (fun H => op_nilCheck rfl trivial) ?_
  refine dr_f 0 0 [8] rfl (fun H => op_fieldAddr Try.underlying95 rfl z22 (by decide) rfl) ?_
  refine dr_q 0 0 [9] rfl (op_load1 Try.underlying22 rfl rfl rfl rfl rfl) ?_
  refine dr_f 0 0 [0] rfl (fun H => mv rfl) ?_
  refine dr_f 0 0 [11] rfl (fun H => op_nilCheck rfl trivial) ?_
  refine dr_f 0 0 [12] rfl (fun H => op_fieldAddr Try.underlying95 rfl z3 (by decide) rfl) ?_
  refine dr_q 0 0 [13] rfl (op_load1 Try.underlying3 rfl rfl rfl rfl rfl) ?_
  refine dr_q 0 0 [10, 14] rfl (op_sliceL Try.underlying22 z5 rfl (by exact ⟨_, rfl⟩) (by exact rfl) (by first | omega | (simp only [bl_len, List.length_map, List.length_append, List.length_take, List.length_drop]; omega)) (by first | omega | (simp only [bl_len, List.length_map, List.length_append, List.length_take, List.length_drop]; omega)) (by first | omega | (simp only [bl_len, List.length_map, List.length_append, List.length_take, List.length_drop]; omega))) ?_
  refine dr_fq 0 0 [15] rfl (fun H => op_callq (ht) Try.func90 ⟨rfl, rfl⟩ rfl rfl (fun nx => (.cons (.same (by rfl)) .nil)) (by rintro _ _ _ ⟨rfl, rfl, rfl⟩; exact .same rfl)) ?_
  refine dr_f 0 0 [16] rfl (fun H => mv rfl) ?_
  refine dr_f 0 0 [6] rfl (fun H => op_extract rfl rfl) ?_
  refine dr_f 0 0 [6] rfl (fun H => op_extract rfl rfl) ?_
  refine dr_f 0 0 [6] rfl (fun H => op_extract rfl rfl) ?_
  refine dr_f 0 0 [17] rfl (fun H => mva rfl) ?_
  refine dr_f 0 0 [18] rfl (fun H => mva rfl) ?_
  refine dr_f 0 0 [19] rfl (fun H => mva rfl) ?_
  refine dr_end [] (by kernel_rfl) (by kernel_rfl) (by kernel_rfl) (by kernel_rfl) trivial ?_
  refine nm ?_
  refine aw_seq ?_
  refine aw_region ?_
  refine st_p (mv rfl) rfl ?_
  refine st_p (mv rfl) rfl ?_
  refine st_p (mv rfl) rfl ?_
  refine st_o (op_callg [(0, 0)] 1 true [(0, .cells 3 [.agg [.sl 1 (bl b), .int .i64 n, .bool bad]])] [0] (hg) Try.func89 ⟨rfl, rfl⟩ rfl rfl rfl rfl (by omega) (by intro p hp; simp only [List.mem_cons, List.not_mem_nil, or_false] at hp; rcases hp with rfl | rfl <;> exact ⟨by first | rfl | ((simp [hget, swp, Blk.ren, AV.ren, ints, Function.comp_def]) <;> rfl), rfl⟩) rfl (.cons (.same (by rfl)) (.cons (.same (by rfl)) (.cons (.same (by rfl)) .nil))) rfl rfl rfl) rfl ?_
  refine al_nil ?_
  refine nm ?_
  refine aw_seq ?_
  refine aw_region ?_
  refine st_p (mv rfl) rfl ?_
  refine st_p (mva rfl) rfl ?_
  refine al_nil ?_
  refine nm ?_
  refine aw_ret ?_
  exact ret_a ⟨[(2, sb v)], [(0, .cells 3 [.agg [.sl 1 (bl b), .int .i64 (n + k : Nat), .bool bad]])], 1⟩ (le_to [] rfl rfl rfl rfl rfl ⟨rfl, trivial⟩ ⟨rfl, trivial⟩) (res1 Try.results66) (.inl rfl) ⟨rfl, rfl, rfl⟩

theorem bytes_Equal (a b : List UInt8) : AC Try.prog 91 [.sl 1 (bl a), .sl 1 (bl b)] [] 0 false (fun v h nx => v = .bool (decide (a = b)) ∧ h = [] ∧ nx = 0) := by
 by_cases h : a = b
 ·rw [decide_eq_true h]
  refine ac_fn Try.func91 rfl rfl rfl rfl (fun w0 S0 r0 => ?_)
  refine aw_seq ?_
  refine aw_region ?_
  refine st_p (mva rfl) rfl ?_
  refine al_nil ?_
  refine nm ?_
  refine aw_seq ?_
  refine aw_region ?_
  refine st_p (mv rfl) rfl ?_
  refine st_p (op_toStr Try.underlying22 Try.underlying5 Try.underlying9 rfl (.sl (.inr trivial)) rfl) rfl ?_
  refine st_p (mv rfl) rfl ?_
  refine st_p (op_toStr Try.underlying22 Try.underlying5 Try.underlying9 rfl (.sl (.inr trivial)) rfl) rfl ?_
  refine st_p (OpP.conv (op_eqs rfl rfl) (yes (by first | assumption | omega))) rfl ?_
  refine st_p (mva rfl) rfl ?_
  refine al_nil ?_
  refine nm ?_
  refine aw_ret ?_
  exact ret_v (res1 Try.results91) (.inr ⟨rfl, rfl⟩) ⟨rfl, rfl, rfl⟩
 ·rw [decide_eq_false h]
  refine ac_fn Try.func91 rfl rfl rfl rfl (fun w0 S0 r0 => ?_)
  refine aw_seq ?_
  refine aw_region ?_
  refine st_p (mva rfl) rfl ?_
  refine al_nil ?_
  refine nm ?_
  refine aw_seq ?_
  refine aw_region ?_
  refine st_p (mv rfl) rfl ?_
  refine st_p (op_toStr Try.underlying22 Try.underlying5 Try.underlying9 rfl (.sl (.inr trivial)) rfl) rfl ?_
  refine st_p (mv rfl) rfl ?_
  refine st_p (op_toStr Try.underlying22 Try.underlying5 Try.underlying9 rfl (.sl (.inr trivial)) rfl) rfl ?_
  refine st_p (OpP.conv (op_eqs rfl rfl) (no (by first | assumption | omega))) rfl ?_
  refine st_p (mva rfl) rfl ?_
  refine al_nil ?_
  refine nm ?_
  refine aw_ret ?_
  exact ret_v (res1 Try.results91) (.inr ⟨rfl, rfl⟩) ⟨rfl, rfl, rfl⟩

def preB (s p : List UInt8) : Bool := decide (p.length ≤ s.length) && decide (s.take p.length = p)

theorem bytes_HasPrefix (s p : List UInt8) : AC Try.prog 67 [.sl 1 (bl s), .sl 1 (bl p)] [] 0 false (fun v h nx => v = .bool (preB s p) ∧ h = [] ∧ nx = 0) := by
 have hs := bl_len s
 have hp := bl_len p
 have he := bytes_Equal (s.take p.length) p
 rw [show bl (s.take p.length) = List.take ((((bl p).length : Nat) : Int).toNat - Int.toNat 0) (List.drop (Int.toNat 0) (bl s)) from by simp [bl, List.map_take]] at he
 unfold preB
 by_cases h : p.length ≤ s.length
 ·rw [decide_eq_true h, Bool.true_and]
  refine ac_fn Try.func67 rfl rfl rfl rfl (fun w0 S0 r0 => ?_)
  refine aw_seq ?_
  refine aw_region ?_
  refine st_p (mva rfl) rfl ?_
  refine al_nil ?_
  refine nm ?_
  refine aw_seq ?_
  refine aw_region ?_
  refine st_p (mv rfl) rfl ?_
  refine st_p (op_len Try.underlying22 rfl) rfl ?_
  refine st_p (mv rfl) rfl ?_
  refine st_p (op_len Try.underlying22 rfl) rfl ?_
  refine st_p (OpP.conv (op_ge rfl rfl) (yes (by first | assumption | omega))) rfl ?_
  refine st_p (mv rfl) rfl ?_
  refine st_pg rfl rfl rfl (mv rfl) rfl ?_
  refine st_pg rfl rfl rfl (mv rfl) rfl ?_
  refine st_pg rfl rfl rfl (op_len Try.underlying22 rfl) rfl ?_
  refine st_pg rfl rfl rfl (op_sliceL Try.underlying22 z5 rfl (by exact rfl) (by exact ⟨_, rfl⟩) (by first | omega | (simp only [bl_len, List.length_map, List.length_append, List.length_take, List.length_drop]; omega)) (by first | omega | (simp only [bl_len, List.length_map, List.length_append, List.length_take, List.length_drop]; omega)) (by first | omega | (simp only [bl_len, List.length_map, List.length_append, List.length_take, List.length_drop]; omega))) rfl ?_
  refine st_pg rfl rfl rfl (mv rfl) rfl ?_
  refine st_og rfl rfl rfl ((op_callq (he) Try.func91 ⟨rfl, rfl⟩ rfl rfl (fun nx => (.cons (.same (by rfl)) (.cons (.same (by rfl)) .nil))) (by rintro _ _ _ ⟨rfl, rfl, rfl⟩; exact .same rfl)).ok) rfl ?_
  refine st_p (pkT rfl rfl) rfl ?_
  refine st_p (mva rfl) rfl ?_
  refine al_nil ?_
  refine nm ?_
  refine aw_ret ?_
  exact ret_v (res1 Try.results67) (.inr ⟨rfl, rfl⟩) ⟨rfl, rfl, rfl⟩
 ·rw [decide_eq_false h, Bool.false_and]
  refine ac_fn Try.func67 rfl rfl rfl rfl (fun w0 S0 r0 => ?_)
  refine aw_seq ?_
  refine aw_region ?_
  refine st_p (mva rfl) rfl ?_
  refine al_nil ?_
  refine nm ?_
  refine aw_seq ?_
  refine aw_region ?_
  refine st_p (mv rfl) rfl ?_
  refine st_p (op_len Try.underlying22 rfl) rfl ?_
  refine st_p (mv rfl) rfl ?_
  refine st_p (op_len Try.underlying22 rfl) rfl ?_
  refine st_p (OpP.conv (op_ge rfl rfl) (no (by first | assumption | omega))) rfl ?_
  refine st_p (mv rfl) rfl ?_
  refine st_s rfl rfl rfl rfl rfl ?_
  refine st_s rfl rfl rfl rfl rfl ?_
  refine st_s rfl rfl rfl rfl rfl ?_
  refine st_s rfl rfl rfl rfl rfl ?_
  refine st_s rfl rfl rfl rfl rfl ?_
  refine st_s rfl rfl rfl rfl rfl ?_
  refine st_p (pkF rfl rfl) rfl ?_
  refine st_p (mva rfl) rfl ?_
  refine al_nil ?_
  refine nm ?_
  refine aw_ret ?_
  exact ret_v (res1 Try.results67) (.inr ⟨rfl, rfl⟩) ⟨rfl, rfl, rfl⟩

end Go.Proofs.Ytpggknkhldecaaa.Abs
end
