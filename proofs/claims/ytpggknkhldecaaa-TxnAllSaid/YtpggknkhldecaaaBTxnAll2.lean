/- Texts of this session, merged: AbsR, AbsS, AConcat, ATxnF, ATxnG, ATxnH, ATxnI, ATxnJ, AbsU, AbsV, ATxnK, ATxnL, APlay, APlayB. -/
import Derived.Test.YtpggknkhldecaaaBTxnAll1
import Derived.RowKit
import Derived.OpenShut
import Derived.Below
import Derived.Deep.Slices
import Derived.ChangeArms
import Derived.ProofKit
import Derived.SizedLaws
import Derived.MapKept
set_option linter.unusedVariables false
set_option linter.unusedSimpArgs false
section
namespace Go.Proofs.Ytpggknkhldecaaa.Abs
open Go.RowKit

section
variable {P : Program} {w : World} {t e : TypeId} {α β : Type}

def Old (w : World) : Nat → Prop := fun b => b < w.heap.size

def Sz {H : Type} (P : Program) (t : TypeId) (d : DataW H) : Prop := ∀ n ∈ DataW.weights P t d, n ≤ reachBytes

theorem sz_at {H : Type} {ts : List TypeId} {ds : List (DataW H)} (h : (DataW.weightsEach P ts ds).all (· ≤ reachBytes) = true) {j : Nat} {d : DataW H} (ht : ts[j]? = some t) (hd : ds[j]? = some d) : Sz P t d := fun n hn => by
 have := List.all_eq_true.1 h _ (DataW.weights_mem_each ht hd n hn)
 simpa using this

theorem sz_all {H : Type} {d : DataW H} {n : Nat} (hn : n ∈ DataW.weights P e d) : ∀ {l : List (DataW H)}, d ∈ l → n ∈ DataW.weightsAll P e l := by
 intro l
 induction l with
 | nil => intro h; cases h
 | cons x l ih =>
  intro h
  simp only [DataW.weightsAll, List.mem_append]
  rcases List.mem_cons.1 h with rfl | h
  ·exact .inl hn
  ·exact .inr (ih h)

def RdA (P : Program) (w : World) (t : TypeId) (sz : Nat) (A : α → AV) (g : α → Prop) : Prop :=
 ∀ (H : Type) (enc : TypeId × Value → H) (base : Nat) (spare : Nat → Bool) (held : Bool) (fuel : Nat) (cs : List Value) (x : DataW H × List MemPlace), DataW.trod enc P w base spare held fuel t cs = some x → Sz P t x.1 →
  ∃ a, (A a).cells.length = sz ∧ cs.length = sz ∧ (∀ (i : Nat) (y : AV) (u : Value), (A a).cells[i]? = some y → cs[i]? = some u → VR (Old w) w rho0 y u ∧ u.oneCell' = true) ∧ g a

theorem one_cell {x : AV} {v : Value} (hx : x.cells = [x]) (h : VR (Old w) w rho0 x v) (h1 : v.oneCell' = true) : x.cells.length = 1 ∧ [v].length = 1 ∧ ∀ (i : Nat) (y : AV) (u : Value), x.cells[i]? = some y → [v][i]? = some u → VR (Old w) w rho0 y u ∧ u.oneCell' = true := by
 refine ⟨by rw [hx]; rfl, rfl, fun i y u hy hu => ?_⟩
 rw [hx] at hy
 cases i with
 | zero =>
  obtain rfl := Option.some.inj hy
  obtain rfl := Option.some.inj hu
  exact ⟨h, h1⟩
 | succ i => simp at hy

theorem rda_bool (ht : P.underlying t = some .bool) : RdA P w t 1 AV.bool (fun _ => True) := by
 intro H enc base spare held fuel cs x h hz
 obtain ⟨n, rfl, _⟩ := DataW.trod_bool ht h
 obtain ⟨h1, h2, h3⟩ := one_cell (w := w) (x := .bool n) rfl .bool rfl
 exact ⟨n, h1, h2, h3, trivial⟩
theorem rda_int {k : IntKind} (ht : P.underlying t = some (.int k)) : RdA P w t 1 (AV.int k) (fun n => (Lit.int k n).wf = true) := by
 intro H enc base spare held fuel cs x h hz
 obtain ⟨n, rfl, _, hn⟩ := DataW.trod_int ht h
 obtain ⟨h1, h2, h3⟩ := one_cell (w := w) (x := .int k n) rfl .int rfl
 exact ⟨n, h1, h2, h3, hn⟩
theorem rda_string (ht : P.underlying t = some .string) : RdA P w t 1 sb (fun s => s.length ≤ reachBytes) := by
 intro H enc base spare held fuel cs x h hz
 obtain ⟨s, rfl, hx, hs⟩ := DataW.trod_string ht h
 obtain ⟨h1, h2, h3⟩ := one_cell (w := w) (x := sb s.data.toList) rfl .str rfl
 exact ⟨s.data.toList, h1, h2, h3, hz _ (by rw [hx]; simp [DataW.weights])⟩

theorem cells_get {base : Nat} {a : Addr} {n : Nat} {cs : List Value} (h : w.cells? base a n = some cs) : cs.length = n ∧ ∀ (i : Nat) (u : Value), cs[i]? = some u → w.cell? (a.add i) = some u := by
 unfold World.cells? at h
 split at h
 ·have hl := mapM_some_length h
  rw [List.length_range] at hl
  refine ⟨hl.symm ▸ rfl, fun i u hu => ?_⟩
  have hi : i < n := by
   have := (List.getElem?_eq_some_iff.1 hu).1
   omega
  have := mapM_some_get h i i (by rw [List.getElem?_range hi])
  rw [this]
  exact hu
 ·cases h

theorem cell_spot {a : Addr} {u : Value} (h : w.cell? a = some u) : a = ⟨a.block, a.off, none⟩ ∧ a.block < w.heap.size := by
 unfold World.cell? at h
 split at h
 ·rename_i c t fr hb
  split at h
  ·cases h
  ·rename_i hs
   obtain ⟨b, o, sp⟩ := a
   cases sp with
   | none => exact ⟨rfl, (Array.getElem?_eq_some_iff.1 hb).1⟩
   | some x => exact absurd rfl hs
 ·cases h

theorem rda_slice {sz : Nat} {A : α → AV} {g : α → Prop} (ht : P.underlying t = some (.slice e)) (hsz : P.cellsOf e = sz) (hpos : 0 < sz) (hby : 0 < P.bytesOf e) (h : RdA P w e sz A g) : RdA P w t 1 (fun l : List α => .sl sz (l.map A)) (fun l => (∀ x ∈ l, g x) ∧ l.length ≤ reachBytes) := by
 intro H enc base spare held fuel cs x hx hz
 rcases Deep.open_slice ht hx with ⟨rfl, _⟩ | ⟨a, len, cap, m, n, D, Pl, rfl, _, hl, hm, hme, hxe, hel⟩
 ·obtain ⟨h1, h2, h3⟩ := one_cell (w := w) (x := .sl sz []) rfl .sl0 (v := .slice none 0 0) rfl
  exact ⟨[], h1, h2, h3, (fun x hx => by cases hx), Nat.zero_le _⟩
 ·have hlm : len ≤ m := by rw [hme]; split <;> omega
  rcases Nat.eq_zero_or_pos len with h0 | h0
  ·subst h0
   obtain ⟨h1, h2, h3⟩ := one_cell (w := w) (x := .sl sz []) rfl .sl0 (v := .slice (some a) 0 cap) rfl
   exact ⟨[], h1, h2, h3, (fun x hx => by cases hx), Nat.zero_le _⟩
  ·have key : ∀ i, i < len → ∃ q : α × List Value, w.cells? base (a.add (i * sz)) sz = some q.2 ∧ (A q.1).cells.length = sz ∧ (∀ (j : Nat) (y : AV) (u : Value), (A q.1).cells[j]? = some y → q.2[j]? = some u → VR (Old w) w rho0 y u ∧ u.oneCell' = true) ∧ g q.1 := by
    intro i hi
    obtain ⟨cs', hc, ht'⟩ := hel i (by omega)
    rw [hsz] at hc
    obtain ⟨y, h1, h2, h3, h4⟩ := h H enc base spare held n cs' _ ht' (fun q hq => hz q (by
     rw [hxe]
     simp only [DataW.weights, ht, List.mem_cons, List.mem_append]
     exact .inr (.inl (sz_all hq (List.mem_map.2 ⟨i, List.mem_range.2 hi, rfl⟩)))))
    exact ⟨(y, cs'), hc, h1, h3, h4⟩
   obtain ⟨q0, _⟩ := key 0 h0
   haveI : Inhabited (α × List Value) := ⟨q0⟩
   obtain ⟨f, hf⟩ := Deep.choose_lt key
   let xs : List α := (List.range len).map fun i => (f i).1
   let vs : List Value := (List.range len).flatMap fun i => (f i).2
   have hfl : ∀ i, i < len → (f i).2.length = sz := fun i hi => (cells_get (hf i hi).1).1
   have hvl : ∀ n, n ≤ len → ((List.range n).flatMap fun i => (f i).2).length = n * sz := by
    intro n
    induction n with
    | zero => intro _; simp
    | succ n ih => intro hn; rw [List.range_succ, List.flatMap_append, List.length_append, ih (by omega), Nat.add_mul, Nat.one_mul]; simp [hfl n (by omega)]
   have hget : ∀ n, n ≤ len → ∀ (j : Nat) (u : Value), ((List.range n).flatMap fun i => (f i).2)[j]? = some u → j / sz < n ∧ (f (j / sz)).2[j % sz]? = some u := by
    intro n
    induction n with
    | zero => intro _ j u hu; simp at hu
    | succ n ih =>
     intro hn j u hu
     rw [List.range_succ, List.flatMap_append] at hu
     rcases Nat.lt_or_ge j (n * sz) with hlt | hge
     ·rw [List.getElem?_append_left (by rw [hvl n (by omega)]; exact hlt)] at hu
      obtain ⟨h1, h2⟩ := ih (by omega) j u hu
      exact ⟨by omega, h2⟩
     ·rw [List.getElem?_append_right (by rw [hvl n (by omega)]; exact hge), hvl n (by omega)] at hu
      simp only [List.flatMap_cons, List.flatMap_nil, List.append_nil] at hu
      have hj : j - n * sz < sz := by
       have := (List.getElem?_eq_some_iff.1 hu).1
       rwa [hfl n (by omega)] at this
      have hj' : j = n * sz + (j - n * sz) := by omega
      have e1 : j / sz = n := by
       obtain ⟨r, hr⟩ : ∃ r, r = j - n * sz := ⟨_, rfl⟩
       rw [← hr] at hj hj'
       rw [hj', Nat.mul_comm n sz, Nat.mul_add_div hpos, Nat.div_eq_of_lt hj]; rfl
      have e2 : j % sz = j - n * sz := by
       have := Nat.div_add_mod j sz
       rw [e1, Nat.mul_comm] at this
       omega
      rw [e1, e2]
      exact ⟨Nat.lt_succ_self n, hu⟩
   have hcell : ∀ (j : Nat) (u : Value), vs[j]? = some u → w.cell? (a.add j) = some u ∧ ∃ y, (flat (xs.map A))[j]? = some y ∧ VR (Old w) w rho0 y u ∧ u.oneCell' = true := by
    intro j u hu
    obtain ⟨h1, h2⟩ := hget len (Nat.le_refl _) j u hu
    obtain ⟨k1, k2, k3, k4⟩ := hf (j / sz) h1
    have hc := (cells_get k1).2 _ _ h2
    rw [Deep.add_add, Nat.mul_comm, Nat.div_add_mod] at hc
    refine ⟨hc, ?_⟩
    have hx : (xs.map A)[j / sz]? = some (A (f (j / sz)).1) := by
     show (((List.range len).map fun i => (f i).1).map A)[j / sz]? = _
     rw [List.getElem?_map, List.getElem?_map, List.getElem?_range h1]; rfl
    have hall : ∀ x ∈ xs.map A, x.cells.length = sz := by
     intro x hx
     obtain ⟨y, hy, rfl⟩ := List.mem_map.1 hx
     obtain ⟨i, hi, rfl⟩ := List.mem_map.1 hy
     exact (hf i (List.mem_range.1 hi)).2.1
    have hfa := flat_at hall hx (r := j % sz) (Nat.mod_lt _ hpos)
    rw [Nat.mul_comm, Nat.div_add_mod] at hfa
    obtain ⟨y, hy⟩ : ∃ y, (A (f (j / sz)).1).cells[j % sz]? = some y := ⟨_, List.getElem?_eq_getElem (by rw [k2]; exact Nat.mod_lt _ hpos)⟩
    exact ⟨y, by rw [hfa]; exact hy, k3 _ _ _ hy h2⟩
   have hxl : (xs.map A).length = len := by simp [xs]
   have hall : ∀ x ∈ xs.map A, x.cells.length = sz := by
    intro x hx
    obtain ⟨y, hy, rfl⟩ := List.mem_map.1 hx
    obtain ⟨i, hi, rfl⟩ := List.mem_map.1 hy
    exact (hf i (List.mem_range.1 hi)).2.1
   have hvlen : vs.length = len * sz := hvl len (Nat.le_refl _)
   obtain ⟨u0, hu0⟩ : ∃ u, vs[0]? = some u := ⟨_, List.getElem?_eq_getElem (by rw [hvlen]; exact Nat.mul_pos h0 hpos)⟩
   have ha0 := (hcell 0 u0 hu0).1
   obtain ⟨hs1, hs2⟩ := cell_spot ha0
   have haspot : a = ⟨a.block, a.off, none⟩ := by
    have hsp : a.spot = none := by have := congrArg Addr.spot hs1; simpa [Addr.add] using this
    generalize a = z at hsp
    obtain ⟨b, o, sp⟩ := z
    simp only at hsp
    rw [hsp]
   have hblk : a.block < w.heap.size := hs2
   have hvr : VR (Old w) w rho0 (.sl sz (xs.map A)) (.slice (some a) len cap) := by
    have := @VR.sl (Old w) w rho0 sz (xs.map A) a.block a.off cap vs hblk (by rw [flat_len hall, hxl, hvlen]) hall (by rw [hxl]; exact hl) (fun i u hu => ?_) (fun i y u hy hu => ?_)
    ·rw [hxl, ← haspot] at this
     exact this
    ·obtain ⟨h1, y, _, _, h2⟩ := hcell i u hu
     rw [haspot, Addr.add_lit] at h1
     exact ⟨h1, h2⟩
    ·obtain ⟨_, y', h1, h2, _⟩ := hcell i u hu
     rw [hy] at h1
     obtain rfl := Option.some.inj h1
     exact h2
   obtain ⟨h1, h2, h3⟩ := one_cell (w := w) (x := .sl sz (xs.map A)) rfl hvr rfl
   exact ⟨xs, h1, h2, h3, (fun x hx => by
    obtain ⟨i, hi, rfl⟩ := List.mem_map.1 hx
    exact (hf i (List.mem_range.1 hi)).2.2.2), by
    simp only [xs, List.length_map, List.length_range]
    have := hz (((List.range len).map D).length + ((List.range (m - len)).map fun j => D (len + j)).length |> (· * P.bytesOf e)) (by
     rw [hxe]
     simp only [DataW.weights, ht]
     exact List.mem_cons_self)
    simp only [List.length_map, List.length_range] at this
    have h2 : len ≤ (len + (m - len)) * P.bytesOf e := Nat.le_trans (by omega) (Nat.le_mul_of_pos_right _ hby)
    omega⟩


def RdF (P : Program) (w : World) (l : List (Nat × TypeId)) (o sz : Nat) (F : α → List AV) (g : α → Prop) : Prop :=
 ∀ (H : Type) (enc : TypeId × Value → H) (base : Nat) (spare : Nat → Bool) (held : Bool) (fuel : Nat) (cs : List Value), cs.length = sz →
  (∀ p ∈ l, ∃ x, DataW.trod enc P w base spare held fuel p.2 ((cs.drop (p.1 - o)).take (P.cellsOf p.2)) = some x ∧ Sz P p.2 x.1) → ∃ a, (F a).length = sz ∧ (∀ (i : Nat) (y : AV) (u : Value), (F a)[i]? = some y → cs[i]? = some u → VR (Old w) w rho0 y u ∧ u.oneCell' = true) ∧ g a

theorem rdf_last {o sz : Nat} {A : α → AV} {g : α → Prop} (hsz : P.cellsOf t = sz) (h : RdA P w t sz A g) : RdF P w [(o, t)] o sz (fun a => (A a).cells) g := by
 intro H enc base spare held fuel cs hl hf
 obtain ⟨x, hx, hz⟩ := hf (o, t) (by simp)
 simp only [Nat.sub_self, List.drop_zero] at hx
 rw [List.take_of_length_le (by omega)] at hx
 obtain ⟨a, h1, _, h3, h4⟩ := h H enc base spare held fuel cs x hx hz
 exact ⟨a, h1, h3, h4⟩

theorem rdf_cons {o sz sz' : Nat} {l : List (Nat × TypeId)} {A : α → AV} {F : β → List AV} {g : α → Prop} {g' : β → Prop} (hsz : P.cellsOf t = sz) (ho : l.all (fun p => o + sz ≤ p.1) = true) (h : RdA P w t sz A g) (h' : RdF P w l (o + sz) sz' F g') :
  RdF P w ((o, t) :: l) o (sz + sz') (fun p : α × β => (A p.1).cells ++ F p.2) (fun p => g p.1 ∧ g' p.2) := by
 intro H enc base spare held fuel cs hl hf
 obtain ⟨x, hx, hz⟩ := hf (o, t) (by simp)
 simp only [Nat.sub_self, List.drop_zero] at hx
 rw [hsz] at hx
 obtain ⟨a, h1, h2, h3, hga⟩ := h H enc base spare held fuel _ x hx hz
 obtain ⟨b, k1, k3, hgb⟩ := h' H enc base spare held fuel (cs.drop sz) (by rw [List.length_drop]; omega) (fun p hp => by
  obtain ⟨y, hy, hyz⟩ := hf p (List.mem_cons_of_mem _ hp)
  refine ⟨y, ?_, hyz⟩
  have hp' : o + sz ≤ p.1 := by simpa using List.all_eq_true.1 ho p hp
  rw [List.drop_drop, show sz + (p.1 - (o + sz)) = p.1 - o from by omega]
  exact hy)
 refine ⟨(a, b), by rw [List.length_append, h1, k1], fun i y u hy hu => ?_, hga, hgb⟩
 have hy : ((A a).cells ++ F b)[i]? = some y := hy
 rcases Nat.lt_or_ge i sz with hlt | hge
 ·rw [List.getElem?_append_left (by rw [h1]; exact hlt)] at hy
  exact h3 i y u hy (by rw [List.getElem?_take_of_lt hlt]; exact hu)
 ·rw [List.getElem?_append_right (by rw [h1]; exact hge), h1] at hy
  exact k3 (i - sz) y u hy (by rw [List.getElem?_drop, show sz + (i - sz) = i from by omega]; exact hu)

theorem rda_struct {fs : Array Field} {l : List (Nat × TypeId)} {sz : Nat} {F : α → List AV} {g : α → Prop} (ht : P.underlying t = some (.struct fs)) (hl : fs.toList.map (fun f => (f.offset, f.type)) = l) (hsz : P.cellsOf t = sz) (h : RdF P w l 0 sz F g) : RdA P w t sz (fun a => .agg (F a)) g := by
 intro H enc base spare held fuel cs x hx hz
 obtain ⟨xs, n, rfl, hxe, hcl, hxl, hel⟩ := DataW.trod_struct ht hx
 obtain ⟨a, h1, h2, h3⟩ := h H enc base spare held n cs (by omega) (fun p hp => by
  rw [← hl] at hp
  obtain ⟨f, hf, rfl⟩ := List.mem_map.1 hp
  obtain ⟨i, hi, hfi⟩ := List.mem_iff_getElem.1 hf
  have hfi' : fs[i]? = some f := by
   rw [← hfi]
   simp at hi ⊢
  have := hel i f hfi'
  have hxi : i < xs.length := by
   rw [hxl]
   simpa using hi
  rw [List.getElem?_eq_getElem hxi] at this
  refine ⟨xs[i], by simpa using this, fun q hq => hz q ?_⟩
  rw [hxe]
  simp only [DataW.weights, ht]
  exact DataW.weights_mem_each (j := i) (by rw [List.getElem?_map, Array.getElem?_toList, hfi']; rfl) (by rw [List.getElem?_map, List.getElem?_eq_getElem hxi]; rfl) q hq)
 exact ⟨a, h1, by omega, h2, h3⟩

theorem rda_conv {sz : Nat} {A : α → AV} {B : β → AV} {g : α → Prop} {g' : β → Prop} (f : α → β) (hA : ∀ a, g a → A a = B (f a)) (hg : ∀ a, g a → g' (f a)) (h : RdA P w t sz A g) : RdA P w t sz B g' := by
 intro H enc base spare held fuel cs x hx hz
 obtain ⟨a, h1, h2, h3, h4⟩ := h H enc base spare held fuel cs x hx hz
 have e := hA a h4
 exact ⟨f a, by rw [← e]; exact h1, h2, by rw [← e]; exact h3, hg a h4⟩

theorem rda_bytes (ht : P.underlying t = some (.slice e)) (he : P.underlying e = some (.int .u8)) (hsz : P.cellsOf e = 1) (hby : 0 < P.bytesOf e) : RdA P w t 1 (fun l : List UInt8 => .sl 1 (bl l)) (fun l => l.length ≤ reachBytes) :=
 rda_conv (fun l : List Int => l.map fun n => UInt8.ofNat n.toNat) (fun l hl => by
  have : l.map (AV.int .u8) = bl (l.map fun n => UInt8.ofNat n.toNat) := by
   unfold bl
   rw [List.map_map]
   refine List.map_congr_left fun n hn => ?_
   have h := hl.1 n hn
   have h2 : 0 ≤ n ∧ n < 256 := by
    simp only [Lit.wf, Bool.and_eq_true, decide_eq_true_eq] at h
    have e1 : IntKind.u8.min = 0 := rfl
    have e2 : IntKind.u8.max = 255 := rfl
    omega
   show AV.int .u8 n = AV.int .u8 ((UInt8.ofNat n.toNat).toNat : Int)
   rw [UInt8.toNat_ofNat', Nat.mod_eq_of_lt (by simp; omega), Int.toNat_of_nonneg h2.1]
  rw [this]) (fun l hl => by rw [List.length_map]; exact hl.2) (rda_slice ht hsz (by decide) hby (rda_int he))


variable {H : Type} {enc : TypeId × Value → H} {spare : Nat → Bool} {held : Bool} {base b0 sz : Nat} {r : Reach} {v : Value} {d : DataW H} {ps : List MemPlace} {A : α → AV} {g : α → Prop}

theorem top_one (h : RdA P w t 1 A g) (hc : ∀ a, (A a).cells = [A a]) (hv : v.cells = #[v]) (hd : DataW.Trod enc P w base spare held t v d ps) (hz : Sz P t d) : ∃ a, VR (Old w) w rho0 (A a) v ∧ g a := by
 obtain ⟨fuel, hf⟩ := hd
 obtain ⟨a, _, _, h3, h4⟩ := h H enc base spare held fuel _ _ hf hz
 rw [hv] at h3
 exact ⟨a, (h3 0 (A a) v (by rw [hc]; rfl) rfl).1, h4⟩

theorem top_agg {cs : Array Value} {F : α → List AV} (h : RdA P w t sz (fun a => .agg (F a)) g) (hd : DataW.Trod enc P w base spare held t (.agg cs) d ps) (hz : Sz P t d) : ∃ a, VR (Old w) w rho0 (.agg (F a)) (.agg cs) ∧ g a := by
 obtain ⟨fuel, hf⟩ := hd
 obtain ⟨a, h1, h2, h3, h4⟩ := h H enc base spare held fuel _ _ hf hz
 exact ⟨a, .agg cs (h1.trans (h2.symm.trans (by simp [Value.cells]))) (fun i x u hx hu => (h3 i x u hx (by rw [show (Value.agg cs).cells = cs from rfl, Array.getElem?_toList]; exact hu)).1), h4⟩

theorem law_calls {f : FuncId} {args : List AV} {al : Bool} {vals : Array Value} {W : World} (h : AC P f args [] 0 al (fun r _ _ => r = .bool true)) (hv : VRs (Old W) W rho0 args vals) : Calls P f vals W fun e W' => e = .returned (.bool true) ∧ Below W.heap.size W W' := by
 refine (h rho0 (Old W) W vals ⟨fun b B hb => (by cases hb), fun b b' B B' r r' hb => (by cases hb), fun b hb => hb⟩ (fun _ _ => rfl) hv).mono ?_
 rintro e W' ⟨v, r, h', nx', ρ', S', rfl, rfl, hvr, _, _, _, hp⟩
 exact ⟨by rw [hvr.bool_inv], hp.os, hp.tape, hp.output, hp.size, fun k hk => hp.keep k hk (fun ⟨i, B, q, e, _⟩ => by cases e)⟩

theorem vrs_of {S : Nat → Prop} {ρ : Rho} {xs : List AV} {vs : List Value} (h : xs.length = vs.length ∧ ∀ (i : Nat) (x : AV) (u : Value), xs[i]? = some x → vs[i]? = some u → VR S w ρ x u) : VRs S w ρ xs vs.toArray := ⟨by simpa using h.1, fun i x u hx hu => h.2 i x u hx (by simpa using hu)⟩
theorem vrs_cons {S : Nat → Prop} {ρ : Rho} {x : AV} {u : Value} {xs : List AV} {vs : List Value} (h : VR S w ρ x u) (ht : xs.length = vs.length ∧ ∀ (i : Nat) (x : AV) (u : Value), xs[i]? = some x → vs[i]? = some u → VR S w ρ x u) :
  (x :: xs).length = (u :: vs).length ∧ ∀ (i : Nat) (y : AV) (z : Value), (x :: xs)[i]? = some y → (u :: vs)[i]? = some z → VR S w ρ y z := by
 refine ⟨by simp [ht.1], fun i y z hy hz => ?_⟩
 cases i with
 | zero => obtain rfl := Option.some.inj hy; obtain rfl := Option.some.inj hz; exact h
 | succ i => exact ht.2 i y z hy hz
theorem vrs_nil' {S : Nat → Prop} {ρ : Rho} : ([] : List AV).length = ([] : List Value).length ∧ ∀ (i : Nat) (x : AV) (u : Value), ([] : List AV)[i]? = some x → ([] : List Value)[i]? = some u → VR S w ρ x u := ⟨rfl, fun i x u hx => by simp at hx⟩

end
end Go.Proofs.Ytpggknkhldecaaa.Abs
end
section
namespace Go.Proofs.Ytpggknkhldecaaa.Abs

section
variable {P : Program} {tm : List (Nat × AV)} {h : Heap}

theorem op_capN {x : Operand} {t el : TypeId} (hu : P.underlying t = some (.slice el)) (hx : oev tm x = .nils) : OpP P (.call { callee := .builtin .cap, args := #[x], argTypes := #[t] }) tm h (.int .i64 0) := fun c n nx ρ S a w hr =>
 ⟨.int .i64 0, fun o ho => by
  have hv := ev_vr hr hx
  generalize he : a.eval x = v at hv
  cases hv with
  | nils => unfold execOp; rw [ho]; simp [resolve, invoke, builtin, he, Builtin.cap_, run_underlying hu, goInt], .int⟩

theorem op_sliceN {t e : TypeId} {x hi : Operand} {sz : Nat} {k : IntKind} (hu : P.underlying t = some (.slice e)) (hz : (P.info? e).map (·.size) = some sz) (hx : oev tm x = .nils) (h1 : oev tm hi = .int k 0) : OpP P (.slice t x none (some hi) none) tm h .nils := fun c n nx ρ S a w hr =>
 ⟨.slice none 0 0, fun o ho => by
  have hv := ev_vr hr hx
  have hi' := ev_int hr h1
  generalize he : a.eval x = v at hv
  cases hv with
  | nils => unfold execOp; rw [ho]; simp [Instr.sliceAt, Instr.slice, run_underlying hu, Instr.sliceBounds, Instr.sliceBound, asIntOf, run_sizeOf hz, he, hi'], .nils⟩

theorem run_app_zeros {t ti ty e : TypeId} {k kx : IntKind} {i : TypeInfo} {z : Value} (ht : P.underlying t = some (.slice e)) (hti : P.underlying ti = some (.int k)) (hi : P.info? e = some i) (hz : i.zero = some z) {w : World} {m : Nat} (hm : 0 < m) (hs : 0 < i.size)
  (hb : m * i.bytes ≤ 140737488355328) (h63 : m ≤ 140737488355328) :
  (Builtin.append_ #[t, ti] ty #[.slice none 0 0, .int kx (m : Int)]).run P w =
   .ok (.slice (some ⟨w.heap.size, 0, none⟩) m (grownCap w m 0 e)) (w.drew.alloc (.cells (Builtin.zeroCells z.cells m ++ Builtin.zeroCells z.cells (grownCap w m 0 e - m)) e)) := by
 have hw : IntKind.i64.wrap (m : Int) = m := Abs.wrap_i64 (by omega) (by omega)
 have h1 : ¬ (m = 0) := by omega
 have h2 : ¬ ((m : Int) < 0) := by omega
 have h3 : ¬ (281474976710656 < (m : Int) * (i.bytes : Int)) := by
  have : ((m * i.bytes : Nat) : Int) ≤ 140737488355328 := by omega
  rw [Int.natCast_mul] at this
  omega
 have h4 : ¬ (m * i.size = 0) := by
  have := Nat.mul_pos hm hs
  omega
 have h5 : ¬ (9223372036854775807 < (m : Int)) := by omega
 have h6 : Builtin.nextslicecap m 0 = m := by unfold Builtin.nextslicecap; rw [if_pos (by omega)]
 have h7 : ¬ (281474976710656 < m * i.bytes) := by omega
 simp [Builtin.append_, run_underlying ht, run_underlying hti, sizeOf, typeInfo, zeroValue, hi, hz, hw, h1, h2, h3, h4, h5, h6, h7, Question.forced, newRow, grownCap, Builtin.firstCells, asInt, asIntOf]

theorem op_appZ {tm : List (Nat × AV)} {h : Heap} {nx : Nat} {t ti e : TypeId} {k kx : IntKind} {z : Value} {sz bytes : Nat} {x y : Operand} {m : Nat} (ht : P.underlying t = some (.slice e)) (hti : P.underlying ti = some (.int k))
  (hi : (P.info? e).map (fun i => (i.zero, i.size, i.bytes)) = some (some z, sz, bytes)) (hzs : z.cells.size = sz ∧ ∀ (i : Nat) (u : Value), z.cells[i]? = some u → u.oneCell' = true) (hs : 0 < sz) (hx : oev tm x = .nils) (hy : oev tm y = .int kx (m : Int)) (hm : 0 < m)
  (hb : m * bytes ≤ 140737488355328) (h63 : m ≤ 140737488355328) : OpOK P (.call { callee := .builtin .append, args := #[x, y], argTypes := #[t, ti] }) ⟨tm, h, nx⟩ (.own nx 0 m) ((nx, .cells sz []) :: h) (nx + 1) := OpOK.of fun c n ρ S a w hr => by
 obtain ⟨i, e1, e2⟩ := Option.map_eq_some_iff.1 hi
 obtain ⟨e3, e4, e5⟩ : i.zero = some z ∧ i.size = sz ∧ i.bytes = bytes := by
  have := e2; simp only [Prod.mk.injEq] at this; exact this
 have hxv : a.eval x = .slice none 0 0 := by
  have hv := ev_vr hr hx
  generalize a.eval x = v at hv
  cases hv; rfl
 have hyv := ev_int hr hy
 have hrun := run_app_zeros (P := P) (ty := 0) (kx := kx) (m := m) (w := w) ht hti e1 e3 hm (by rw [e4]; exact hs) (by rw [e5]; exact hb) h63
 have hge : m ≤ grownCap w m 0 e := grownCap_ge _ _ _ _
 refine ⟨_, .slice (some ⟨w.heap.size, 0, none⟩) m (grownCap w m 0 e), _, _, S, fun o ho => ?_, .inl rfl,
  hr.newBlk (Same.drew w) (Builtin.zeroCells z.cells m ++ Builtin.zeroCells z.cells (grownCap w m 0 e - m)) e (grownCap w m 0 e) sz [] (fun x hx => by cases hx) (Nat.zero_le _) (grownCap_le_maxLen _ _ _ _ (by unfold maxLen; omega)) (by
   rw [Array.size_append, size_zeroCells, size_zeroCells, hzs.1, ← Nat.add_mul]; congr 1; omega) (fun j u hu => ?_) (fun j x u hx => by simp [flat] at hx) (fun _ _ h => h), .own_at0 (upd_self _ _ _) hge rfl, upd_ext hr _, alloc_ext hr (Same.drew w) _⟩
 ·unfold execOp; rw [ho]
  simp only [resolve, invoke, builtin, Sem.run_bind, Sem.run_pure, Result.andThen_ok, List.map_toArray, List.map_cons, List.map_nil, hxv, hyv]
  have : Builtin.append_ #[t, ti] o.type #[Value.slice none 0 0, Value.int kx (m : Int)] = Builtin.append_ #[t, ti] 0 #[Value.slice none 0 0, Value.int kx (m : Int)] := rfl
  rw [this, hrun]
  rfl
 ·rw [Array.getElem?_append] at hu
  split at hu
  ·exact zeroCells_one hzs.2 hu
  ·exact zeroCells_one hzs.2 hu

theorem op_appZi {tm : List (Nat × AV)} {h : Heap} {nx : Nat} {t ti e : TypeId} {k kx : IntKind} {z : Value} {sz bytes : Nat} {x y : Operand} {q : Int} (ht : P.underlying t = some (.slice e)) (hti : P.underlying ti = some (.int k))
  (hi : (P.info? e).map (fun i => (i.zero, i.size, i.bytes)) = some (some z, sz, bytes)) (hzs : z.cells.size = sz ∧ ∀ (i : Nat) (u : Value), z.cells[i]? = some u → u.oneCell' = true) (hs : 0 < sz) (hx : oev tm x = .nils) (hy : oev tm y = .int kx q) (hm : 0 < q)
  (hb : q * bytes ≤ 140737488355328) (h63 : q ≤ 140737488355328) : OpOK P (.call { callee := .builtin .append, args := #[x, y], argTypes := #[t, ti] }) ⟨tm, h, nx⟩ (.own nx 0 q.toNat) ((nx, .cells sz []) :: h) (nx + 1) := by
 obtain ⟨m, rfl⟩ : ∃ m : Nat, q = m := ⟨q.toNat, by omega⟩
 rw [Int.toNat_natCast]
 exact op_appZ ht hti hi hzs hs hx hy (by omega) (by
  have : ((m * bytes : Nat) : Int) ≤ 140737488355328 := by rw [Int.natCast_mul]; exact hb
  omega) (by omega)

end

end Go.Proofs.Ytpggknkhldecaaa.Abs
end
section
namespace Go.Proofs.Ytpggknkhldecaaa.Abs

theorem grow_bytes (m : Nat) (hm : 0 < m) (hb : m ≤ 140737488355328) : AC Try.prog 83 [.nils, .int .i64 (m : Int)] [] 0 false (fun v h nx => v = .own 0 0 0 ∧ h = [(0, .cells 1 [])] ∧ nx = 1) := by
 refine ac_fn Try.func83 rfl rfl rfl rfl (fun w0 S0 r0 => ?_)
 refine aw_seq ?_
 refine aw_region ?_
 refine st_p (mva rfl) rfl ?_
 refine al_nil ?_
 refine nm ?_
 refine aw_seq ?_
 refine aw_seq ?_
 refine aw_region ?_
 refine st_p (mv rfl) rfl ?_
 refine st_p (OpP.conv (op_lt rfl rfl) (no (by first | assumption | omega))) rfl ?_
 refine al_nil ?_
 refine nm ?_
 refine aw_no (rfl) ?_
 refine aw_skip ?_
 refine nm ?_
 refine aw_seq ?_
 refine aw_seq ?_
 refine aw_region ?_
 refine st_p (mv rfl) rfl ?_
 refine st_p (mv rfl) rfl ?_
 refine st_p (op_capN Try.underlying22 rfl) rfl ?_
 refine st_p (mv rfl) rfl ?_
 refine st_p (op_lenn Try.underlying22 rfl) rfl ?_
 refine st_p (op_subi rfl rfl (by omega)) rfl ?_
 refine st_p (op_subi rfl rfl (by omega)) rfl ?_
 refine st_p (mva rfl) rfl ?_
 refine al_nil ?_
 refine nm ?_
 refine aw_seq ?_
 refine aw_region ?_
 refine st_p (mv rfl) rfl ?_
 refine st_p (OpP.conv (op_gt rfl rfl) (yes (by first | assumption | omega))) rfl ?_
 refine al_nil ?_
 refine nm ?_
 refine aw_yes (rfl) ?_
 refine aw_region ?_
 refine st_p (mv rfl) rfl ?_
 refine st_p (mv rfl) rfl ?_
 refine st_p (op_capN Try.underlying22 rfl) rfl ?_
 refine st_p (op_sliceN Try.underlying22 z5 rfl rfl) rfl ?_
 refine st_p (mv rfl) rfl ?_
 refine st_o (op_appZi Try.underlying22 Try.underlying3 i5 o5 (by decide) rfl rfl (by omega) (by omega) (by omega)) rfl ?_
 refine st_p (mv rfl) rfl ?_
 refine st_p (op_lenn Try.underlying22 rfl) rfl ?_
 refine st_p (op_slice Try.underlying22 z5 rfl rfl (by exact rfl) (by exact ⟨_, rfl⟩) (by first | omega | (simp only [bl_len, List.length_map, List.length_append, List.length_take, List.length_drop]; omega)) (by first | omega | (simp only [bl_len, List.length_map, List.length_append, List.length_take, List.length_drop]; omega)) (by first | omega | (simp only [bl_len, List.length_map, List.length_append, List.length_take, List.length_drop]; omega))) rfl ?_
 refine st_p (mva rfl) rfl ?_
 refine al_nil ?_
 refine nm ?_
 refine aw_seq ?_
 refine aw_region ?_
 refine st_p (mv rfl) rfl ?_
 refine st_p (mva rfl) rfl ?_
 refine al_nil ?_
 refine nm ?_
 refine aw_ret ?_
 exact ret_a ⟨[(4, .own 0 0 0)], [(0, .cells 1 [])], 1⟩ (le_to [(0, 0)] rfl rfl rfl rfl rfl ⟨rfl, trivial⟩ ⟨rfl, trivial⟩) (res1 Try.results83) (.inr ⟨rfl, rfl⟩) ⟨rfl, rfl, rfl⟩

theorem grow_none : AC Try.prog 83 [.nils, .int .i64 0] [] 0 false (fun v h nx => v = .nils ∧ h = [] ∧ nx = 0) := by
 refine ac_fn Try.func83 rfl rfl rfl rfl (fun w0 S0 r0 => ?_)
 refine aw_seq ?_
 refine aw_region ?_
 refine st_p (mva rfl) rfl ?_
 refine al_nil ?_
 refine nm ?_
 refine aw_seq ?_
 refine aw_seq ?_
 refine aw_region ?_
 refine st_p (mv rfl) rfl ?_
 refine st_p (OpP.conv (op_lt rfl rfl) (no (by first | assumption | omega))) rfl ?_
 refine al_nil ?_
 refine nm ?_
 refine aw_no (rfl) ?_
 refine aw_skip ?_
 refine nm ?_
 refine aw_seq ?_
 refine aw_seq ?_
 refine aw_region ?_
 refine st_p (mv rfl) rfl ?_
 refine st_p (mv rfl) rfl ?_
 refine st_p (op_capN Try.underlying22 rfl) rfl ?_
 refine st_p (mv rfl) rfl ?_
 refine st_p (op_lenn Try.underlying22 rfl) rfl ?_
 refine st_p (op_subi rfl rfl (by omega)) rfl ?_
 refine st_p (op_subi rfl rfl (by omega)) rfl ?_
 refine st_p (mva rfl) rfl ?_
 refine al_nil ?_
 refine nm ?_
 refine aw_seq ?_
 refine aw_region ?_
 refine st_p (mv rfl) rfl ?_
 refine st_p (OpP.conv (op_gt rfl rfl) (no (by first | assumption | omega))) rfl ?_
 refine al_nil ?_
 refine nm ?_
 refine aw_no (rfl) ?_
 refine aw_skip ?_
 refine nm ?_
 refine aw_seq ?_
 refine aw_region ?_
 refine st_p (mv rfl) rfl ?_
 refine st_p (mva rfl) rfl ?_
 refine al_nil ?_
 refine nm ?_
 refine aw_ret ?_
 exact ret_v (res1 Try.results83) (.inr ⟨rfl, rfl⟩) ⟨rfl, rfl, rfl⟩

theorem concat_bytes (ll : List (List UInt8)) (hl : ll.length ≤ 1000000) (ht : ll.flatten.length ≤ 1000000) : AC Try.prog 48 [.sl 1 (ll.map fun l => .sl 1 (bl l))] [] 0 false (fun v h nx => v = .own 0 0 ll.flatten.length ∧ h = [(0, .cells 1 (bl ll.flatten))] ∧ nx = 1) := by
 have hlm : (ll.map fun l => AV.sl 1 (bl l)).length = ll.length := List.length_map _
 have hsum : ∀ (i : Nat) (x : List UInt8), ll[i]? = some x → (ll.take (i + 1)).flatten.length = (ll.take i).flatten.length + x.length ∧ (ll.take i).flatten.length + x.length ≤ 1000000 := fun i x hx => by
  have h1 : (ll.take (i + 1)).flatten = (ll.take i).flatten ++ x := by rw [List.take_add_one, hx]; simp
  have h2 : ll.flatten = (ll.take (i + 1)).flatten ++ (ll.drop (i + 1)).flatten := by rw [← List.flatten_append, List.take_append_drop]
  have h3 := congrArg List.length h2
  rw [h1, List.length_append, List.length_append] at h3
  rw [h1, List.length_append]
  omega
 refine ac_fn Try.func48 rfl rfl rfl rfl (fun w0 S0 r0 => ?_)
 refine aw_seq ?_
 refine aw_region ?_
 refine st_p (mva rfl) rfl ?_
 refine al_nil ?_
 refine nm ?_
 refine aw_seq ?_
 refine aw_region ?_
 refine st_p (mva rfl) rfl ?_
 refine al_nil ?_
 refine nm ?_
 refine aw_seq ?_
 refine aw_seq ?_
 refine aw_region ?_
 refine st_p (mv rfl) rfl ?_
 refine st_p (op_len Try.underlying114 rfl) rfl ?_
 refine st_p (mv rfl) rfl ?_
 refine al_nil ?_
 refine nm ?_
 refine aw_block ?_
 refine aw_loop (fun i : {i : Nat // i ≤ ll.length} => ⟨[(0, .sl 1 (ll.map fun l => .sl 1 (bl l))), (3, .int .i64 (ll.take i.1).flatten.length), (9, .sl 1 (ll.map fun l => .sl 1 (bl l))), (10, .int .i64 ll.length), (11, .int .i64 i.1)], [], 0⟩) (fun i => ll.length - i.1) ⟨0, Nat.zero_le _⟩ ?_ ?_
 ·exact le_to [] rfl rfl rfl rfl rfl ⟨rfl, rfl, rfl, by rw [← hlm]; rfl, rfl, trivial⟩ trivial
 ·rintro ⟨i, hi⟩
  dsimp only
  by_cases hlt : i < ll.length
  ·obtain ⟨x, hx⟩ : ∃ x, ll[i]? = some x := ⟨_, List.getElem?_eq_getElem hlt⟩
   have hxb : (ll.map fun l => AV.sl 1 (bl l))[((i : Nat) : Int).toNat]? = some (.sl 1 (bl x)) := by rw [Int.toNat_natCast, List.getElem?_map, hx]; rfl
   have hstep := hsum i x hx
   have hblx : (bl x).length = x.length := bl_len _
   refine aw_seq ?_
   refine aw_region ?_
   refine st_p (OpP.conv (op_lt rfl rfl) (yes (by first | assumption | omega))) rfl ?_
   refine al_nil ?_
   refine nm ?_
   refine aw_seq ?_
   refine aw_yes (rfl) ?_
   refine aw_skip ?_
   refine nm ?_
   refine aw_seq ?_
   refine aw_block ?_
   refine aw_seq ?_
   refine aw_region ?_
   refine st_p (op_indexAddrL Try.underlying114 z22 rfl rfl (by omega) (by first | assumption | rfl)) rfl ?_
   refine st_p (op_load1L Try.underlying22 rfl rfl rfl) rfl ?_
   refine st_p (mva rfl) rfl ?_
   refine al_nil ?_
   refine nm ?_
   refine aw_seq ?_
   refine aw_region ?_
   refine st_p (mv rfl) rfl ?_
   refine st_p (mv rfl) rfl ?_
   refine st_p (op_len Try.underlying22 rfl) rfl ?_
   refine st_p (op_addi rfl rfl (by omega)) rfl ?_
   refine st_p (mva rfl) rfl ?_
   refine al_nil ?_
   refine nm ?_
   refine aw_seq ?_
   refine aw_region ?_
   refine st_p (mv rfl) rfl ?_
   refine st_p (OpP.conv (op_lt rfl rfl) (no (by first | assumption | omega))) rfl ?_
   refine al_nil ?_
   refine nm ?_
   refine aw_no (rfl) ?_
   refine aw_skip ?_
   refine nmb ?_
   refine nm ?_
   refine aw_region ?_
   refine st_p (op_addi rfl rfl (by omega)) rfl ?_
   refine st_p (mv rfl) rfl ?_
   refine al_nil ?_
   refine nm ?_
   refine ⟨⟨i + 1, hlt⟩, by dsimp only; omega, le_to [] rfl rfl rfl rfl rfl ⟨rfl, ?_, rfl, rfl, rfl, trivial⟩ trivial⟩
   show AV.int .i64 (((ll.take i).flatten.length : Int) + ((bl x).length : Nat)) = AV.int .i64 ((ll.take (i + 1)).flatten.length : Nat)
   congr 1
   omega
  ·have e : ll.take i = ll := List.take_of_length_le (by omega)
   rw [e]
   by_cases hz : ll.flatten.length = 0
   ·have hg : AC Try.prog 83 [.nils, .int .i64 (ll.flatten.length : Int)] [] 0 false (fun v h nx => v = .nils ∧ h = [] ∧ nx = 0) := by
     rw [hz]
     exact grow_none
    refine aw_seq ?_
    refine aw_region ?_
    refine st_p (OpP.conv (op_lt rfl rfl) (no (by first | assumption | omega))) rfl ?_
    refine al_nil ?_
    refine nm ?_
    refine aw_seq ?_
    refine aw_no (rfl) ?_
    refine aw_exit ?_
    refine xs ?_
    refine xs ?_
    refine xb ?_
    refine nm ?_
    refine aw_seq ?_
    refine aw_region ?_
    refine st_p (mv rfl) rfl ?_
    refine st_call0 (hg) Try.func83 ⟨rfl, rfl⟩ rfl (.cons (.same (by rfl)) (.cons (.same (by rfl)) .nil)) rfl ?_
    rintro _ _ _ ⟨rfl, rfl, rfl⟩ r2 h2 n2 hr hh hn
    simp only [AV.ren, rens, Blk.ren, swp, List.map_cons, List.map_nil, List.cons_append, List.nil_append, List.append_nil, Nat.not_lt_zero, if_false, Nat.reduceAdd, Nat.zero_add, Nat.add_zero, ren_bl] at hr hh hn
    subst hr hh hn
    refine st_p (mva rfl) rfl ?_
    refine al_nil ?_
    refine nm ?_
    refine aw_seq ?_
    refine aw_seq ?_
    refine aw_region ?_
    refine st_p (mv rfl) rfl ?_
    refine st_p (op_len Try.underlying114 rfl) rfl ?_
    refine st_p (mv rfl) rfl ?_
    refine al_nil ?_
    refine nm ?_
    refine aw_block ?_
    refine aw_virt 6 1 rfl ?_
    refine aw_loop (fun j : {j : Nat // j ≤ ll.length} => ⟨[(6, .own 0 0 (ll.take j.1).flatten.length), (25, .sl 1 (ll.map fun l => .sl 1 (bl l))), (26, .int .i64 ll.length), (27, .int .i64 j.1)], [(0, .cells 1 (bl (ll.take j.1).flatten))], 1⟩) (fun j => ll.length - j.1) ⟨0, Nat.zero_le _⟩ ?_ ?_
    ·exact le_to [(0, 0)] rfl rfl rfl rfl rfl ⟨rfl, rfl, by rw [← hlm]; rfl, rfl, trivial⟩ ⟨rfl, trivial⟩
    ·rintro ⟨j, hj⟩
     dsimp only
     by_cases hjt : j < ll.length
     ·obtain ⟨x, hx⟩ : ∃ x, ll[j]? = some x := ⟨_, List.getElem?_eq_getElem hjt⟩
      have hxb : (ll.map fun l => AV.sl 1 (bl l))[((j : Nat) : Int).toNat]? = some (.sl 1 (bl x)) := by rw [Int.toNat_natCast, List.getElem?_map, hx]; rfl
      have hstep := hsum j x hx
      have hblk : (bl (ll.take j).flatten).length = (ll.take j).flatten.length := bl_len _
      have hblx : (bl x).length = x.length := bl_len _
      have hfl : (ll.take (j + 1)).flatten = (ll.take j).flatten ++ x := by rw [List.take_add_one, hx]; simp
      generalize hq : (ll.take j).flatten = q at hstep hblk hfl ⊢
      refine aw_seq ?_
      refine aw_region ?_
      refine st_p (OpP.conv (op_lt rfl rfl) (yes (by first | assumption | omega))) rfl ?_
      refine al_nil ?_
      refine nm ?_
      refine aw_seq ?_
      refine aw_yes (rfl) ?_
      refine aw_skip ?_
      refine nm ?_
      refine aw_seq ?_
      refine aw_block ?_
      refine aw_seq ?_
      refine aw_region ?_
      refine st_p (op_indexAddrL Try.underlying114 z22 rfl rfl (by omega) (by first | assumption | rfl)) rfl ?_
      refine st_p (op_load1L Try.underlying22 rfl rfl rfl) rfl ?_
      refine st_p (mva rfl) rfl ?_
      refine al_nil ?_
      refine nm ?_
      refine aw_region ?_
      refine st_p (mv rfl) rfl ?_
      refine st_p (mv rfl) rfl ?_
      refine st_o (op_app Try.underlying22 Try.underlying22 (.inl ⟨_, rfl⟩) i5 o5 rfl rfl rfl (by first | rfl | omega | (simp; done) | (simp; omega)) ((SrcA.sl (.inr trivial)).ok rfl (by first | assumption | intro z hz; simp only [List.mem_singleton, List.drop_zero, List.take_succ_cons, List.take_zero, List.mem_cons, List.not_mem_nil, or_false, List.mem_map] at hz; first | (subst hz; rfl) | (obtain ⟨_, _, rfl⟩ := hz; rfl) | (rcases hz with rfl | rfl <;> rfl))) (by first | omega | (simp; try omega)) rfl) rfl ?_
      refine st_p (mva rfl) rfl ?_
      refine al_nil ?_
      refine nmb ?_
      refine nm ?_
      refine aw_region ?_
      refine st_p (op_addi rfl rfl (by omega)) rfl ?_
      refine st_p (mv rfl) rfl ?_
      refine al_nil ?_
      refine nm ?_
      refine ⟨⟨j + 1, hjt⟩, by dsimp only; omega, le_to [(0, 1)] rfl rfl rfl rfl rfl ⟨?_, rfl, rfl, rfl, trivial⟩ ⟨?_, trivial⟩⟩
      ·rw [hfl]; simp [AV.ren, tget, swp, bl]
      ·rw [hfl]; simp only [Blk.ren, hget, swp, ren_bl, bl_app]; rfl
     ·have e : ll.take j = ll := List.take_of_length_le (by omega)
      refine aw_seq ?_
      refine aw_region ?_
      refine st_p (OpP.conv (op_lt rfl rfl) (no (by first | assumption | omega))) rfl ?_
      refine al_nil ?_
      refine nm ?_
      refine aw_seq ?_
      refine aw_no (rfl) ?_
      refine aw_exit ?_
      refine xs ?_
      refine xs ?_
      refine xb ?_
      refine nm ?_
      refine aw_seq ?_
      refine aw_region ?_
      refine st_p (mv rfl) rfl ?_
      refine st_p (mva rfl) rfl ?_
      refine al_nil ?_
      refine nm ?_
      refine aw_ret ?_
      refine ret_a ⟨[(2, .own 0 0 ll.flatten.length)], [(0, .cells 1 (bl ll.flatten))], 1⟩ (le_to [(0, 0)] rfl rfl rfl rfl rfl ⟨by rw [e]; rfl, trivial⟩ ⟨by rw [e]; simp only [Blk.ren, hget, ren_bl]; rfl, trivial⟩) (res1 Try.results48) (.inr ⟨rfl, by simp [Blk.nosl, AV.nosl, bl]⟩) ⟨rfl, rfl, rfl⟩
   ·have hg := grow_bytes ll.flatten.length (by omega) (by omega)
    refine aw_seq ?_
    refine aw_region ?_
    refine st_p (OpP.conv (op_lt rfl rfl) (no (by first | assumption | omega))) rfl ?_
    refine al_nil ?_
    refine nm ?_
    refine aw_seq ?_
    refine aw_no (rfl) ?_
    refine aw_exit ?_
    refine xs ?_
    refine xs ?_
    refine xb ?_
    refine nm ?_
    refine aw_seq ?_
    refine aw_region ?_
    refine st_p (mv rfl) rfl ?_
    refine st_call0 (hg) Try.func83 ⟨rfl, rfl⟩ rfl (.cons (.same (by rfl)) (.cons (.same (by rfl)) .nil)) rfl ?_
    rintro _ _ _ ⟨rfl, rfl, rfl⟩ r2 h2 n2 hr hh hn
    simp only [AV.ren, rens, Blk.ren, swp, List.map_cons, List.map_nil, List.cons_append, List.nil_append, List.append_nil, Nat.not_lt_zero, if_false, Nat.reduceAdd, Nat.zero_add, Nat.add_zero, ren_bl] at hr hh hn
    subst hr hh hn
    refine st_p (mva rfl) rfl ?_
    refine al_nil ?_
    refine nm ?_
    refine aw_seq ?_
    refine aw_seq ?_
    refine aw_region ?_
    refine st_p (mv rfl) rfl ?_
    refine st_p (op_len Try.underlying114 rfl) rfl ?_
    refine st_p (mv rfl) rfl ?_
    refine al_nil ?_
    refine nm ?_
    refine aw_block ?_
    refine aw_loop (fun j : {j : Nat // j ≤ ll.length} => ⟨[(6, .own 0 0 (ll.take j.1).flatten.length), (25, .sl 1 (ll.map fun l => .sl 1 (bl l))), (26, .int .i64 ll.length), (27, .int .i64 j.1)], [(0, .cells 1 (bl (ll.take j.1).flatten))], 1⟩) (fun j => ll.length - j.1) ⟨0, Nat.zero_le _⟩ ?_ ?_
    ·exact le_to [(0, 0)] rfl rfl rfl rfl rfl ⟨rfl, rfl, by rw [← hlm]; rfl, rfl, trivial⟩ ⟨rfl, trivial⟩
    ·rintro ⟨j, hj⟩
     dsimp only
     by_cases hjt : j < ll.length
     ·obtain ⟨x, hx⟩ : ∃ x, ll[j]? = some x := ⟨_, List.getElem?_eq_getElem hjt⟩
      have hxb : (ll.map fun l => AV.sl 1 (bl l))[((j : Nat) : Int).toNat]? = some (.sl 1 (bl x)) := by rw [Int.toNat_natCast, List.getElem?_map, hx]; rfl
      have hstep := hsum j x hx
      have hblk : (bl (ll.take j).flatten).length = (ll.take j).flatten.length := bl_len _
      have hblx : (bl x).length = x.length := bl_len _
      have hfl : (ll.take (j + 1)).flatten = (ll.take j).flatten ++ x := by rw [List.take_add_one, hx]; simp
      generalize hq : (ll.take j).flatten = q at hstep hblk hfl ⊢
      refine aw_seq ?_
      refine aw_region ?_
      refine st_p (OpP.conv (op_lt rfl rfl) (yes (by first | assumption | omega))) rfl ?_
      refine al_nil ?_
      refine nm ?_
      refine aw_seq ?_
      refine aw_yes (rfl) ?_
      refine aw_skip ?_
      refine nm ?_
      refine aw_seq ?_
      refine aw_block ?_
      refine aw_seq ?_
      refine aw_region ?_
      refine st_p (op_indexAddrL Try.underlying114 z22 rfl rfl (by omega) (by first | assumption | rfl)) rfl ?_
      refine st_p (op_load1L Try.underlying22 rfl rfl rfl) rfl ?_
      refine st_p (mva rfl) rfl ?_
      refine al_nil ?_
      refine nm ?_
      refine aw_region ?_
      refine st_p (mv rfl) rfl ?_
      refine st_p (mv rfl) rfl ?_
      refine st_o (op_app Try.underlying22 Try.underlying22 (.inl ⟨_, rfl⟩) i5 o5 rfl rfl rfl (by first | rfl | omega | (simp; done) | (simp; omega)) ((SrcA.sl (.inr trivial)).ok rfl (by first | assumption | intro z hz; simp only [List.mem_singleton, List.drop_zero, List.take_succ_cons, List.take_zero, List.mem_cons, List.not_mem_nil, or_false, List.mem_map] at hz; first | (subst hz; rfl) | (obtain ⟨_, _, rfl⟩ := hz; rfl) | (rcases hz with rfl | rfl <;> rfl))) (by first | omega | (simp; try omega)) rfl) rfl ?_
      refine st_p (mva rfl) rfl ?_
      refine al_nil ?_
      refine nmb ?_
      refine nm ?_
      refine aw_region ?_
      refine st_p (op_addi rfl rfl (by omega)) rfl ?_
      refine st_p (mv rfl) rfl ?_
      refine al_nil ?_
      refine nm ?_
      refine ⟨⟨j + 1, hjt⟩, by dsimp only; omega, le_to [(0, 1)] rfl rfl rfl rfl rfl ⟨?_, rfl, rfl, rfl, trivial⟩ ⟨?_, trivial⟩⟩
      ·rw [hfl]; simp [AV.ren, tget, swp, bl]
      ·rw [hfl]; simp only [Blk.ren, hget, swp, ren_bl, bl_app]; rfl
     ·have e : ll.take j = ll := List.take_of_length_le (by omega)
      refine aw_seq ?_
      refine aw_region ?_
      refine st_p (OpP.conv (op_lt rfl rfl) (no (by first | assumption | omega))) rfl ?_
      refine al_nil ?_
      refine nm ?_
      refine aw_seq ?_
      refine aw_no (rfl) ?_
      refine aw_exit ?_
      refine xs ?_
      refine xs ?_
      refine xb ?_
      refine nm ?_
      refine aw_seq ?_
      refine aw_region ?_
      refine st_p (mv rfl) rfl ?_
      refine st_p (mva rfl) rfl ?_
      refine al_nil ?_
      refine nm ?_
      refine aw_ret ?_
      refine ret_a ⟨[(2, .own 0 0 ll.flatten.length)], [(0, .cells 1 (bl ll.flatten))], 1⟩ (le_to [(0, 0)] rfl rfl rfl rfl rfl ⟨by rw [e]; rfl, trivial⟩ ⟨by rw [e]; simp only [Blk.ren, hget, ren_bl]; rfl, trivial⟩) (res1 Try.results48) (.inr ⟨rfl, by simp [Blk.nosl, AV.nosl, bl]⟩) ⟨rfl, rfl, rfl⟩

end Go.Proofs.Ytpggknkhldecaaa.Abs
end
section
namespace Go.Proofs.Ytpggknkhldecaaa.Abs

def rdBytes (r : RD) : List UInt8 := [putText r.key, putNum r.ver.toNat, putText r.val].flatten ++ [flagN r.there]
def wrBytes (w : WR) : List UInt8 := [putText w.key, putText w.val].flatten ++ [flagN w.gone]
def txHead (t : TX) : List UInt8 := [putNum t.ses.toNat, putNum t.seq.toNat, putNum t.reads.length].flatten
def txMid (t : TX) : List UInt8 := txHead t ++ (t.reads.map rdBytes).flatten ++ putNum t.writes.length
def putTx (t : TX) : List UInt8 := txMid t ++ (t.writes.map wrBytes).flatten

theorem putText_le (s : List UInt8) (h : s.length ≤ 255) : (putText s).length ≤ 9 + s.length := by
 have := putNum_le s.length (by omega)
 unfold putText
 rw [List.length_append]
 omega

theorem rdBytes_le (r : RD) (hk : r.key.length ≤ 8) (hv : r.val.length ≤ 16) (hn : r.ver ≤ 9223372036854775807) : (rdBytes r).length ≤ 60 := by
 have h1 := putText_le r.key (by omega)
 have h2 := putText_le r.val (by omega)
 have h3 := putNum_le r.ver.toNat (by omega)
 unfold rdBytes
 simp only [List.flatten_cons, List.flatten_nil, List.length_append, List.length_nil, List.length_cons]
 omega

theorem wrBytes_le (w : WR) (hk : w.key.length ≤ 8) (hv : w.val.length ≤ 16) : (wrBytes w).length ≤ 60 := by
 have h1 := putText_le w.key (by omega)
 have h2 := putText_le w.val (by omega)
 unfold wrBytes
 simp only [List.flatten_cons, List.flatten_nil, List.length_append, List.length_nil, List.length_cons]
 omega

theorem rising_key {l : List (List UInt8)} (h : risingB l = true) : ∀ k ∈ l, mayB k = true := by
 intro k hk
 obtain ⟨i, hi⟩ := List.getElem?_of_mem hk
 have := List.all_eq_true.1 h i (List.mem_range.2 (List.getElem?_eq_some_iff.1 hi).1)
 unfold okAt at this
 rw [List.getD_eq_getElem?_getD, hi] at this
 simp only [Bool.and_eq_true] at this
 exact this.1

theorem mayB_len {k : List UInt8} (h : mayB k = true) : 1 ≤ k.length ∧ k.length ≤ 8 := by
 unfold mayB at h
 simp only [Bool.and_eq_true, decide_eq_true_eq] at h
 exact h.2

theorem flat_le {ll : List (List UInt8)} {m : Nat} (h : ∀ l ∈ ll, l.length ≤ m) : ll.flatten.length ≤ m * ll.length := by
 induction ll with
 | nil => simp
 | cons l ll ih =>
  have h1 := h l List.mem_cons_self
  have h2 := ih (fun x hx => h x (List.mem_cons_of_mem _ hx))
  rw [List.flatten_cons, List.length_append, List.length_cons, Nat.mul_add]
  omega

theorem readB_val {r : RD} (h : readB r = true) : 0 ≤ r.ver ∧ r.val.length ≤ 16 := by
 unfold readB at h
 simp only [Bool.and_eq_true, decide_eq_true_eq] at h
 exact h.2

theorem writeB_val {w : WR} (h : writeB w = true) : w.val.length ≤ 16 := by
 unfold writeB at h
 simp only [Bool.and_eq_true, decide_eq_true_eq] at h
 exact h.1

set_option maxHeartbeats 4000000 in
theorem txn_Put (t : TX) (hm : mayTxB t = true) (hv : ∀ r ∈ t.reads, r.ver ≤ 9223372036854775807) :
  AC Try.prog 12 [txA t] [] 0 false (fun v h nx => v = .own 0 0 (putTx t).length ∧ h = [(0, .cells 1 (bl (putTx t)))] ∧ nx = 1) := by
 have hm' := hm
 unfold mayTxB at hm'
 simp only [Bool.and_eq_true, decide_eq_true_eq] at hm'
 obtain ⟨m1, m2, m3, m4, m5, m6, m7, m8, m9, m10⟩ := hm'
 have hkr : ∀ r ∈ t.reads, r.key.length ≤ 8 := fun r hr => (mayB_len (rising_key m6 _ (List.mem_map_of_mem hr))).2
 have hkw : ∀ w ∈ t.writes, w.key.length ≤ 8 := fun w hw => (mayB_len (rising_key m8 _ (List.mem_map_of_mem hw))).2
 have hvr : ∀ r ∈ t.reads, 0 ≤ r.ver ∧ r.val.length ≤ 16 := fun r hr => readB_val (List.all_eq_true.1 m9 r hr)
 have hvw : ∀ w ∈ t.writes, w.val.length ≤ 16 := fun w hw => writeB_val (List.all_eq_true.1 m10 w hw)
 have hmay := txn_May t (by omega) (by omega) (fun r hr => by have := hkr r hr; omega) (fun w hw => by have := hkw w hw; omega)
 rw [hm] at hmay
 clear hm m6 m8 m9 m10
 obtain ⟨ses, seq, rs, ws⟩ := t
 dsimp only at m1 m2 m3 m4 m5 m7 hkr hkw hvr hvw hv
 dsimp only [txA] at hmay ⊢
 have hrl : (rs.map rdA).length = rs.length := List.length_map _
 have hwl : (ws.map wrA).length = ws.length := List.length_map _
 have p1 := num_Put ses (by omega) (by omega)
 have p2 := num_Put seq (by omega) (by omega)
 have p3 := num_Put ((rs.map rdA).length : Int) (by omega) (by omega)
 have l1 := putNum_le ses.toNat (by omega)
 have l2 := putNum_le seq.toNat (by omega)
 have l3 := putNum_le (rs.map rdA).length (by omega)
 rw [Int.toNat_natCast] at p3
 have hcat := concat_bytes [putNum ses.toNat, putNum seq.toNat, putNum (rs.map rdA).length] (by simp) (by simp only [List.flatten_cons, List.flatten_nil, List.length_append, List.length_nil]; omega)
 have hhead : [putNum ses.toNat, putNum seq.toNat, putNum (rs.map rdA).length].flatten = txHead ⟨ses, seq, rs, ws⟩ := by rw [hrl]; rfl
 have hheadl : (txHead ⟨ses, seq, rs, ws⟩).length ≤ 27 := by rw [← hhead]; simp only [List.flatten_cons, List.flatten_nil, List.length_append, List.length_nil]; omega
 rw [hhead] at hcat
 generalize hH : txHead ⟨ses, seq, rs, ws⟩ = H at hcat hheadl
 refine ac_fn Try.func12 rfl rfl rfl rfl (fun w0 S0 r0 => ?_)
 refine aw_seq ?_
 refine aw_region ?_
 refine st_o (bx rfl rfl) rfl ?_
 refine st_p (mva rfl) rfl ?_
 refine al_nil ?_
 refine nm ?_
 refine aw_seq ?_
 refine aw_seq ?_
 refine aw_region ?_
 refine st_p (op_loadA Try.underlying26 rfl z26 rfl rfl rfl rfl) rfl ?_
 refine st_o ((op_callq (hmay) Try.func10 ⟨rfl, rfl⟩ rfl rfl (fun nx => (.cons (.same (by rfl)) .nil)) (by rintro _ _ _ ⟨rfl, rfl, rfl⟩; exact .same rfl)).ok) rfl ?_
 refine st_p (op_notT rfl) rfl ?_
 refine al_nil ?_
 refine nm ?_
 refine aw_no (rfl) ?_
 refine aw_skip ?_
 refine nm ?_
 refine aw_seq ?_
 refine dr_go ?_
 refine dr_f 0 0 [1] rfl (fun H => op_fieldAddr Try.underlying26 rfl z3 (by decide) rfl) ?_
 refine dr_q 0 0 [11] rfl (op_load1 Try.underlying3 rfl rfl rfl rfl rfl) ?_
 refine dr_fq 0 0 [12] rfl (fun H => op_callq (p1) Try.func49 ⟨rfl, rfl⟩ rfl rfl (fun nx => (.cons (.same (by rfl)) .nil)) (by rintro _ _ _ ⟨rfl, rfl, rfl⟩; exact .whole rfl (by simp) (by first | rfl | simp [AV.plain, plains, bl_plain]))) ?_
 refine dr_f 0 0 [1] rfl (fun H => op_fieldAddr Try.underlying26 rfl z3 (by decide) rfl) ?_
 refine dr_q 0 0 [14] rfl (op_load1 Try.underlying3 rfl rfl rfl rfl rfl) ?_
 refine dr_fq 0 0 [15] rfl (fun H => op_callq (p2) Try.func49 ⟨rfl, rfl⟩ rfl rfl (fun nx => (.cons (.same (by rfl)) .nil)) (by rintro _ _ _ ⟨rfl, rfl, rfl⟩; exact .whole rfl (by simp) (by first | rfl | simp [AV.plain, plains, bl_plain]))) ?_
 refine dr_f 0 0 [1] rfl (fun H => op_fieldAddr Try.underlying26 rfl z23 (by decide) rfl) ?_
 refine dr_q 0 0 [17] rfl (op_load1 Try.underlying23 rfl rfl rfl rfl rfl) ?_
 refine dr_f 0 0 [18] rfl (fun H => op_len Try.underlying23 rfl) ?_
 refine dr_fq 0 0 [19] rfl (fun H => op_callq (p3) Try.func49 ⟨rfl, rfl⟩ rfl rfl (fun nx => (.cons (.same (by rfl)) .nil)) (by rintro _ _ _ ⟨rfl, rfl, rfl⟩; exact .whole rfl (by simp) (by first | rfl | simp [AV.plain, plains, bl_plain]))) ?_
 refine dr_fq 0 0 [13, 16, 20] rfl (fun H => op_bslF Try.underlying114 i22 o22 (by decide) rfl rfl rfl (by first | rfl | simp [AV.plain, plains, bl_plain]) (by decide)) ?_
 refine dr_e 0 [21] rfl (op_callg [] 0 false [] [] (hcat) Try.func48 ⟨rfl, rfl⟩ rfl rfl rfl rfl (by omega) (by intro p hp; cases hp) rfl (.cons (.same (by rfl)) .nil) rfl rfl rfl) ?_
 refine dr_f 1 1 [22] rfl (fun H => mva rfl) ?_
 refine dr_end [] (by kernel_rfl) (by kernel_rfl) (by kernel_rfl) (by kernel_rfl) trivial ?_
 refine nm ?_
 refine aw_seq ?_
 refine aw_seq ?_
 refine aw_region ?_
 refine st_p (op_fieldAddr Try.underlying26 rfl z23 (by decide) rfl) rfl ?_
 refine st_p (op_load1 Try.underlying23 rfl rfl rfl rfl rfl) rfl ?_
 refine st_p (op_len Try.underlying23 rfl) rfl ?_
 refine st_p (mv rfl) rfl ?_
 refine al_nil ?_
 refine nm ?_
 refine aw_block ?_
 refine aw_loop (fun i : {i : Nat // i ≤ rs.length} => ⟨[(1, .ptr 0 0 0), (3, .own 1 0 (H ++ ((rs.take i.1).map rdBytes).flatten).length), (24, .sl 4 (rs.map rdA)), (25, .int .i64 rs.length), (26, .int .i64 i.1)], [(0, .cells 4 [.agg [.int .i64 ses, .int .i64 seq, .sl 4 (rs.map rdA), .sl 3 (ws.map wrA)]]), (1, .cells 1 (bl (H ++ ((rs.take i.1).map rdBytes).flatten)))], 2⟩) (fun i => rs.length - i.1) ⟨0, Nat.zero_le _⟩ ?_ ?_
 ·exact le_to [(0, 0), (1, 1)] rfl rfl rfl rfl rfl ⟨rfl, by simp [tget, AV.ren, swp], rfl, by rw [← hrl]; rfl, rfl, trivial⟩ ⟨rfl, by simp [hget, rest, swp, Blk.ren, AV.ren], trivial⟩
 ·rintro ⟨i, hi⟩
  dsimp only
  by_cases hlt : i < rs.length
  ·obtain ⟨x, hx⟩ : ∃ x, rs[i]? = some x := ⟨_, List.getElem?_eq_getElem hlt⟩
   have hxb : (rs.map rdA)[((i : Nat) : Int).toNat]? = some (.agg [sb x.key, .int .i64 x.ver, sb x.val, .bool x.there]) := by rw [Int.toNat_natCast, List.getElem?_map, hx]; rfl
   have hxm : x ∈ rs := List.mem_of_getElem? hx
   have hk := hkr x hxm
   have hvx := hvr x hxm
   have hvm := hv x hxm
   have hcl : (((rs.take i).map rdBytes).flatten).length ≤ 60 * i := by
    have := flat_le (ll := (rs.take i).map rdBytes) (m := 60) (fun l hl => by
     obtain ⟨r, hr, rfl⟩ := List.mem_map.1 hl
     have hr := List.mem_of_mem_take hr
     exact rdBytes_le r (hkr r hr) (hvr r hr).2 (hv r hr))
    rw [List.length_map, List.length_take, Nat.min_eq_left (by omega)] at this
    exact this
   have q1 := num_PutText x.key (by omega)
   have q2 := num_Put x.ver hvx.1 hvm
   have q3 := num_PutText x.val (by omega)
   have k1 := putText_le x.key (by omega)
   have k2 := putNum_le x.ver.toNat (by omega)
   have k3 := putText_le x.val (by omega)
   have hnext : H ++ ((rs.take (i + 1)).map rdBytes).flatten = [H ++ ((rs.take i).map rdBytes).flatten, putText x.key, putNum x.ver.toNat, putText x.val].flatten ++ [flagN x.there] := by
    rw [List.take_add_one, hx]
    simp [rdBytes]
   generalize hC : H ++ ((rs.take i).map rdBytes).flatten = C at hnext ⊢
   have hCl : C.length ≤ 27 + 60 * i := by rw [← hC, List.length_append]; omega
   have hc2 := concat_bytes [C, putText x.key, putNum x.ver.toNat, putText x.val] (by simp) (by simp only [List.flatten_cons, List.flatten_nil, List.length_append, List.length_nil]; omega)
   have hdl : [C, putText x.key, putNum x.ver.toNat, putText x.val].flatten.length ≤ 1000 := by simp only [List.flatten_cons, List.flatten_nil, List.length_append, List.length_nil]; omega
   generalize hD : [C, putText x.key, putNum x.ver.toNat, putText x.val].flatten = D at hc2 hdl hnext
   have hfl := txn_flag x.there
   refine aw_seq ?_
   refine aw_region ?_
   refine st_p (OpP.conv (op_lt rfl rfl) (yes (by first | assumption | omega))) rfl ?_
   refine al_nil ?_
   refine nm ?_
   refine aw_seq ?_
   refine aw_yes (rfl) ?_
   refine aw_skip ?_
   refine nm ?_
   refine aw_seq ?_
   refine aw_block ?_
   refine aw_seq ?_
   refine aw_frz 1 rfl (by first | rfl | assumption | simp [AV.plain, plains, bl_plain, sb]) rfl ?_
   dsimp only [frzS, hdel, List.map_cons, List.map_nil, AV.frz, frzs, Blk.frz, ↓reduceIte, Nat.reduceEqDiff, reduceCtorEq]
   refine aw_le (st' := ⟨[(1, .ptr 0 0 0), (3, .sl 1 (bl C)), (24, .sl 4 (rs.map rdA)), (25, .int .i64 rs.length), (26, .int .i64 i)], [(0, .cells 4 [.agg [.int .i64 ses, .int .i64 seq, .sl 4 (rs.map rdA), .sl 3 (ws.map wrA)]])], 2⟩) (le_to [(0, 0)] rfl rfl rfl rfl rfl ⟨rfl, by simp [tget, AV.ren, AV.frz, bl_take, bl_drop], rfl, rfl, rfl, trivial⟩ ⟨rfl, trivial⟩) ?_
   refine aw_region ?_
   refine st_p (op_indexAddrL Try.underlying23 z67 rfl rfl (by omega) (by first | assumption | rfl)) rfl ?_
   refine st_p (op_loadAL Try.underlying67 rfl z67 rfl rfl) rfl ?_
   refine st_o (op_alloc a67 rfl rfl) rfl ?_
   refine st_n (stA z67 rfl rfl rfl rfl rfl rfl rfl rfl rfl rfl) ?_
   refine al_nil ?_
   refine nm ?_
   refine dr_go ?_
   refine dr_f 0 0 [3] rfl (fun H => mv rfl) ?_
   refine dr_f 0 0 [5] rfl (fun H => op_fieldAddr Try.underlying67 rfl z9 (by decide) rfl) ?_
   refine dr_q 0 0 [31] rfl (op_load1 Try.underlying9 rfl rfl rfl rfl rfl) ?_
   refine dr_fq 0 0 [32] rfl (fun H => op_callq (q1) Try.func50 ⟨rfl, rfl⟩ rfl rfl (fun nx => (.cons (.same (by rfl)) .nil)) (by rintro _ _ _ ⟨rfl, rfl, rfl⟩; exact .whole rfl (by simp) (by first | rfl | simp [AV.plain, plains, bl_plain]))) ?_
   refine dr_f 0 0 [5] rfl (fun H => op_fieldAddr Try.underlying67 rfl z3 (by decide) rfl) ?_
   refine dr_q 0 0 [34] rfl (op_load1 Try.underlying3 rfl rfl rfl rfl rfl) ?_
   refine dr_fq 0 0 [35] rfl (fun H => op_callq (q2) Try.func49 ⟨rfl, rfl⟩ rfl rfl (fun nx => (.cons (.same (by rfl)) .nil)) (by rintro _ _ _ ⟨rfl, rfl, rfl⟩; exact .whole rfl (by simp) (by first | rfl | simp [AV.plain, plains, bl_plain]))) ?_
   refine dr_f 0 0 [5] rfl (fun H => op_fieldAddr Try.underlying67 rfl z9 (by decide) rfl) ?_
   refine dr_q 0 0 [37] rfl (op_load1 Try.underlying9 rfl rfl rfl rfl rfl) ?_
   refine dr_fq 0 0 [38] rfl (fun H => op_callq (q3) Try.func50 ⟨rfl, rfl⟩ rfl rfl (fun nx => (.cons (.same (by rfl)) .nil)) (by rintro _ _ _ ⟨rfl, rfl, rfl⟩; exact .whole rfl (by simp) (by first | rfl | simp [AV.plain, plains, bl_plain]))) ?_
   refine dr_fq 0 0 [30, 33, 36, 39] rfl (fun H => op_bslF Try.underlying114 i22 o22 (by decide) rfl rfl rfl (by first | rfl | simp [AV.plain, plains, bl_plain]) (by decide)) ?_
   refine dr_e 0 [40] rfl (op_callg [] 0 false [] [] (hc2) Try.func48 ⟨rfl, rfl⟩ rfl rfl rfl rfl (by omega) (by intro p hp; cases hp) rfl (.cons (.same (by rfl)) .nil) rfl rfl rfl) ?_
   refine dr_f 0 1 [5] rfl (fun H => op_fieldAddr Try.underlying67 rfl z4 (by decide) rfl) ?_
   refine dr_q 0 1 [42] rfl (op_load1 Try.underlying4 rfl rfl rfl rfl rfl) ?_
   refine dr_fq 1 1 [43] rfl (fun H => op_callq (hfl) Try.func51 ⟨rfl, rfl⟩ rfl rfl (fun nx => (.cons (.same (by rfl)) .nil)) (by rintro _ _ _ ⟨rfl, rfl, rfl⟩; exact .same rfl)) ?_
   refine dr_fq 1 1 [44] rfl (fun H => op_bslF Try.underlying22 i5 o5 (by decide) rfl rfl rfl (by first | rfl | simp [AV.plain, plains, bl_plain]) (by decide)) ?_
   refine dr_e 1 [41, 45] rfl (op_app Try.underlying22 Try.underlying22 (.inl ⟨_, rfl⟩) i5 o5 rfl rfl rfl (by first | rfl | omega | (simp; done) | (simp; omega)) ((SrcA.sl (.inr trivial)).ok rfl (by first | assumption | intro z hz; simp only [List.mem_singleton, List.drop_zero, List.take_succ_cons, List.take_zero, List.mem_cons, List.not_mem_nil, or_false, List.mem_map] at hz; first | (subst hz; rfl) | (obtain ⟨_, _, rfl⟩ := hz; rfl) | (rcases hz with rfl | rfl <;> rfl))) (by first | omega | (simp; try omega)) rfl) ?_
   refine dr_f 2 2 [46] rfl (fun H => mva rfl) ?_
   refine dr_end [(13, 0)] (by kernel_rfl) (by kernel_rfl) (by kernel_rfl) (by kernel_rfl) ⟨(by first | exact ⟨_, rfl, OpP.q (op_load1L Try.underlying4 rfl rfl rfl)⟩ | exact ⟨_, rfl, OpP.q (op_load1 Try.underlying4 rfl rfl rfl rfl rfl)⟩ | exact ⟨_, rfl, OpP.q (op_load1 Try.underlying4 rfl rfl rfl (by assumption) rfl)⟩ | exact ⟨_, rfl, OpP.q (op_load1 Try.underlying4 rfl rfl rfl rfl (by assumption))⟩), trivial⟩ ?_
   refine nmb ?_
   refine nm ?_
   refine aw_region ?_
   refine st_p (op_addi rfl rfl (by omega)) rfl ?_
   refine st_p (mv rfl) rfl ?_
   refine al_nil ?_
   refine nm ?_
   refine ⟨⟨i + 1, hlt⟩, by dsimp only; omega, le_to [(0, 0), (1, 4)] rfl rfl rfl rfl rfl ⟨rfl, ?_, rfl, rfl, rfl, trivial⟩ ⟨rfl, ?_, trivial⟩⟩
   ·rw [hnext]; simp [tget, AV.ren, swp]
   ·rw [hnext]; simp [hget, rest, swp, Blk.ren, AV.ren]
  ·have e : rs.take i = rs := List.take_of_length_le (by omega)
   rw [e]
   have hcl : ((rs.map rdBytes).flatten).length ≤ 360 := by
    have := flat_le (ll := rs.map rdBytes) (m := 60) (fun l hl => by
     obtain ⟨r, hr, rfl⟩ := List.mem_map.1 hl
     exact rdBytes_le r (hkr r hr) (hvr r hr).2 (hv r hr))
    rw [List.length_map] at this
    omega
   have p4 := num_Put ((ws.map wrA).length : Int) (by omega) (by omega)
   have l4 := putNum_le (ws.map wrA).length (by omega)
   rw [Int.toNat_natCast] at p4
   have l5 := putNum_le ws.length (by omega)
   have hM : H ++ (rs.map rdBytes).flatten ++ putNum (ws.map wrA).length = txMid ⟨ses, seq, rs, ws⟩ := by rw [← hH, hwl]; rfl
   generalize hB : H ++ (rs.map rdBytes).flatten = B at hM ⊢
   have hBl : B.length ≤ 400 := by rw [← hB, List.length_append]; omega
   refine aw_seq ?_
   refine aw_region ?_
   refine st_p (OpP.conv (op_lt rfl rfl) (no (by first | assumption | omega))) rfl ?_
   refine al_nil ?_
   refine nm ?_
   refine aw_seq ?_
   refine aw_no (rfl) ?_
   refine aw_exit ?_
   refine xs ?_
   refine xs ?_
   refine xb ?_
   refine nm ?_
   refine aw_seq ?_
   refine aw_region ?_
   refine st_p (mv rfl) rfl ?_
   refine st_p (op_fieldAddr Try.underlying26 rfl z24 (by decide) rfl) rfl ?_
   refine st_p (op_load1 Try.underlying24 rfl rfl rfl rfl rfl) rfl ?_
   refine st_p (op_len Try.underlying24 rfl) rfl ?_
   refine st_o ((op_callq (p4) Try.func49 ⟨rfl, rfl⟩ rfl rfl (fun nx => (.cons (.same (by rfl)) .nil)) (by rintro _ _ _ ⟨rfl, rfl, rfl⟩; exact .whole rfl (by simp) (by first | rfl | simp [AV.plain, plains, bl_plain]))).ok) rfl ?_
   refine st_o (op_app Try.underlying22 Try.underlying22 (.inl ⟨_, rfl⟩) i5 o5 rfl rfl rfl (by first | rfl | omega | (simp; done) | (simp; omega)) ((SrcA.sl (.inr trivial)).ok rfl (by first | assumption | intro z hz; simp only [List.mem_singleton, List.drop_zero, List.take_succ_cons, List.take_zero, List.mem_cons, List.not_mem_nil, or_false, List.mem_map] at hz; first | (subst hz; rfl) | (obtain ⟨_, _, rfl⟩ := hz; rfl) | (rcases hz with rfl | rfl <;> rfl))) (by first | omega | (simp; try omega)) rfl) rfl ?_
   refine st_p (mva rfl) rfl ?_
   refine al_nil ?_
   refine nm ?_
   refine aw_seq ?_
   refine aw_seq ?_
   refine aw_region ?_
   refine st_p (op_fieldAddr Try.underlying26 rfl z24 (by decide) rfl) rfl ?_
   refine st_p (op_load1 Try.underlying24 rfl rfl rfl rfl rfl) rfl ?_
   refine st_p (op_len Try.underlying24 rfl) rfl ?_
   refine st_p (mv rfl) rfl ?_
   refine al_nil ?_
   refine nm ?_
   refine aw_block ?_
   refine aw_loop (fun j : {j : Nat // j ≤ ws.length} => ⟨[(1, .ptr 0 0 0), (3, .own 1 0 (txMid ⟨ses, seq, rs, ws⟩ ++ ((ws.take j.1).map wrBytes).flatten).length), (55, .sl 3 (ws.map wrA)), (56, .int .i64 ws.length), (57, .int .i64 j.1)], [(0, .cells 4 [.agg [.int .i64 ses, .int .i64 seq, .sl 4 (rs.map rdA), .sl 3 (ws.map wrA)]]), (1, .cells 1 (bl (txMid ⟨ses, seq, rs, ws⟩ ++ ((ws.take j.1).map wrBytes).flatten)))], 2⟩) (fun j => ws.length - j.1) ⟨0, Nat.zero_le _⟩ ?_ ?_
   ·refine le_to [(0, 0), (1, 2)] rfl rfl rfl rfl rfl ⟨rfl, ?_, rfl, by rw [← hwl]; rfl, rfl, trivial⟩ ⟨rfl, ?_, trivial⟩
    ·rw [← hM]; simp [tget, AV.ren, swp]
    ·rw [← hM]; simp [hget, rest, swp, Blk.ren, AV.ren]; rfl
   ·have hMl : (txMid ⟨ses, seq, rs, ws⟩).length ≤ 409 := by rw [← hM, List.length_append]; omega
    clear hM p4 l4
    have hput : putTx ⟨ses, seq, rs, ws⟩ = txMid ⟨ses, seq, rs, ws⟩ ++ (ws.map wrBytes).flatten := rfl
    rw [hput]
    clear hput
    generalize txMid ⟨ses, seq, rs, ws⟩ = M at hMl
    rintro ⟨j, hj⟩
    dsimp only
    by_cases hjt : j < ws.length
    ·obtain ⟨x, hx⟩ : ∃ x, ws[j]? = some x := ⟨_, List.getElem?_eq_getElem hjt⟩
     have hxb : (ws.map wrA)[((j : Nat) : Int).toNat]? = some (.agg [sb x.key, sb x.val, .bool x.gone]) := by rw [Int.toNat_natCast, List.getElem?_map, hx]; rfl
     have hxm : x ∈ ws := List.mem_of_getElem? hx
     have hk := hkw x hxm
     have hvx := hvw x hxm
     have hcl : (((ws.take j).map wrBytes).flatten).length ≤ 60 * j := by
      have := flat_le (ll := (ws.take j).map wrBytes) (m := 60) (fun l hl => by
       obtain ⟨r, hr, rfl⟩ := List.mem_map.1 hl
       have hr := List.mem_of_mem_take hr
       exact wrBytes_le r (hkw r hr) (hvw r hr))
      rw [List.length_map, List.length_take, Nat.min_eq_left (by omega)] at this
      exact this
     have q1 := num_PutText x.key (by omega)
     have q3 := num_PutText x.val (by omega)
     have k1 := putText_le x.key (by omega)
     have k3 := putText_le x.val (by omega)
     have hnext : M ++ ((ws.take (j + 1)).map wrBytes).flatten = [M ++ ((ws.take j).map wrBytes).flatten, putText x.key, putText x.val].flatten ++ [flagN x.gone] := by
      rw [List.take_add_one, hx]
      simp [wrBytes]
     generalize hC : M ++ ((ws.take j).map wrBytes).flatten = C at hnext ⊢
     have hCl : C.length ≤ 409 + 60 * j := by rw [← hC, List.length_append]; omega
     have hc2 := concat_bytes [C, putText x.key, putText x.val] (by simp) (by simp only [List.flatten_cons, List.flatten_nil, List.length_append, List.length_nil]; omega)
     have hdl : [C, putText x.key, putText x.val].flatten.length ≤ 1000 := by simp only [List.flatten_cons, List.flatten_nil, List.length_append, List.length_nil]; omega
     generalize hD : [C, putText x.key, putText x.val].flatten = D at hc2 hdl hnext
     have hfl := txn_flag x.gone
     refine aw_seq ?_
     refine aw_region ?_
     refine st_p (OpP.conv (op_lt rfl rfl) (yes (by first | assumption | omega))) rfl ?_
     refine al_nil ?_
     refine nm ?_
     refine aw_seq ?_
     refine aw_yes (rfl) ?_
     refine aw_skip ?_
     refine nm ?_
     refine aw_seq ?_
     refine aw_block ?_
     refine aw_seq ?_
     refine aw_frz 1 rfl (by first | rfl | assumption | simp [AV.plain, plains, bl_plain, sb]) rfl ?_
     dsimp only [frzS, hdel, List.map_cons, List.map_nil, AV.frz, frzs, Blk.frz, ↓reduceIte, Nat.reduceEqDiff, reduceCtorEq]
     refine aw_le (st' := ⟨[(1, .ptr 0 0 0), (3, .sl 1 (bl C)), (55, .sl 3 (ws.map wrA)), (56, .int .i64 ws.length), (57, .int .i64 j)], [(0, .cells 4 [.agg [.int .i64 ses, .int .i64 seq, .sl 4 (rs.map rdA), .sl 3 (ws.map wrA)]])], 2⟩) (le_to [(0, 0)] rfl rfl rfl rfl rfl ⟨rfl, by simp [tget, AV.ren, AV.frz, bl_take, bl_drop], rfl, rfl, rfl, trivial⟩ ⟨rfl, trivial⟩) ?_
     refine aw_region ?_
     refine st_p (op_indexAddrL Try.underlying24 z65 rfl rfl (by omega) (by first | assumption | rfl)) rfl ?_
     refine st_p (op_loadAL Try.underlying65 rfl z65 rfl rfl) rfl ?_
     refine st_o (op_alloc a65 rfl rfl) rfl ?_
     refine st_n (stA z65 rfl rfl rfl rfl rfl rfl rfl rfl rfl rfl) ?_
     refine al_nil ?_
     refine nm ?_
     refine dr_go ?_
     refine dr_f 0 0 [3] rfl (fun H => mv rfl) ?_
     refine dr_f 0 0 [7] rfl (fun H => op_fieldAddr Try.underlying65 rfl z9 (by decide) rfl) ?_
     refine dr_q 0 0 [62] rfl (op_load1 Try.underlying9 rfl rfl rfl rfl rfl) ?_
     refine dr_fq 0 0 [63] rfl (fun H => op_callq (q1) Try.func50 ⟨rfl, rfl⟩ rfl rfl (fun nx => (.cons (.same (by rfl)) .nil)) (by rintro _ _ _ ⟨rfl, rfl, rfl⟩; exact .whole rfl (by simp) (by first | rfl | simp [AV.plain, plains, bl_plain]))) ?_
     refine dr_f 0 0 [7] rfl (fun H => op_fieldAddr Try.underlying65 rfl z9 (by decide) rfl) ?_
     refine dr_q 0 0 [65] rfl (op_load1 Try.underlying9 rfl rfl rfl rfl rfl) ?_
     refine dr_fq 0 0 [66] rfl (fun H => op_callq (q3) Try.func50 ⟨rfl, rfl⟩ rfl rfl (fun nx => (.cons (.same (by rfl)) .nil)) (by rintro _ _ _ ⟨rfl, rfl, rfl⟩; exact .whole rfl (by simp) (by first | rfl | simp [AV.plain, plains, bl_plain]))) ?_
     refine dr_fq 0 0 [61, 64, 67] rfl (fun H => op_bslF Try.underlying114 i22 o22 (by decide) rfl rfl rfl (by first | rfl | simp [AV.plain, plains, bl_plain]) (by decide)) ?_
     refine dr_e 0 [68] rfl (op_callg [] 0 false [] [] (hc2) Try.func48 ⟨rfl, rfl⟩ rfl rfl rfl rfl (by omega) (by intro p hp; cases hp) rfl (.cons (.same (by rfl)) .nil) rfl rfl rfl) ?_
     refine dr_f 0 1 [7] rfl (fun H => op_fieldAddr Try.underlying65 rfl z4 (by decide) rfl) ?_
     refine dr_q 0 1 [70] rfl (op_load1 Try.underlying4 rfl rfl rfl rfl rfl) ?_
     refine dr_fq 1 1 [71] rfl (fun H => op_callq (hfl) Try.func51 ⟨rfl, rfl⟩ rfl rfl (fun nx => (.cons (.same (by rfl)) .nil)) (by rintro _ _ _ ⟨rfl, rfl, rfl⟩; exact .same rfl)) ?_
     refine dr_fq 1 1 [72] rfl (fun H => op_bslF Try.underlying22 i5 o5 (by decide) rfl rfl rfl (by first | rfl | simp [AV.plain, plains, bl_plain]) (by decide)) ?_
     refine dr_e 1 [69, 73] rfl (op_app Try.underlying22 Try.underlying22 (.inl ⟨_, rfl⟩) i5 o5 rfl rfl rfl (by first | rfl | omega | (simp; done) | (simp; omega)) ((SrcA.sl (.inr trivial)).ok rfl (by first | assumption | intro z hz; simp only [List.mem_singleton, List.drop_zero, List.take_succ_cons, List.take_zero, List.mem_cons, List.not_mem_nil, or_false, List.mem_map] at hz; first | (subst hz; rfl) | (obtain ⟨_, _, rfl⟩ := hz; rfl) | (rcases hz with rfl | rfl <;> rfl))) (by first | omega | (simp; try omega)) rfl) ?_
     refine dr_f 2 2 [74] rfl (fun H => mva rfl) ?_
     refine dr_end [(10, 0)] (by kernel_rfl) (by kernel_rfl) (by kernel_rfl) (by kernel_rfl) ⟨(by first | exact ⟨_, rfl, OpP.q (op_load1L Try.underlying4 rfl rfl rfl)⟩ | exact ⟨_, rfl, OpP.q (op_load1 Try.underlying4 rfl rfl rfl rfl rfl)⟩ | exact ⟨_, rfl, OpP.q (op_load1 Try.underlying4 rfl rfl rfl (by assumption) rfl)⟩ | exact ⟨_, rfl, OpP.q (op_load1 Try.underlying4 rfl rfl rfl rfl (by assumption))⟩), trivial⟩ ?_
     refine nmb ?_
     refine nm ?_
     refine aw_region ?_
     refine st_p (op_addi rfl rfl (by omega)) rfl ?_
     refine st_p (mv rfl) rfl ?_
     refine al_nil ?_
     refine nm ?_
     refine ⟨⟨j + 1, hjt⟩, by dsimp only; omega, le_to [(0, 0), (1, 4)] rfl rfl rfl rfl rfl ⟨rfl, ?_, rfl, rfl, rfl, trivial⟩ ⟨rfl, ?_, trivial⟩⟩
     ·rw [hnext]; simp [tget, AV.ren, swp]
     ·rw [hnext]; simp [hget, rest, swp, Blk.ren, AV.ren]
    ·have e : ws.take j = ws := List.take_of_length_le (by omega)
     rw [e]
     refine aw_seq ?_
     refine aw_region ?_
     refine st_p (OpP.conv (op_lt rfl rfl) (no (by first | assumption | omega))) rfl ?_
     refine al_nil ?_
     refine nm ?_
     refine aw_seq ?_
     refine aw_no (rfl) ?_
     refine aw_exit ?_
     refine xs ?_
     refine xs ?_
     refine xb ?_
     refine nm ?_
     refine aw_seq ?_
     refine aw_region ?_
     refine st_p (mv rfl) rfl ?_
     refine st_p (mva rfl) rfl ?_
     refine al_nil ?_
     refine nm ?_
     refine aw_ret ?_
     exact ret_a ⟨[(2, .own 0 0 (M ++ (ws.map wrBytes).flatten).length)], [(0, .cells 1 (bl (M ++ (ws.map wrBytes).flatten)))], 1⟩ (le_to [(0, 1)] rfl rfl rfl rfl rfl ⟨rfl, trivial⟩ ⟨by simp only [Blk.ren, ren_bl]; rfl, trivial⟩) (res1 Try.results12) (.inr ⟨rfl, by simp [Blk.nosl, AV.nosl, bl]⟩) ⟨rfl, rfl, rfl⟩

theorem txn_Put_no (t : TX) (hm : mayTxB t = false) (hr : t.reads.length ≤ 1000000) (hw : t.writes.length ≤ 1000000) (hkr : ∀ r ∈ t.reads, r.key.length ≤ 281474976710656) (hkw : ∀ w ∈ t.writes, w.key.length ≤ 281474976710656) :
  AC Try.prog 12 [txA t] [] 0 false (fun v h nx => v = .nils ∧ h = [] ∧ nx = 0) := by
 have hmay := txn_May t hr hw hkr hkw
 rw [hm] at hmay
 obtain ⟨ses, seq, ll, mm⟩ := t
 dsimp only [txA] at hmay ⊢
 refine ac_fn Try.func12 rfl rfl rfl rfl (fun w0 S0 r0 => ?_)
 refine aw_seq ?_
 refine aw_region ?_
 refine st_o (bx rfl rfl) rfl ?_
 refine st_p (mva rfl) rfl ?_
 refine al_nil ?_
 refine nm ?_
 refine aw_seq ?_
 refine aw_seq ?_
 refine aw_region ?_
 refine st_p (op_loadA Try.underlying26 rfl z26 rfl rfl rfl rfl) rfl ?_
 refine st_o ((op_callq (hmay) Try.func10 ⟨rfl, rfl⟩ rfl rfl (fun nx => (.cons (.same (by rfl)) .nil)) (by rintro _ _ _ ⟨rfl, rfl, rfl⟩; exact .same rfl)).ok) rfl ?_
 refine st_p (op_notF rfl) rfl ?_
 refine al_nil ?_
 refine nm ?_
 refine aw_yes (rfl) ?_
 refine aw_seq ?_
 refine aw_region ?_
 refine st_p (mva rfl) rfl ?_
 refine al_nil ?_
 refine nm ?_
 refine aw_ret ?_
 refine rs ?_
 exact ret_a ⟨[(2, .nils)], [], 0⟩ (le_to [] rfl rfl rfl rfl rfl ⟨rfl, trivial⟩ trivial) (res1 Try.results12) (.inr ⟨rfl, rfl⟩) ⟨rfl, rfl, rfl⟩

end Go.Proofs.Ytpggknkhldecaaa.Abs
end
section
namespace Go.Proofs.Ytpggknkhldecaaa.Abs

set_option maxHeartbeats 4000000 in
theorem ref_PutTxn (t : TX) (hm : mayTxB t = true) (hv : ∀ r ∈ t.reads, r.ver ≤ 9223372036854775807) (hmay : AC Try.prog 11 [txA t] [] 0 false (fun v h nx => v = .bool true ∧ h = [] ∧ nx = 0)) :
  AC Try.prog 13 [txA t] [] 0 false (fun v h nx => v = .own 0 0 (putTx t).length ∧ h = [(0, .cells 1 (bl (putTx t)))] ∧ nx = 1) := by
 have hm' := hm
 unfold mayTxB at hm'
 simp only [Bool.and_eq_true, decide_eq_true_eq] at hm'
 obtain ⟨m1, m2, m3, m4, m5, m6, m7, m8, m9, m10⟩ := hm'
 have hkr : ∀ r ∈ t.reads, r.key.length ≤ 8 := fun r hr => (mayB_len (rising_key m6 _ (List.mem_map_of_mem hr))).2
 have hkw : ∀ w ∈ t.writes, w.key.length ≤ 8 := fun w hw => (mayB_len (rising_key m8 _ (List.mem_map_of_mem hw))).2
 have hvr : ∀ r ∈ t.reads, 0 ≤ r.ver ∧ r.val.length ≤ 16 := fun r hr => readB_val (List.all_eq_true.1 m9 r hr)
 have hvw : ∀ w ∈ t.writes, w.val.length ≤ 16 := fun w hw => writeB_val (List.all_eq_true.1 m10 w hw)
 clear hm m6 m8 m9 m10
 obtain ⟨ses, seq, rl, wl⟩ := t
 dsimp only at m1 m2 m3 m4 m5 m7 hkr hkw hvr hvw hv
 dsimp only [txA] at hmay ⊢
 have hrl : (rl.map rdA).length = rl.length := List.length_map _
 have hwl : (wl.map wrA).length = wl.length := List.length_map _
 have p1 := ref_PutNum ses (by omega) (by omega)
 have p2 := ref_PutNum seq (by omega) (by omega)
 have p3 := ref_PutNum ((rl.map rdA).length : Int) (by omega) (by omega)
 have l1 := putNum_le ses.toNat (by omega)
 have l2 := putNum_le seq.toNat (by omega)
 have l3 := putNum_le (rl.map rdA).length (by omega)
 have l3' := putNum_le rl.length (by omega)
 rw [Int.toNat_natCast] at p3
 have hhead : putNum ses.toNat ++ putNum seq.toNat ++ putNum rl.length = txHead ⟨ses, seq, rl, wl⟩ := by simp [txHead]
 have hheadl : (txHead ⟨ses, seq, rl, wl⟩).length ≤ 27 := by rw [← hhead, List.length_append, List.length_append]; omega
 generalize hH : txHead ⟨ses, seq, rl, wl⟩ = H at hhead hheadl
 refine ac_fn Try.func13 rfl rfl rfl rfl (fun w0 S0 r0 => ?_)
 refine aw_seq ?_
 refine aw_region ?_
 refine st_o (bx rfl rfl) rfl ?_
 refine st_p (mva rfl) rfl ?_
 refine al_nil ?_
 refine nm ?_
 refine aw_seq ?_
 refine aw_seq ?_
 refine aw_region ?_
 refine st_p (op_loadA Try.underlying26 rfl z26 rfl rfl rfl rfl) rfl ?_
 refine st_o ((op_callq (hmay) Try.func11 ⟨rfl, rfl⟩ rfl rfl (fun nx => (.cons (.same (by rfl)) .nil)) (by rintro _ _ _ ⟨rfl, rfl, rfl⟩; exact .same rfl)).ok) rfl ?_
 refine st_p (op_notT rfl) rfl ?_
 refine al_nil ?_
 refine nm ?_
 refine aw_no (rfl) ?_
 refine aw_skip ?_
 refine nm ?_
 refine aw_seq ?_
 refine dr_go ?_
 refine dr_f 0 0 [1] rfl (fun H => op_fieldAddr Try.underlying26 rfl z3 (by decide) rfl) ?_
 refine dr_q 0 0 [11] rfl (op_load1 Try.underlying3 rfl rfl rfl rfl rfl) ?_
 refine dr_e 0 [12] rfl (op_callg [] 0 false [] [] (p1) Try.func52 ⟨rfl, rfl⟩ rfl rfl rfl rfl (by omega) (by intro p hp; cases hp) rfl (.cons (.same (by rfl)) .nil) rfl rfl rfl) ?_
 refine dr_f 0 1 [1] rfl (fun H => op_fieldAddr Try.underlying26 rfl z3 (by decide) rfl) ?_
 refine dr_q 0 1 [14] rfl (op_load1 Try.underlying3 rfl rfl rfl rfl rfl) ?_
 refine dr_fq 1 1 [15] rfl (fun H => op_callq (p2) Try.func52 ⟨rfl, rfl⟩ rfl rfl (fun nx => (.cons (.same (by rfl)) .nil)) (by rintro _ _ _ ⟨rfl, rfl, rfl⟩; exact .whole rfl (by simp) (by first | rfl | simp [AV.plain, plains, bl_plain]))) ?_
 refine dr_e 1 [13, 16] rfl (op_app Try.underlying22 Try.underlying22 (.inl ⟨_, rfl⟩) i5 o5 rfl rfl rfl (by first | rfl | omega | (simp; done) | (simp; omega)) ((SrcA.sl (.inr trivial)).ok rfl (by first | assumption | intro z hz; simp only [List.mem_singleton, List.drop_zero, List.take_succ_cons, List.take_zero, List.mem_cons, List.not_mem_nil, or_false, List.mem_map] at hz; first | (subst hz; rfl) | (obtain ⟨_, _, rfl⟩ := hz; rfl) | (rcases hz with rfl | rfl <;> rfl))) (by first | omega | (simp; try omega)) rfl) ?_
 refine dr_f 0 2 [1] rfl (fun H => op_fieldAddr Try.underlying26 rfl z23 (by decide) rfl) ?_
 refine dr_q 0 2 [18] rfl (op_load1 Try.underlying23 rfl rfl rfl rfl rfl) ?_
 refine dr_f 0 2 [19] rfl (fun H => op_len Try.underlying23 rfl) ?_
 refine dr_fq 2 2 [20] rfl (fun H => op_callq (p3) Try.func52 ⟨rfl, rfl⟩ rfl rfl (fun nx => (.cons (.same (by rfl)) .nil)) (by rintro _ _ _ ⟨rfl, rfl, rfl⟩; exact .whole rfl (by simp) (by first | rfl | simp [AV.plain, plains, bl_plain]))) ?_
 refine dr_e 2 [17, 21] rfl (op_app Try.underlying22 Try.underlying22 (.inl ⟨_, rfl⟩) i5 o5 rfl rfl rfl (by first | rfl | omega | (simp; done) | (simp; omega)) ((SrcA.sl (.inr trivial)).ok rfl (by first | assumption | intro z hz; simp only [List.mem_singleton, List.drop_zero, List.take_succ_cons, List.take_zero, List.mem_cons, List.not_mem_nil, or_false, List.mem_map] at hz; first | (subst hz; rfl) | (obtain ⟨_, _, rfl⟩ := hz; rfl) | (rcases hz with rfl | rfl <;> rfl))) (by first | omega | (simp; try omega)) rfl) ?_
 refine dr_f 3 3 [22] rfl (fun H => mva rfl) ?_
 refine dr_end [(4, 0), (8, 0), (8, 1)] (by kernel_rfl) (by kernel_rfl) (by kernel_rfl) (by kernel_rfl) ⟨(by first | exact ⟨_, rfl, OpP.q (op_load1L Try.underlying3 rfl rfl rfl)⟩ | exact ⟨_, rfl, OpP.q (op_load1 Try.underlying3 rfl rfl rfl rfl rfl)⟩ | exact ⟨_, rfl, OpP.q (op_load1 Try.underlying3 rfl rfl rfl (by assumption) rfl)⟩ | exact ⟨_, rfl, OpP.q (op_load1 Try.underlying3 rfl rfl rfl rfl (by assumption))⟩), (by first | exact ⟨_, rfl, OpP.q (op_load1L Try.underlying23 rfl rfl rfl)⟩ | exact ⟨_, rfl, OpP.q (op_load1 Try.underlying23 rfl rfl rfl rfl rfl)⟩ | exact ⟨_, rfl, OpP.q (op_load1 Try.underlying23 rfl rfl rfl (by assumption) rfl)⟩ | exact ⟨_, rfl, OpP.q (op_load1 Try.underlying23 rfl rfl rfl rfl (by assumption))⟩), (by first | exact ⟨_, rfl, OpP.q (op_load1L Try.underlying23 rfl rfl rfl)⟩ | exact ⟨_, rfl, OpP.q (op_load1 Try.underlying23 rfl rfl rfl rfl rfl)⟩ | exact ⟨_, rfl, OpP.q (op_load1 Try.underlying23 rfl rfl rfl (by assumption) rfl)⟩ | exact ⟨_, rfl, OpP.q (op_load1 Try.underlying23 rfl rfl rfl rfl (by assumption))⟩), trivial⟩ ?_
 refine nm ?_
 refine aw_seq ?_
 refine aw_seq ?_
 refine aw_region ?_
 refine st_p (mva rfl) rfl ?_
 refine al_nil ?_
 refine nm ?_
 refine aw_block ?_
 refine aw_loop (fun i : {i : Nat // i ≤ rl.length} => ⟨[(1, .ptr 0 0 0), (3, .own 1 0 (H ++ ((rl.take i.1).map rdBytes).flatten).length), (4, .int .i64 i.1)], [(0, .cells 4 [.agg [.int .i64 ses, .int .i64 seq, .sl 4 (rl.map rdA), .sl 3 (wl.map wrA)]]), (1, .cells 1 (bl (H ++ ((rl.take i.1).map rdBytes).flatten)))], 2⟩) (fun i => rl.length - i.1) ⟨0, Nat.zero_le _⟩ ?_ ?_
 ·refine le_to [(0, 0), (1, 3)] rfl rfl rfl rfl rfl ⟨rfl, ?_, rfl, trivial⟩ ⟨rfl, ?_, trivial⟩
  ·rw [← hhead]; simp [tget, AV.ren, swp]; try omega
  ·rw [← hhead]; simp [hget, rest, swp, Blk.ren, AV.ren]; try rfl
 ·rintro ⟨i, hi⟩
  dsimp only
  by_cases hlt : i < rl.length
  ·obtain ⟨x, hx⟩ : ∃ x, rl[i]? = some x := ⟨_, List.getElem?_eq_getElem hlt⟩
   have hxb : (rl.map rdA)[((i : Nat) : Int).toNat]? = some (.agg [sb x.key, .int .i64 x.ver, sb x.val, .bool x.there]) := by rw [Int.toNat_natCast, List.getElem?_map, hx]; rfl
   have hxm : x ∈ rl := List.mem_of_getElem? hx
   have hk := hkr x hxm
   have hvx := hvr x hxm
   have hvm := hv x hxm
   have hcl : (((rl.take i).map rdBytes).flatten).length ≤ 60 * i := by
    have := flat_le (ll := (rl.take i).map rdBytes) (m := 60) (fun l hl => by
     obtain ⟨r, hr, rfl⟩ := List.mem_map.1 hl
     have hr := List.mem_of_mem_take hr
     exact rdBytes_le r (hkr r hr) (hvr r hr).2 (hv r hr))
    rw [List.length_map, List.length_take, Nat.min_eq_left (by omega)] at this
    exact this
   have q1 := ref_PutText x.key (by omega)
   have q2 := ref_PutNum x.ver hvx.1 hvm
   have q3 := ref_PutText x.val (by omega)
   have k1 := putText_le x.key (by omega)
   have k2 := putNum_le x.ver.toNat (by omega)
   have k3 := putText_le x.val (by omega)
   have hnext : H ++ ((rl.take (i + 1)).map rdBytes).flatten = H ++ ((rl.take i).map rdBytes).flatten ++ putText x.key ++ putNum x.ver.toNat ++ putText x.val ++ [flagN x.there] := by
    rw [List.take_add_one, hx]
    simp [rdBytes]
   generalize hC : H ++ ((rl.take i).map rdBytes).flatten = C at hnext ⊢
   have hCl : C.length ≤ 27 + 60 * i := by rw [← hC, List.length_append]; omega
   have hfl := ref_flag x.there
   refine aw_seq ?_
   refine aw_seq ?_
   refine aw_region ?_
   refine st_p (mv rfl) rfl ?_
   refine st_p (op_fieldAddr Try.underlying26 rfl z23 (by decide) rfl) rfl ?_
   refine st_p (op_load1 Try.underlying23 rfl rfl rfl rfl rfl) rfl ?_
   refine st_p (op_len Try.underlying23 rfl) rfl ?_
   refine st_p (OpP.conv (op_lt rfl rfl) (yes (by first | assumption | omega))) rfl ?_
   refine al_nil ?_
   refine nm ?_
   refine aw_yes (rfl) ?_
   refine aw_skip ?_
   refine nm ?_
   refine aw_seq ?_
   refine aw_block ?_
   refine aw_seq ?_
   refine aw_region ?_
   refine st_p (op_fieldAddr Try.underlying26 rfl z23 (by decide) rfl) rfl ?_
   refine st_p (op_load1 Try.underlying23 rfl rfl rfl rfl rfl) rfl ?_
   refine st_p (mv rfl) rfl ?_
   refine st_p (op_indexAddrL Try.underlying23 z67 rfl rfl (by omega) (by first | assumption | rfl)) rfl ?_
   refine st_p (op_loadAL Try.underlying67 rfl z67 rfl rfl) rfl ?_
   refine st_o (op_alloc a67 rfl rfl) rfl ?_
   refine st_n (stA z67 rfl rfl rfl rfl rfl rfl rfl rfl rfl rfl) ?_
   refine al_nil ?_
   refine nm ?_
   refine aw_seq ?_
   refine dr_go ?_
   refine dr_f 0 0 [3] rfl (fun H => mv rfl) ?_
   refine dr_f 0 0 [5] rfl (fun H => op_fieldAddr Try.underlying67 rfl z9 (by decide) rfl) ?_
   refine dr_q 0 0 [36] rfl (op_load1 Try.underlying9 rfl rfl rfl rfl rfl) ?_
   refine dr_fq 0 0 [37] rfl (fun H => op_callq (q1) Try.func53 ⟨rfl, rfl⟩ rfl rfl (fun nx => (.cons (.same (by rfl)) .nil)) (by rintro _ _ _ ⟨rfl, rfl, rfl⟩; exact .whole rfl (by simp) (by first | rfl | simp [AV.plain, plains, bl_plain]))) ?_
   refine dr_e 0 [35, 38] rfl (op_app Try.underlying22 Try.underlying22 (.inl ⟨_, rfl⟩) i5 o5 rfl rfl rfl (by first | rfl | omega | (simp; done) | (simp; omega)) ((SrcA.sl (.inr trivial)).ok rfl (by first | assumption | intro z hz; simp only [List.mem_singleton, List.drop_zero, List.take_succ_cons, List.take_zero, List.mem_cons, List.not_mem_nil, or_false, List.mem_map] at hz; first | (subst hz; rfl) | (obtain ⟨_, _, rfl⟩ := hz; rfl) | (rcases hz with rfl | rfl <;> rfl))) (by first | omega | (simp; try omega)) rfl) ?_
   refine dr_f 0 1 [5] rfl (fun H => op_fieldAddr Try.underlying67 rfl z3 (by decide) rfl) ?_
   refine dr_q 0 1 [40] rfl (op_load1 Try.underlying3 rfl rfl rfl rfl rfl) ?_
   refine dr_fq 1 1 [41] rfl (fun H => op_callq (q2) Try.func52 ⟨rfl, rfl⟩ rfl rfl (fun nx => (.cons (.same (by rfl)) .nil)) (by rintro _ _ _ ⟨rfl, rfl, rfl⟩; exact .whole rfl (by simp) (by first | rfl | simp [AV.plain, plains, bl_plain]))) ?_
   refine dr_e 1 [39, 42] rfl (op_app Try.underlying22 Try.underlying22 (.inl ⟨_, rfl⟩) i5 o5 rfl rfl rfl (by first | rfl | omega | (simp; done) | (simp; omega)) ((SrcA.sl (.inr trivial)).ok rfl (by first | assumption | intro z hz; simp only [List.mem_singleton, List.drop_zero, List.take_succ_cons, List.take_zero, List.mem_cons, List.not_mem_nil, or_false, List.mem_map] at hz; first | (subst hz; rfl) | (obtain ⟨_, _, rfl⟩ := hz; rfl) | (rcases hz with rfl | rfl <;> rfl))) (by first | omega | (simp; try omega)) rfl) ?_
   refine dr_f 2 2 [43] rfl (fun H => mva rfl) ?_
   refine dr_end [(6, 0)] (by kernel_rfl) (by kernel_rfl) (by kernel_rfl) (by kernel_rfl) ⟨(by first | exact ⟨_, rfl, OpP.q (op_load1L Try.underlying3 rfl rfl rfl)⟩ | exact ⟨_, rfl, OpP.q (op_load1 Try.underlying3 rfl rfl rfl rfl rfl)⟩ | exact ⟨_, rfl, OpP.q (op_load1 Try.underlying3 rfl rfl rfl (by assumption) rfl)⟩ | exact ⟨_, rfl, OpP.q (op_load1 Try.underlying3 rfl rfl rfl rfl (by assumption))⟩), trivial⟩ ?_
   refine nm ?_
   refine dr_go ?_
   refine dr_f 0 0 [3] rfl (fun H => mv rfl) ?_
   refine dr_f 0 0 [5] rfl (fun H => op_fieldAddr Try.underlying67 rfl z9 (by decide) rfl) ?_
   refine dr_q 0 0 [45] rfl (op_load1 Try.underlying9 rfl rfl rfl rfl rfl) ?_
   refine dr_fq 0 0 [46] rfl (fun H => op_callq (q3) Try.func53 ⟨rfl, rfl⟩ rfl rfl (fun nx => (.cons (.same (by rfl)) .nil)) (by rintro _ _ _ ⟨rfl, rfl, rfl⟩; exact .whole rfl (by simp) (by first | rfl | simp [AV.plain, plains, bl_plain]))) ?_
   refine dr_e 0 [44, 47] rfl (op_app Try.underlying22 Try.underlying22 (.inl ⟨_, rfl⟩) i5 o5 rfl rfl rfl (by first | rfl | omega | (simp; done) | (simp; omega)) ((SrcA.sl (.inr trivial)).ok rfl (by first | assumption | intro z hz; simp only [List.mem_singleton, List.drop_zero, List.take_succ_cons, List.take_zero, List.mem_cons, List.not_mem_nil, or_false, List.mem_map] at hz; first | (subst hz; rfl) | (obtain ⟨_, _, rfl⟩ := hz; rfl) | (rcases hz with rfl | rfl <;> rfl))) (by first | omega | (simp; try omega)) rfl) ?_
   refine dr_f 0 1 [5] rfl (fun H => op_fieldAddr Try.underlying67 rfl z4 (by decide) rfl) ?_
   refine dr_q 0 1 [49] rfl (op_load1 Try.underlying4 rfl rfl rfl rfl rfl) ?_
   refine dr_fq 1 1 [50] rfl (fun H => op_callq (hfl) Try.func54 ⟨rfl, rfl⟩ rfl rfl (fun nx => (.cons (.same (by rfl)) .nil)) (by rintro _ _ _ ⟨rfl, rfl, rfl⟩; exact .same rfl)) ?_
   refine dr_fq 1 1 [51] rfl (fun H => op_bslF Try.underlying22 i5 o5 (by decide) rfl rfl rfl (by first | rfl | simp [AV.plain, plains, bl_plain]) (by decide)) ?_
   refine dr_e 1 [48, 52] rfl (op_app Try.underlying22 Try.underlying22 (.inl ⟨_, rfl⟩) i5 o5 rfl rfl rfl (by first | rfl | omega | (simp; done) | (simp; omega)) ((SrcA.sl (.inr trivial)).ok rfl (by first | assumption | intro z hz; simp only [List.mem_singleton, List.drop_zero, List.take_succ_cons, List.take_zero, List.mem_cons, List.not_mem_nil, or_false, List.mem_map] at hz; first | (subst hz; rfl) | (obtain ⟨_, _, rfl⟩ := hz; rfl) | (rcases hz with rfl | rfl <;> rfl))) (by first | omega | (simp; try omega)) rfl) ?_
   refine dr_f 2 2 [53] rfl (fun H => mva rfl) ?_
   refine dr_end [(6, 0)] (by kernel_rfl) (by kernel_rfl) (by kernel_rfl) (by kernel_rfl) ⟨(by first | exact ⟨_, rfl, OpP.q (op_load1L Try.underlying4 rfl rfl rfl)⟩ | exact ⟨_, rfl, OpP.q (op_load1 Try.underlying4 rfl rfl rfl rfl rfl)⟩ | exact ⟨_, rfl, OpP.q (op_load1 Try.underlying4 rfl rfl rfl (by assumption) rfl)⟩ | exact ⟨_, rfl, OpP.q (op_load1 Try.underlying4 rfl rfl rfl rfl (by assumption))⟩), trivial⟩ ?_
   refine nmb ?_
   refine nm ?_
   refine aw_region ?_
   refine st_p (mv rfl) rfl ?_
   refine st_p (op_addi rfl rfl (by omega)) rfl ?_
   refine st_p (mva rfl) rfl ?_
   refine al_nil ?_
   refine nm ?_
   refine ⟨⟨i + 1, hlt⟩, by dsimp only; omega, ?_⟩
   refine le_to [(0, 0), (1, 6)] rfl rfl rfl rfl rfl ⟨rfl, ?_, rfl, trivial⟩ ⟨rfl, ?_, trivial⟩
   ·rw [hnext]; simp [tget, AV.ren, swp]; try omega
   ·rw [hnext]; simp [hget, rest, swp, Blk.ren, AV.ren]; try rfl
  ·have e : rl.take i = rl := List.take_of_length_le (by omega)
   rw [e]
   have hcl : ((rl.map rdBytes).flatten).length ≤ 360 := by
    have := flat_le (ll := rl.map rdBytes) (m := 60) (fun l hl => by
     obtain ⟨r, hr, rfl⟩ := List.mem_map.1 hl
     exact rdBytes_le r (hkr r hr) (hvr r hr).2 (hv r hr))
    rw [List.length_map] at this
    omega
   have p4 := ref_PutNum ((wl.map wrA).length : Int) (by omega) (by omega)
   have l4 := putNum_le (wl.map wrA).length (by omega)
   rw [Int.toNat_natCast] at p4
   have l5 := putNum_le wl.length (by omega)
   have hM : H ++ (rl.map rdBytes).flatten ++ putNum wl.length = txMid ⟨ses, seq, rl, wl⟩ := by rw [← hH]; rfl
   generalize hB : H ++ (rl.map rdBytes).flatten = B at hM ⊢
   have hBl : B.length ≤ 400 := by rw [← hB, List.length_append]; omega
   refine aw_seq ?_
   refine aw_seq ?_
   refine aw_region ?_
   refine st_p (mv rfl) rfl ?_
   refine st_p (op_fieldAddr Try.underlying26 rfl z23 (by decide) rfl) rfl ?_
   refine st_p (op_load1 Try.underlying23 rfl rfl rfl rfl rfl) rfl ?_
   refine st_p (op_len Try.underlying23 rfl) rfl ?_
   refine st_p (OpP.conv (op_lt rfl rfl) (no (by first | assumption | omega))) rfl ?_
   refine al_nil ?_
   refine nm ?_
   refine aw_no (rfl) ?_
   refine aw_exit ?_
   refine xs ?_
   refine xs ?_
   refine xb ?_
   refine nm ?_
   refine aw_seq ?_
   refine aw_region ?_
   refine st_p (mv rfl) rfl ?_
   refine st_p (op_fieldAddr Try.underlying26 rfl z24 (by decide) rfl) rfl ?_
   refine st_p (op_load1 Try.underlying24 rfl rfl rfl rfl rfl) rfl ?_
   refine st_p (op_len Try.underlying24 rfl) rfl ?_
   refine st_o ((op_callq (p4) Try.func52 ⟨rfl, rfl⟩ rfl rfl (fun nx => (.cons (.same (by rfl)) .nil)) (by rintro _ _ _ ⟨rfl, rfl, rfl⟩; exact .whole rfl (by simp) (by first | rfl | simp [AV.plain, plains, bl_plain]))).ok) rfl ?_
   refine st_o (op_app Try.underlying22 Try.underlying22 (.inl ⟨_, rfl⟩) i5 o5 rfl rfl rfl (by first | rfl | omega | (simp; done) | (simp; omega)) ((SrcA.sl (.inr trivial)).ok rfl (by first | assumption | intro z hz; simp only [List.mem_singleton, List.drop_zero, List.take_succ_cons, List.take_zero, List.mem_cons, List.not_mem_nil, or_false, List.mem_map] at hz; first | (subst hz; rfl) | (obtain ⟨_, _, rfl⟩ := hz; rfl) | (rcases hz with rfl | rfl <;> rfl))) (by first | omega | (simp; try omega)) rfl) rfl ?_
   refine st_p (mva rfl) rfl ?_
   refine al_nil ?_
   refine nm ?_
   refine aw_seq ?_
   refine aw_seq ?_
   refine aw_region ?_
   refine st_p (mva rfl) rfl ?_
   refine al_nil ?_
   refine nm ?_
   refine aw_block ?_
   refine aw_loop (fun j : {j : Nat // j ≤ wl.length} => ⟨[(1, .ptr 0 0 0), (3, .own 1 0 (txMid ⟨ses, seq, rl, wl⟩ ++ ((wl.take j.1).map wrBytes).flatten).length), (6, .int .i64 j.1)], [(0, .cells 4 [.agg [.int .i64 ses, .int .i64 seq, .sl 4 (rl.map rdA), .sl 3 (wl.map wrA)]]), (1, .cells 1 (bl (txMid ⟨ses, seq, rl, wl⟩ ++ ((wl.take j.1).map wrBytes).flatten)))], 2⟩) (fun j => wl.length - j.1) ⟨0, Nat.zero_le _⟩ ?_ ?_
   ·refine le_to [(0, 0), (1, 2)] rfl rfl rfl rfl rfl ⟨rfl, ?_, rfl, trivial⟩ ⟨rfl, ?_, trivial⟩
    ·rw [← hM]; simp [tget, AV.ren, swp]
    ·rw [← hM]; simp [hget, rest, swp, Blk.ren, AV.ren]; rfl
   ·have hMl : (txMid ⟨ses, seq, rl, wl⟩).length ≤ 409 := by rw [← hM, List.length_append]; omega
    clear hM p4 l4
    have hput : putTx ⟨ses, seq, rl, wl⟩ = txMid ⟨ses, seq, rl, wl⟩ ++ (wl.map wrBytes).flatten := rfl
    rw [hput]
    clear hput
    generalize txMid ⟨ses, seq, rl, wl⟩ = M at hMl
    rintro ⟨j, hj⟩
    dsimp only
    by_cases hjt : j < wl.length
    ·obtain ⟨x, hx⟩ : ∃ x, wl[j]? = some x := ⟨_, List.getElem?_eq_getElem hjt⟩
     have hxb : (wl.map wrA)[((j : Nat) : Int).toNat]? = some (.agg [sb x.key, sb x.val, .bool x.gone]) := by rw [Int.toNat_natCast, List.getElem?_map, hx]; rfl
     have hxm : x ∈ wl := List.mem_of_getElem? hx
     have hk := hkw x hxm
     have hvx := hvw x hxm
     have hcl : (((wl.take j).map wrBytes).flatten).length ≤ 60 * j := by
      have := flat_le (ll := (wl.take j).map wrBytes) (m := 60) (fun l hl => by
       obtain ⟨r, hr, rfl⟩ := List.mem_map.1 hl
       have hr := List.mem_of_mem_take hr
       exact wrBytes_le r (hkw r hr) (hvw r hr))
      rw [List.length_map, List.length_take, Nat.min_eq_left (by omega)] at this
      exact this
     have q1 := ref_PutText x.key (by omega)
     have q3 := ref_PutText x.val (by omega)
     have k1 := putText_le x.key (by omega)
     have k3 := putText_le x.val (by omega)
     have hnext : M ++ ((wl.take (j + 1)).map wrBytes).flatten = M ++ ((wl.take j).map wrBytes).flatten ++ putText x.key ++ putText x.val ++ [flagN x.gone] := by
      rw [List.take_add_one, hx]
      simp [wrBytes]
     generalize hC : M ++ ((wl.take j).map wrBytes).flatten = C at hnext ⊢
     have hCl : C.length ≤ 409 + 60 * j := by rw [← hC, List.length_append]; omega
     have hfl := ref_flag x.gone
     refine aw_seq ?_
     refine aw_seq ?_
     refine aw_region ?_
     refine st_p (mv rfl) rfl ?_
     refine st_p (op_fieldAddr Try.underlying26 rfl z24 (by decide) rfl) rfl ?_
     refine st_p (op_load1 Try.underlying24 rfl rfl rfl rfl rfl) rfl ?_
     refine st_p (op_len Try.underlying24 rfl) rfl ?_
     refine st_p (OpP.conv (op_lt rfl rfl) (yes (by first | assumption | omega))) rfl ?_
     refine al_nil ?_
     refine nm ?_
     refine aw_yes (rfl) ?_
     refine aw_skip ?_
     refine nm ?_
     refine aw_seq ?_
     refine aw_block ?_
     refine aw_seq ?_
     refine aw_region ?_
     refine st_p (op_fieldAddr Try.underlying26 rfl z24 (by decide) rfl) rfl ?_
     refine st_p (op_load1 Try.underlying24 rfl rfl rfl rfl rfl) rfl ?_
     refine st_p (mv rfl) rfl ?_
     refine st_p (op_indexAddrL Try.underlying24 z65 rfl rfl (by omega) (by first | assumption | rfl)) rfl ?_
     refine st_p (op_loadAL Try.underlying65 rfl z65 rfl rfl) rfl ?_
     refine st_o (op_alloc a65 rfl rfl) rfl ?_
     refine st_n (stA z65 rfl rfl rfl rfl rfl rfl rfl rfl rfl rfl) ?_
     refine al_nil ?_
     refine nm ?_
     refine dr_go ?_
     refine dr_f 0 0 [3] rfl (fun H => mv rfl) ?_
     refine dr_f 0 0 [7] rfl (fun H => op_fieldAddr Try.underlying65 rfl z9 (by decide) rfl) ?_
     refine dr_q 0 0 [73] rfl (op_load1 Try.underlying9 rfl rfl rfl rfl rfl) ?_
     refine dr_fq 0 0 [74] rfl (fun H => op_callq (q1) Try.func53 ⟨rfl, rfl⟩ rfl rfl (fun nx => (.cons (.same (by rfl)) .nil)) (by rintro _ _ _ ⟨rfl, rfl, rfl⟩; exact .whole rfl (by simp) (by first | rfl | simp [AV.plain, plains, bl_plain]))) ?_
     refine dr_e 0 [72, 75] rfl (op_app Try.underlying22 Try.underlying22 (.inl ⟨_, rfl⟩) i5 o5 rfl rfl rfl (by first | rfl | omega | (simp; done) | (simp; omega)) ((SrcA.sl (.inr trivial)).ok rfl (by first | assumption | intro z hz; simp only [List.mem_singleton, List.drop_zero, List.take_succ_cons, List.take_zero, List.mem_cons, List.not_mem_nil, or_false, List.mem_map] at hz; first | (subst hz; rfl) | (obtain ⟨_, _, rfl⟩ := hz; rfl) | (rcases hz with rfl | rfl <;> rfl))) (by first | omega | (simp; try omega)) rfl) ?_
     refine dr_f 0 1 [7] rfl (fun H => op_fieldAddr Try.underlying65 rfl z9 (by decide) rfl) ?_
     refine dr_q 0 1 [77] rfl (op_load1 Try.underlying9 rfl rfl rfl rfl rfl) ?_
     refine dr_fq 1 1 [78] rfl (fun H => op_callq (q3) Try.func53 ⟨rfl, rfl⟩ rfl rfl (fun nx => (.cons (.same (by rfl)) .nil)) (by rintro _ _ _ ⟨rfl, rfl, rfl⟩; exact .whole rfl (by simp) (by first | rfl | simp [AV.plain, plains, bl_plain]))) ?_
     refine dr_e 1 [76, 79] rfl (op_app Try.underlying22 Try.underlying22 (.inl ⟨_, rfl⟩) i5 o5 rfl rfl rfl (by first | rfl | omega | (simp; done) | (simp; omega)) ((SrcA.sl (.inr trivial)).ok rfl (by first | assumption | intro z hz; simp only [List.mem_singleton, List.drop_zero, List.take_succ_cons, List.take_zero, List.mem_cons, List.not_mem_nil, or_false, List.mem_map] at hz; first | (subst hz; rfl) | (obtain ⟨_, _, rfl⟩ := hz; rfl) | (rcases hz with rfl | rfl <;> rfl))) (by first | omega | (simp; try omega)) rfl) ?_
     refine dr_f 0 2 [7] rfl (fun H => op_fieldAddr Try.underlying65 rfl z4 (by decide) rfl) ?_
     refine dr_q 0 2 [81] rfl (op_load1 Try.underlying4 rfl rfl rfl rfl rfl) ?_
     refine dr_fq 2 2 [82] rfl (fun H => op_callq (hfl) Try.func54 ⟨rfl, rfl⟩ rfl rfl (fun nx => (.cons (.same (by rfl)) .nil)) (by rintro _ _ _ ⟨rfl, rfl, rfl⟩; exact .same rfl)) ?_
     refine dr_fq 2 2 [83] rfl (fun H => op_bslF Try.underlying22 i5 o5 (by decide) rfl rfl rfl (by first | rfl | simp [AV.plain, plains, bl_plain]) (by decide)) ?_
     refine dr_e 2 [80, 84] rfl (op_app Try.underlying22 Try.underlying22 (.inl ⟨_, rfl⟩) i5 o5 rfl rfl rfl (by first | rfl | omega | (simp; done) | (simp; omega)) ((SrcA.sl (.inr trivial)).ok rfl (by first | assumption | intro z hz; simp only [List.mem_singleton, List.drop_zero, List.take_succ_cons, List.take_zero, List.mem_cons, List.not_mem_nil, or_false, List.mem_map] at hz; first | (subst hz; rfl) | (obtain ⟨_, _, rfl⟩ := hz; rfl) | (rcases hz with rfl | rfl <;> rfl))) (by first | omega | (simp; try omega)) rfl) ?_
     refine dr_f 3 3 [85] rfl (fun H => mva rfl) ?_
     refine dr_end [(6, 0), (10, 0), (10, 1)] (by kernel_rfl) (by kernel_rfl) (by kernel_rfl) (by kernel_rfl) ⟨(by first | exact ⟨_, rfl, OpP.q (op_load1L Try.underlying9 rfl rfl rfl)⟩ | exact ⟨_, rfl, OpP.q (op_load1 Try.underlying9 rfl rfl rfl rfl rfl)⟩ | exact ⟨_, rfl, OpP.q (op_load1 Try.underlying9 rfl rfl rfl (by assumption) rfl)⟩ | exact ⟨_, rfl, OpP.q (op_load1 Try.underlying9 rfl rfl rfl rfl (by assumption))⟩), (by first | exact ⟨_, rfl, OpP.q (op_load1L Try.underlying4 rfl rfl rfl)⟩ | exact ⟨_, rfl, OpP.q (op_load1 Try.underlying4 rfl rfl rfl rfl rfl)⟩ | exact ⟨_, rfl, OpP.q (op_load1 Try.underlying4 rfl rfl rfl (by assumption) rfl)⟩ | exact ⟨_, rfl, OpP.q (op_load1 Try.underlying4 rfl rfl rfl rfl (by assumption))⟩), (by first | exact ⟨_, rfl, OpP.q (op_load1L Try.underlying4 rfl rfl rfl)⟩ | exact ⟨_, rfl, OpP.q (op_load1 Try.underlying4 rfl rfl rfl rfl rfl)⟩ | exact ⟨_, rfl, OpP.q (op_load1 Try.underlying4 rfl rfl rfl (by assumption) rfl)⟩ | exact ⟨_, rfl, OpP.q (op_load1 Try.underlying4 rfl rfl rfl rfl (by assumption))⟩), trivial⟩ ?_
     refine nmb ?_
     refine nm ?_
     refine aw_region ?_
     refine st_p (mv rfl) rfl ?_
     refine st_p (op_addi rfl rfl (by omega)) rfl ?_
     refine st_p (mva rfl) rfl ?_
     refine al_nil ?_
     refine nm ?_
     refine ⟨⟨j + 1, hjt⟩, by dsimp only; omega, ?_⟩
     refine le_to [(0, 0), (1, 5)] rfl rfl rfl rfl rfl ⟨rfl, ?_, rfl, trivial⟩ ⟨rfl, ?_, trivial⟩
     ·rw [hnext]; simp [tget, AV.ren, swp]; try omega
     ·rw [hnext]; simp [hget, rest, swp, Blk.ren, AV.ren]; try rfl
    ·have e : wl.take j = wl := List.take_of_length_le (by omega)
     rw [e]
     refine aw_seq ?_
     refine aw_seq ?_
     refine aw_region ?_
     refine st_p (mv rfl) rfl ?_
     refine st_p (op_fieldAddr Try.underlying26 rfl z24 (by decide) rfl) rfl ?_
     refine st_p (op_load1 Try.underlying24 rfl rfl rfl rfl rfl) rfl ?_
     refine st_p (op_len Try.underlying24 rfl) rfl ?_
     refine st_p (OpP.conv (op_lt rfl rfl) (no (by first | assumption | omega))) rfl ?_
     refine al_nil ?_
     refine nm ?_
     refine aw_no (rfl) ?_
     refine aw_exit ?_
     refine xs ?_
     refine xs ?_
     refine xb ?_
     refine nm ?_
     refine aw_seq ?_
     refine aw_region ?_
     refine st_p (mv rfl) rfl ?_
     refine st_p (mva rfl) rfl ?_
     refine al_nil ?_
     refine nm ?_
     refine aw_ret ?_
     exact ret_a ⟨[(2, .own 0 0 (M ++ (wl.map wrBytes).flatten).length)], [(0, .cells 1 (bl (M ++ (wl.map wrBytes).flatten)))], 1⟩ (le_to [(0, 1)] rfl rfl rfl rfl rfl ⟨rfl, trivial⟩ ⟨by simp only [Blk.ren, ren_bl]; rfl, trivial⟩) (res1 Try.results13) (.inr ⟨rfl, by simp [Blk.nosl, AV.nosl, bl]⟩) ⟨rfl, rfl, rfl⟩

end Go.Proofs.Ytpggknkhldecaaa.Abs
end
section
namespace Go.Proofs.Ytpggknkhldecaaa.Abs

set_option maxHeartbeats 8000000 in
theorem ref_MayTxn (t : TX) (hr : t.reads.length ≤ 1000000) (hw : t.writes.length ≤ 1000000) (hkr : ∀ r ∈ t.reads, r.key.length ≤ 281474976710656) (hkw : ∀ w ∈ t.writes, w.key.length ≤ 281474976710656) :
  AC Try.prog 11 [txA t] [] 0 false (fun v h nx => v = .bool (mayTxB t) ∧ h = [] ∧ nx = 0) := by
 obtain ⟨ses, seq, rl, wl⟩ := t
 dsimp only at hr hw hkr hkw
 dsimp only [txA]
 have hrl : (rl.map rdA).length = rl.length := List.length_map _
 have hwl : (wl.map wrA).length = wl.length := List.length_map _
 have h6 := ref_Rising (rl.map RD.key) (by rw [List.length_map]; omega) (fun k hk => by obtain ⟨r, hr, rfl⟩ := List.mem_map.1 hk; exact hkr r hr)
 have h7 := ref_Rising (wl.map WR.key) (by rw [List.length_map]; omega) (fun k hk => by obtain ⟨w, hw, rfl⟩ := List.mem_map.1 hk; exact hkw w hw)
 refine ac_fn Try.func11 rfl rfl rfl rfl (fun w0 S0 r0 => ?_)
 refine aw_seq ?_
 refine aw_region ?_
 refine st_o (bx rfl rfl) rfl ?_
 refine st_p (mva rfl) rfl ?_
 refine al_nil ?_
 refine nm ?_
 refine aw_seq ?_
 refine aw_region ?_
 refine st_p (mva rfl) rfl ?_
 refine st_p (mva rfl) rfl ?_
 refine al_nil ?_
 refine nm ?_
 refine aw_seq ?_
 refine aw_seq ?_
 refine aw_region ?_
 refine st_p (mva rfl) rfl ?_
 refine al_nil ?_
 refine nm ?_
 refine aw_block ?_
 refine aw_virt 3 1 rfl ?_
 refine aw_virt 4 1 rfl ?_
 refine aw_loop (fun i : {i : Nat // i ≤ rl.length ∧ (rl.take i).all readB = true} => ⟨[(1, .ptr 0 0 0), (3, .own 1 0 i.1), (4, .own 2 0 0), (5, .int .i64 i.1)], [(0, .cells 4 [.agg [.int .i64 ses, .int .i64 seq, .sl 4 (rl.map rdA), .sl 3 (wl.map wrA)]]), (1, .cells 1 ((rl.take i.1).map fun r => sb r.key)), (2, .cells 1 [])], 3⟩) (fun i => rl.length - i.1) ⟨0, Nat.zero_le _, rfl⟩ ?_ ?_
 ·exact le_to [(0, 0), (1, 1), (2, 2)] rfl rfl rfl rfl rfl ⟨rfl, rfl, rfl, rfl, trivial⟩ ⟨rfl, rfl, rfl, trivial⟩
 ·rintro ⟨i, hi, hall⟩
  dsimp only
  by_cases hlt : i < rl.length
  ·obtain ⟨x, hx⟩ : ∃ x, rl[i]? = some x := ⟨_, List.getElem?_eq_getElem hlt⟩
   have hxb : (rl.map rdA)[((i : Nat) : Int).toNat]? = some (.agg [sb x.key, .int .i64 x.ver, sb x.val, .bool x.there]) := by rw [Int.toNat_natCast, List.getElem?_map, hx]; rfl
   have hxm : x ∈ rl := List.mem_of_getElem? hx
   have htl : ((rl.take i).map fun r => sb r.key).length = i := by simp; omega
   have hstep : (rl.take (i + 1)).all readB = ((rl.take i).all readB && readB x) := all_take hx
   have hbad : readB x = false → mayTxB ⟨ses, seq, rl, wl⟩ = false := fun hb => by
    have : rl.all readB = false := by rw [List.all_eq_false]; exact ⟨x, hxm, by rw [hb]; decide⟩
    simp [mayTxB, this]
   obtain ⟨key, ver, val, there⟩ := x
   dsimp only at hxb
   by_cases d1 : 0 ≤ ver
   ·by_cases d2 : val.length ≤ 16
    ·cases there with
     | false =>
      by_cases d3 : val = []
      ·subst d3
       refine aw_seq ?_
       refine aw_seq ?_
       refine aw_region ?_
       refine st_p (mv rfl) rfl ?_
       refine st_p (op_fieldAddr Try.underlying26 rfl z23 (by decide) rfl) rfl ?_
       refine st_p (op_load1 Try.underlying23 rfl rfl rfl rfl rfl) rfl ?_
       refine st_p (op_len Try.underlying23 rfl) rfl ?_
       refine st_p (OpP.conv (op_lt rfl rfl) (yes (by first | assumption | omega))) rfl ?_
       refine al_nil ?_
       refine nm ?_
       refine aw_yes (rfl) ?_
       refine aw_skip ?_
       refine nm ?_
       refine aw_seq ?_
       refine aw_block ?_
       refine aw_seq ?_
       refine aw_region ?_
       refine st_p (op_fieldAddr Try.underlying26 rfl z23 (by decide) rfl) rfl ?_
       refine st_p (op_load1 Try.underlying23 rfl rfl rfl rfl rfl) rfl ?_
       refine st_p (mv rfl) rfl ?_
       refine st_p (op_indexAddrL Try.underlying23 z67 rfl rfl (by omega) (by first | assumption | rfl)) rfl ?_
       refine st_p (op_loadAL Try.underlying67 rfl z67 rfl rfl) rfl ?_
       refine st_o (op_alloc a67 rfl rfl) rfl ?_
       refine st_n (stA z67 rfl rfl rfl rfl rfl rfl rfl rfl rfl rfl) ?_
       refine al_nil ?_
       refine nm ?_
       refine aw_seq ?_
       refine aw_region ?_
       refine st_p (mv rfl) rfl ?_
       refine st_p (op_fieldAddr Try.underlying67 rfl z9 (by decide) rfl) rfl ?_
       refine st_p (op_load1 Try.underlying9 rfl rfl rfl rfl rfl) rfl ?_
       refine st_o (bsl Try.underlying71 i9 o9 (by decide) rfl rfl rfl (by decide)) rfl ?_
       refine st_o (op_app Try.underlying71 Try.underlying71 (.inl ⟨_, rfl⟩) i9 o9 rfl rfl rfl (by first | rfl | omega | (simp; done) | (simp; omega)) ((SrcA.whole rfl (by first | rfl | (simp; done))).ok rfl (by first | assumption | intro z hz; simp only [List.mem_singleton, List.drop_zero, List.take_succ_cons, List.take_zero, List.mem_cons, List.not_mem_nil, or_false, List.mem_map] at hz; first | (subst hz; rfl) | (obtain ⟨_, _, rfl⟩ := hz; rfl) | (rcases hz with rfl | rfl <;> rfl))) (by first | omega | (simp; try omega)) rfl) rfl ?_
       refine st_p (mva rfl) rfl ?_
       refine al_nil ?_
       refine nm ?_
       refine aw_seq ?_
       refine aw_region ?_
       refine st_p (op_fieldAddr Try.underlying67 rfl z3 (by decide) rfl) rfl ?_
       refine st_p (op_load1 Try.underlying3 rfl rfl rfl rfl rfl) rfl ?_
       refine st_p (OpP.conv (op_lt rfl rfl) (no (by first | assumption | omega))) rfl ?_
       refine st_p (mv rfl) rfl ?_
       refine st_pg rfl rfl rfl (op_fieldAddr Try.underlying67 rfl z9 (by decide) rfl) rfl ?_
       refine st_pg rfl rfl rfl (op_load1 Try.underlying9 rfl rfl rfl rfl rfl) rfl ?_
       refine st_pg rfl rfl rfl (op_lens Try.underlying9 rfl) rfl ?_
       refine st_pg rfl rfl rfl (OpP.conv (op_gt rfl rfl) (no (by first | assumption | omega))) rfl ?_
       refine st_p (pkF rfl rfl) rfl ?_
       refine st_p (mv rfl) rfl ?_
       refine st_pg rfl rfl rfl (op_fieldAddr Try.underlying67 rfl z4 (by decide) rfl) rfl ?_
       refine st_pg rfl rfl rfl (op_load1 Try.underlying4 rfl rfl rfl rfl rfl) rfl ?_
       refine st_pg rfl rfl rfl (op_notF rfl) rfl ?_
       refine st_pg rfl rfl rfl (mv rfl) rfl ?_
       refine st_pg rfl rfl rfl (op_fieldAddr Try.underlying67 rfl z9 (by decide) rfl) rfl ?_
       refine st_pg rfl rfl rfl (op_load1 Try.underlying9 rfl rfl rfl rfl rfl) rfl ?_
       refine st_pg rfl rfl rfl (op_nes rfl rfl) rfl ?_
       refine st_pg rfl rfl rfl (pkT rfl rfl) rfl ?_
       refine st_p (pkF rfl rfl) rfl ?_
       refine st_p (mv rfl) rfl ?_
       refine st_pg rfl rfl rfl (op_fieldAddr Try.underlying67 rfl z4 (by decide) rfl) rfl ?_
       refine st_pg rfl rfl rfl (op_load1 Try.underlying4 rfl rfl rfl rfl rfl) rfl ?_
       refine st_pg rfl rfl rfl (mv rfl) rfl ?_
       refine st_s rfl rfl rfl rfl rfl ?_
       refine st_s rfl rfl rfl rfl rfl ?_
       refine st_s rfl rfl rfl rfl rfl ?_
       refine st_pg rfl rfl rfl (pkF rfl rfl) rfl ?_
       refine st_p (pkF rfl rfl) rfl ?_
       refine al_nil ?_
       refine nm ?_
       refine aw_no (rfl) ?_
       refine aw_skip ?_
       refine nmb ?_
       refine nm ?_
       refine aw_region ?_
       refine st_p (mv rfl) rfl ?_
       refine st_p (op_addi rfl rfl (by omega)) rfl ?_
       refine st_p (mva rfl) rfl ?_
       refine al_nil ?_
       refine nm ?_
       refine ⟨⟨i + 1, hlt, by rw [hstep, hall]; simp [readB, d1]⟩, by dsimp only; omega, le_to [(0, 0), (1, 5), (2, 2)] rfl rfl rfl rfl rfl ⟨rfl, ?_, rfl, rfl, trivial⟩ ⟨rfl, ?_, rfl, trivial⟩⟩
       ·simp [AV.ren, tget, swp]; omega
       ·simp [Blk.ren, hget, swp, AV.ren, List.take_add_one, hx, sb]; rfl
      ·skip
       refine aw_seq ?_
       refine aw_seq ?_
       refine aw_region ?_
       refine st_p (mv rfl) rfl ?_
       refine st_p (op_fieldAddr Try.underlying26 rfl z23 (by decide) rfl) rfl ?_
       refine st_p (op_load1 Try.underlying23 rfl rfl rfl rfl rfl) rfl ?_
       refine st_p (op_len Try.underlying23 rfl) rfl ?_
       refine st_p (OpP.conv (op_lt rfl rfl) (yes (by first | assumption | omega))) rfl ?_
       refine al_nil ?_
       refine nm ?_
       refine aw_yes (rfl) ?_
       refine aw_skip ?_
       refine nm ?_
       refine aw_seq ?_
       refine aw_block ?_
       refine aw_seq ?_
       refine aw_region ?_
       refine st_p (op_fieldAddr Try.underlying26 rfl z23 (by decide) rfl) rfl ?_
       refine st_p (op_load1 Try.underlying23 rfl rfl rfl rfl rfl) rfl ?_
       refine st_p (mv rfl) rfl ?_
       refine st_p (op_indexAddrL Try.underlying23 z67 rfl rfl (by omega) (by first | assumption | rfl)) rfl ?_
       refine st_p (op_loadAL Try.underlying67 rfl z67 rfl rfl) rfl ?_
       refine st_o (op_alloc a67 rfl rfl) rfl ?_
       refine st_n (stA z67 rfl rfl rfl rfl rfl rfl rfl rfl rfl rfl) ?_
       refine al_nil ?_
       refine nm ?_
       refine aw_seq ?_
       refine aw_region ?_
       refine st_p (mv rfl) rfl ?_
       refine st_p (op_fieldAddr Try.underlying67 rfl z9 (by decide) rfl) rfl ?_
       refine st_p (op_load1 Try.underlying9 rfl rfl rfl rfl rfl) rfl ?_
       refine st_o (bsl Try.underlying71 i9 o9 (by decide) rfl rfl rfl (by decide)) rfl ?_
       refine st_o (op_app Try.underlying71 Try.underlying71 (.inl ⟨_, rfl⟩) i9 o9 rfl rfl rfl (by first | rfl | omega | (simp; done) | (simp; omega)) ((SrcA.whole rfl (by first | rfl | (simp; done))).ok rfl (by first | assumption | intro z hz; simp only [List.mem_singleton, List.drop_zero, List.take_succ_cons, List.take_zero, List.mem_cons, List.not_mem_nil, or_false, List.mem_map] at hz; first | (subst hz; rfl) | (obtain ⟨_, _, rfl⟩ := hz; rfl) | (rcases hz with rfl | rfl <;> rfl))) (by first | omega | (simp; try omega)) rfl) rfl ?_
       refine st_p (mva rfl) rfl ?_
       refine al_nil ?_
       refine nm ?_
       refine aw_seq ?_
       refine aw_region ?_
       refine st_p (op_fieldAddr Try.underlying67 rfl z3 (by decide) rfl) rfl ?_
       refine st_p (op_load1 Try.underlying3 rfl rfl rfl rfl rfl) rfl ?_
       refine st_p (OpP.conv (op_lt rfl rfl) (no (by first | assumption | omega))) rfl ?_
       refine st_p (mv rfl) rfl ?_
       refine st_pg rfl rfl rfl (op_fieldAddr Try.underlying67 rfl z9 (by decide) rfl) rfl ?_
       refine st_pg rfl rfl rfl (op_load1 Try.underlying9 rfl rfl rfl rfl rfl) rfl ?_
       refine st_pg rfl rfl rfl (op_lens Try.underlying9 rfl) rfl ?_
       refine st_pg rfl rfl rfl (OpP.conv (op_gt rfl rfl) (no (by first | assumption | omega))) rfl ?_
       refine st_p (pkF rfl rfl) rfl ?_
       refine st_p (mv rfl) rfl ?_
       refine st_pg rfl rfl rfl (op_fieldAddr Try.underlying67 rfl z4 (by decide) rfl) rfl ?_
       refine st_pg rfl rfl rfl (op_load1 Try.underlying4 rfl rfl rfl rfl rfl) rfl ?_
       refine st_pg rfl rfl rfl (op_notF rfl) rfl ?_
       refine st_pg rfl rfl rfl (mv rfl) rfl ?_
       refine st_pg rfl rfl rfl (op_fieldAddr Try.underlying67 rfl z9 (by decide) rfl) rfl ?_
       refine st_pg rfl rfl rfl (op_load1 Try.underlying9 rfl rfl rfl rfl rfl) rfl ?_
       refine st_pg rfl rfl rfl (OpP.conv (op_nes rfl rfl) (yes (by first | assumption | omega))) rfl ?_
       refine st_pg rfl rfl rfl (pkT rfl rfl) rfl ?_
       refine st_p (pkF rfl rfl) rfl ?_
       refine st_p (mv rfl) rfl ?_
       refine st_s rfl rfl rfl rfl rfl ?_
       refine st_s rfl rfl rfl rfl rfl ?_
       refine st_s rfl rfl rfl rfl rfl ?_
       refine st_s rfl rfl rfl rfl rfl ?_
       refine st_s rfl rfl rfl rfl rfl ?_
       refine st_s rfl rfl rfl rfl rfl ?_
       refine st_s rfl rfl rfl rfl rfl ?_
       refine st_p (pkT rfl rfl) rfl ?_
       refine al_nil ?_
       refine nm ?_
       refine aw_yes (rfl) ?_
       refine aw_seq ?_
       refine aw_region ?_
       refine st_p (mva rfl) rfl ?_
       refine al_nil ?_
       refine nm ?_
       refine aw_ret ?_
       refine rb ?_
       refine rs ?_
       refine rs ?_
       refine rb ?_
       refine rs ?_
       exact ret_a ⟨[(2, .bool false)], [], 0⟩ (le_to [] rfl rfl rfl rfl rfl ⟨rfl, trivial⟩ trivial) (res1 Try.results11) (.inr ⟨rfl, rfl⟩) ⟨by rw [hbad (by simp [readB, d1, d2, d3])]; rfl, rfl, rfl⟩
     | true =>
      by_cases d4 : ver = 0
      ·skip
       refine aw_seq ?_
       refine aw_seq ?_
       refine aw_region ?_
       refine st_p (mv rfl) rfl ?_
       refine st_p (op_fieldAddr Try.underlying26 rfl z23 (by decide) rfl) rfl ?_
       refine st_p (op_load1 Try.underlying23 rfl rfl rfl rfl rfl) rfl ?_
       refine st_p (op_len Try.underlying23 rfl) rfl ?_
       refine st_p (OpP.conv (op_lt rfl rfl) (yes (by first | assumption | omega))) rfl ?_
       refine al_nil ?_
       refine nm ?_
       refine aw_yes (rfl) ?_
       refine aw_skip ?_
       refine nm ?_
       refine aw_seq ?_
       refine aw_block ?_
       refine aw_seq ?_
       refine aw_region ?_
       refine st_p (op_fieldAddr Try.underlying26 rfl z23 (by decide) rfl) rfl ?_
       refine st_p (op_load1 Try.underlying23 rfl rfl rfl rfl rfl) rfl ?_
       refine st_p (mv rfl) rfl ?_
       refine st_p (op_indexAddrL Try.underlying23 z67 rfl rfl (by omega) (by first | assumption | rfl)) rfl ?_
       refine st_p (op_loadAL Try.underlying67 rfl z67 rfl rfl) rfl ?_
       refine st_o (op_alloc a67 rfl rfl) rfl ?_
       refine st_n (stA z67 rfl rfl rfl rfl rfl rfl rfl rfl rfl rfl) ?_
       refine al_nil ?_
       refine nm ?_
       refine aw_seq ?_
       refine aw_region ?_
       refine st_p (mv rfl) rfl ?_
       refine st_p (op_fieldAddr Try.underlying67 rfl z9 (by decide) rfl) rfl ?_
       refine st_p (op_load1 Try.underlying9 rfl rfl rfl rfl rfl) rfl ?_
       refine st_o (bsl Try.underlying71 i9 o9 (by decide) rfl rfl rfl (by decide)) rfl ?_
       refine st_o (op_app Try.underlying71 Try.underlying71 (.inl ⟨_, rfl⟩) i9 o9 rfl rfl rfl (by first | rfl | omega | (simp; done) | (simp; omega)) ((SrcA.whole rfl (by first | rfl | (simp; done))).ok rfl (by first | assumption | intro z hz; simp only [List.mem_singleton, List.drop_zero, List.take_succ_cons, List.take_zero, List.mem_cons, List.not_mem_nil, or_false, List.mem_map] at hz; first | (subst hz; rfl) | (obtain ⟨_, _, rfl⟩ := hz; rfl) | (rcases hz with rfl | rfl <;> rfl))) (by first | omega | (simp; try omega)) rfl) rfl ?_
       refine st_p (mva rfl) rfl ?_
       refine al_nil ?_
       refine nm ?_
       refine aw_seq ?_
       refine aw_region ?_
       refine st_p (op_fieldAddr Try.underlying67 rfl z3 (by decide) rfl) rfl ?_
       refine st_p (op_load1 Try.underlying3 rfl rfl rfl rfl rfl) rfl ?_
       refine st_p (OpP.conv (op_lt rfl rfl) (no (by first | assumption | omega))) rfl ?_
       refine st_p (mv rfl) rfl ?_
       refine st_pg rfl rfl rfl (op_fieldAddr Try.underlying67 rfl z9 (by decide) rfl) rfl ?_
       refine st_pg rfl rfl rfl (op_load1 Try.underlying9 rfl rfl rfl rfl rfl) rfl ?_
       refine st_pg rfl rfl rfl (op_lens Try.underlying9 rfl) rfl ?_
       refine st_pg rfl rfl rfl (OpP.conv (op_gt rfl rfl) (no (by first | assumption | omega))) rfl ?_
       refine st_p (pkF rfl rfl) rfl ?_
       refine st_p (mv rfl) rfl ?_
       refine st_pg rfl rfl rfl (op_fieldAddr Try.underlying67 rfl z4 (by decide) rfl) rfl ?_
       refine st_pg rfl rfl rfl (op_load1 Try.underlying4 rfl rfl rfl rfl rfl) rfl ?_
       refine st_pg rfl rfl rfl (op_notT rfl) rfl ?_
       refine st_pg rfl rfl rfl (mv rfl) rfl ?_
       refine st_s rfl rfl rfl rfl rfl ?_
       refine st_s rfl rfl rfl rfl rfl ?_
       refine st_s rfl rfl rfl rfl rfl ?_
       refine st_pg rfl rfl rfl (pkF rfl rfl) rfl ?_
       refine st_p (pkF rfl rfl) rfl ?_
       refine st_p (mv rfl) rfl ?_
       refine st_pg rfl rfl rfl (op_fieldAddr Try.underlying67 rfl z4 (by decide) rfl) rfl ?_
       refine st_pg rfl rfl rfl (op_load1 Try.underlying4 rfl rfl rfl rfl rfl) rfl ?_
       refine st_pg rfl rfl rfl (mv rfl) rfl ?_
       refine st_pg rfl rfl rfl (op_fieldAddr Try.underlying67 rfl z3 (by decide) rfl) rfl ?_
       refine st_pg rfl rfl rfl (op_load1 Try.underlying3 rfl rfl rfl rfl rfl) rfl ?_
       refine st_pg rfl rfl rfl (OpP.conv (op_eq rfl rfl) (yes (by first | assumption | omega))) rfl ?_
       refine st_pg rfl rfl rfl (pkT rfl rfl) rfl ?_
       refine st_p (pkF rfl rfl) rfl ?_
       refine al_nil ?_
       refine nm ?_
       refine aw_yes (rfl) ?_
       refine aw_seq ?_
       refine aw_region ?_
       refine st_p (mva rfl) rfl ?_
       refine al_nil ?_
       refine nm ?_
       refine aw_ret ?_
       refine rb ?_
       refine rs ?_
       refine rs ?_
       refine rb ?_
       refine rs ?_
       exact ret_a ⟨[(2, .bool false)], [], 0⟩ (le_to [] rfl rfl rfl rfl rfl ⟨rfl, trivial⟩ trivial) (res1 Try.results11) (.inr ⟨rfl, rfl⟩) ⟨by rw [hbad (by simp [readB, d1, d2, d4])]; rfl, rfl, rfl⟩
      ·skip
       refine aw_seq ?_
       refine aw_seq ?_
       refine aw_region ?_
       refine st_p (mv rfl) rfl ?_
       refine st_p (op_fieldAddr Try.underlying26 rfl z23 (by decide) rfl) rfl ?_
       refine st_p (op_load1 Try.underlying23 rfl rfl rfl rfl rfl) rfl ?_
       refine st_p (op_len Try.underlying23 rfl) rfl ?_
       refine st_p (OpP.conv (op_lt rfl rfl) (yes (by first | assumption | omega))) rfl ?_
       refine al_nil ?_
       refine nm ?_
       refine aw_yes (rfl) ?_
       refine aw_skip ?_
       refine nm ?_
       refine aw_seq ?_
       refine aw_block ?_
       refine aw_seq ?_
       refine aw_region ?_
       refine st_p (op_fieldAddr Try.underlying26 rfl z23 (by decide) rfl) rfl ?_
       refine st_p (op_load1 Try.underlying23 rfl rfl rfl rfl rfl) rfl ?_
       refine st_p (mv rfl) rfl ?_
       refine st_p (op_indexAddrL Try.underlying23 z67 rfl rfl (by omega) (by first | assumption | rfl)) rfl ?_
       refine st_p (op_loadAL Try.underlying67 rfl z67 rfl rfl) rfl ?_
       refine st_o (op_alloc a67 rfl rfl) rfl ?_
       refine st_n (stA z67 rfl rfl rfl rfl rfl rfl rfl rfl rfl rfl) ?_
       refine al_nil ?_
       refine nm ?_
       refine aw_seq ?_
       refine aw_region ?_
       refine st_p (mv rfl) rfl ?_
       refine st_p (op_fieldAddr Try.underlying67 rfl z9 (by decide) rfl) rfl ?_
       refine st_p (op_load1 Try.underlying9 rfl rfl rfl rfl rfl) rfl ?_
       refine st_o (bsl Try.underlying71 i9 o9 (by decide) rfl rfl rfl (by decide)) rfl ?_
       refine st_o (op_app Try.underlying71 Try.underlying71 (.inl ⟨_, rfl⟩) i9 o9 rfl rfl rfl (by first | rfl | omega | (simp; done) | (simp; omega)) ((SrcA.whole rfl (by first | rfl | (simp; done))).ok rfl (by first | assumption | intro z hz; simp only [List.mem_singleton, List.drop_zero, List.take_succ_cons, List.take_zero, List.mem_cons, List.not_mem_nil, or_false, List.mem_map] at hz; first | (subst hz; rfl) | (obtain ⟨_, _, rfl⟩ := hz; rfl) | (rcases hz with rfl | rfl <;> rfl))) (by first | omega | (simp; try omega)) rfl) rfl ?_
       refine st_p (mva rfl) rfl ?_
       refine al_nil ?_
       refine nm ?_
       refine aw_seq ?_
       refine aw_region ?_
       refine st_p (op_fieldAddr Try.underlying67 rfl z3 (by decide) rfl) rfl ?_
       refine st_p (op_load1 Try.underlying3 rfl rfl rfl rfl rfl) rfl ?_
       refine st_p (OpP.conv (op_lt rfl rfl) (no (by first | assumption | omega))) rfl ?_
       refine st_p (mv rfl) rfl ?_
       refine st_pg rfl rfl rfl (op_fieldAddr Try.underlying67 rfl z9 (by decide) rfl) rfl ?_
       refine st_pg rfl rfl rfl (op_load1 Try.underlying9 rfl rfl rfl rfl rfl) rfl ?_
       refine st_pg rfl rfl rfl (op_lens Try.underlying9 rfl) rfl ?_
       refine st_pg rfl rfl rfl (OpP.conv (op_gt rfl rfl) (no (by first | assumption | omega))) rfl ?_
       refine st_p (pkF rfl rfl) rfl ?_
       refine st_p (mv rfl) rfl ?_
       refine st_pg rfl rfl rfl (op_fieldAddr Try.underlying67 rfl z4 (by decide) rfl) rfl ?_
       refine st_pg rfl rfl rfl (op_load1 Try.underlying4 rfl rfl rfl rfl rfl) rfl ?_
       refine st_pg rfl rfl rfl (op_notT rfl) rfl ?_
       refine st_pg rfl rfl rfl (mv rfl) rfl ?_
       refine st_s rfl rfl rfl rfl rfl ?_
       refine st_s rfl rfl rfl rfl rfl ?_
       refine st_s rfl rfl rfl rfl rfl ?_
       refine st_pg rfl rfl rfl (pkF rfl rfl) rfl ?_
       refine st_p (pkF rfl rfl) rfl ?_
       refine st_p (mv rfl) rfl ?_
       refine st_pg rfl rfl rfl (op_fieldAddr Try.underlying67 rfl z4 (by decide) rfl) rfl ?_
       refine st_pg rfl rfl rfl (op_load1 Try.underlying4 rfl rfl rfl rfl rfl) rfl ?_
       refine st_pg rfl rfl rfl (mv rfl) rfl ?_
       refine st_pg rfl rfl rfl (op_fieldAddr Try.underlying67 rfl z3 (by decide) rfl) rfl ?_
       refine st_pg rfl rfl rfl (op_load1 Try.underlying3 rfl rfl rfl rfl rfl) rfl ?_
       refine st_pg rfl rfl rfl (OpP.conv (op_eq rfl rfl) (no (by first | assumption | omega))) rfl ?_
       refine st_pg rfl rfl rfl (pkT rfl rfl) rfl ?_
       refine st_p (pkF rfl rfl) rfl ?_
       refine al_nil ?_
       refine nm ?_
       refine aw_no (rfl) ?_
       refine aw_skip ?_
       refine nmb ?_
       refine nm ?_
       refine aw_region ?_
       refine st_p (mv rfl) rfl ?_
       refine st_p (op_addi rfl rfl (by omega)) rfl ?_
       refine st_p (mva rfl) rfl ?_
       refine al_nil ?_
       refine nm ?_
       refine ⟨⟨i + 1, hlt, by rw [hstep, hall]; simp [readB, d1, d2, d4]⟩, by dsimp only; omega, le_to [(0, 0), (1, 5), (2, 2)] rfl rfl rfl rfl rfl ⟨rfl, ?_, rfl, rfl, trivial⟩ ⟨rfl, ?_, rfl, trivial⟩⟩
       ·simp [AV.ren, tget, swp]; omega
       ·simp [Blk.ren, hget, swp, AV.ren, List.take_add_one, hx, sb]; rfl
    ·skip
     refine aw_seq ?_
     refine aw_seq ?_
     refine aw_region ?_
     refine st_p (mv rfl) rfl ?_
     refine st_p (op_fieldAddr Try.underlying26 rfl z23 (by decide) rfl) rfl ?_
     refine st_p (op_load1 Try.underlying23 rfl rfl rfl rfl rfl) rfl ?_
     refine st_p (op_len Try.underlying23 rfl) rfl ?_
     refine st_p (OpP.conv (op_lt rfl rfl) (yes (by first | assumption | omega))) rfl ?_
     refine al_nil ?_
     refine nm ?_
     refine aw_yes (rfl) ?_
     refine aw_skip ?_
     refine nm ?_
     refine aw_seq ?_
     refine aw_block ?_
     refine aw_seq ?_
     refine aw_region ?_
     refine st_p (op_fieldAddr Try.underlying26 rfl z23 (by decide) rfl) rfl ?_
     refine st_p (op_load1 Try.underlying23 rfl rfl rfl rfl rfl) rfl ?_
     refine st_p (mv rfl) rfl ?_
     refine st_p (op_indexAddrL Try.underlying23 z67 rfl rfl (by omega) (by first | assumption | rfl)) rfl ?_
     refine st_p (op_loadAL Try.underlying67 rfl z67 rfl rfl) rfl ?_
     refine st_o (op_alloc a67 rfl rfl) rfl ?_
     refine st_n (stA z67 rfl rfl rfl rfl rfl rfl rfl rfl rfl rfl) ?_
     refine al_nil ?_
     refine nm ?_
     refine aw_seq ?_
     refine aw_region ?_
     refine st_p (mv rfl) rfl ?_
     refine st_p (op_fieldAddr Try.underlying67 rfl z9 (by decide) rfl) rfl ?_
     refine st_p (op_load1 Try.underlying9 rfl rfl rfl rfl rfl) rfl ?_
     refine st_o (bsl Try.underlying71 i9 o9 (by decide) rfl rfl rfl (by decide)) rfl ?_
     refine st_o (op_app Try.underlying71 Try.underlying71 (.inl ⟨_, rfl⟩) i9 o9 rfl rfl rfl (by first | rfl | omega | (simp; done) | (simp; omega)) ((SrcA.whole rfl (by first | rfl | (simp; done))).ok rfl (by first | assumption | intro z hz; simp only [List.mem_singleton, List.drop_zero, List.take_succ_cons, List.take_zero, List.mem_cons, List.not_mem_nil, or_false, List.mem_map] at hz; first | (subst hz; rfl) | (obtain ⟨_, _, rfl⟩ := hz; rfl) | (rcases hz with rfl | rfl <;> rfl))) (by first | omega | (simp; try omega)) rfl) rfl ?_
     refine st_p (mva rfl) rfl ?_
     refine al_nil ?_
     refine nm ?_
     refine aw_seq ?_
     refine aw_region ?_
     refine st_p (op_fieldAddr Try.underlying67 rfl z3 (by decide) rfl) rfl ?_
     refine st_p (op_load1 Try.underlying3 rfl rfl rfl rfl rfl) rfl ?_
     refine st_p (OpP.conv (op_lt rfl rfl) (no (by first | assumption | omega))) rfl ?_
     refine st_p (mv rfl) rfl ?_
     refine st_pg rfl rfl rfl (op_fieldAddr Try.underlying67 rfl z9 (by decide) rfl) rfl ?_
     refine st_pg rfl rfl rfl (op_load1 Try.underlying9 rfl rfl rfl rfl rfl) rfl ?_
     refine st_pg rfl rfl rfl (op_lens Try.underlying9 rfl) rfl ?_
     refine st_pg rfl rfl rfl (OpP.conv (op_gt rfl rfl) (yes (by first | assumption | omega))) rfl ?_
     refine st_p (pkF rfl rfl) rfl ?_
     refine st_p (mv rfl) rfl ?_
     refine st_s rfl rfl rfl rfl rfl ?_
     refine st_s rfl rfl rfl rfl rfl ?_
     refine st_s rfl rfl rfl rfl rfl ?_
     refine st_s rfl rfl rfl rfl rfl ?_
     refine st_s rfl rfl rfl rfl rfl ?_
     refine st_s rfl rfl rfl rfl rfl ?_
     refine st_s rfl rfl rfl rfl rfl ?_
     refine st_s rfl rfl rfl rfl rfl ?_
     refine st_p (pkT rfl rfl) rfl ?_
     refine st_p (mv rfl) rfl ?_
     refine st_s rfl rfl rfl rfl rfl ?_
     refine st_s rfl rfl rfl rfl rfl ?_
     refine st_s rfl rfl rfl rfl rfl ?_
     refine st_s rfl rfl rfl rfl rfl ?_
     refine st_s rfl rfl rfl rfl rfl ?_
     refine st_s rfl rfl rfl rfl rfl ?_
     refine st_s rfl rfl rfl rfl rfl ?_
     refine st_p (pkT rfl rfl) rfl ?_
     refine al_nil ?_
     refine nm ?_
     refine aw_yes (rfl) ?_
     refine aw_seq ?_
     refine aw_region ?_
     refine st_p (mva rfl) rfl ?_
     refine al_nil ?_
     refine nm ?_
     refine aw_ret ?_
     refine rb ?_
     refine rs ?_
     refine rs ?_
     refine rb ?_
     refine rs ?_
     exact ret_a ⟨[(2, .bool false)], [], 0⟩ (le_to [] rfl rfl rfl rfl rfl ⟨rfl, trivial⟩ trivial) (res1 Try.results11) (.inr ⟨rfl, rfl⟩) ⟨by rw [hbad (by simp [readB, d1, d2])]; rfl, rfl, rfl⟩
   ·skip
    refine aw_seq ?_
    refine aw_seq ?_
    refine aw_region ?_
    refine st_p (mv rfl) rfl ?_
    refine st_p (op_fieldAddr Try.underlying26 rfl z23 (by decide) rfl) rfl ?_
    refine st_p (op_load1 Try.underlying23 rfl rfl rfl rfl rfl) rfl ?_
    refine st_p (op_len Try.underlying23 rfl) rfl ?_
    refine st_p (OpP.conv (op_lt rfl rfl) (yes (by first | assumption | omega))) rfl ?_
    refine al_nil ?_
    refine nm ?_
    refine aw_yes (rfl) ?_
    refine aw_skip ?_
    refine nm ?_
    refine aw_seq ?_
    refine aw_block ?_
    refine aw_seq ?_
    refine aw_region ?_
    refine st_p (op_fieldAddr Try.underlying26 rfl z23 (by decide) rfl) rfl ?_
    refine st_p (op_load1 Try.underlying23 rfl rfl rfl rfl rfl) rfl ?_
    refine st_p (mv rfl) rfl ?_
    refine st_p (op_indexAddrL Try.underlying23 z67 rfl rfl (by omega) (by first | assumption | rfl)) rfl ?_
    refine st_p (op_loadAL Try.underlying67 rfl z67 rfl rfl) rfl ?_
    refine st_o (op_alloc a67 rfl rfl) rfl ?_
    refine st_n (stA z67 rfl rfl rfl rfl rfl rfl rfl rfl rfl rfl) ?_
    refine al_nil ?_
    refine nm ?_
    refine aw_seq ?_
    refine aw_region ?_
    refine st_p (mv rfl) rfl ?_
    refine st_p (op_fieldAddr Try.underlying67 rfl z9 (by decide) rfl) rfl ?_
    refine st_p (op_load1 Try.underlying9 rfl rfl rfl rfl rfl) rfl ?_
    refine st_o (bsl Try.underlying71 i9 o9 (by decide) rfl rfl rfl (by decide)) rfl ?_
    refine st_o (op_app Try.underlying71 Try.underlying71 (.inl ⟨_, rfl⟩) i9 o9 rfl rfl rfl (by first | rfl | omega | (simp; done) | (simp; omega)) ((SrcA.whole rfl (by first | rfl | (simp; done))).ok rfl (by first | assumption | intro z hz; simp only [List.mem_singleton, List.drop_zero, List.take_succ_cons, List.take_zero, List.mem_cons, List.not_mem_nil, or_false, List.mem_map] at hz; first | (subst hz; rfl) | (obtain ⟨_, _, rfl⟩ := hz; rfl) | (rcases hz with rfl | rfl <;> rfl))) (by first | omega | (simp; try omega)) rfl) rfl ?_
    refine st_p (mva rfl) rfl ?_
    refine al_nil ?_
    refine nm ?_
    refine aw_seq ?_
    refine aw_region ?_
    refine st_p (op_fieldAddr Try.underlying67 rfl z3 (by decide) rfl) rfl ?_
    refine st_p (op_load1 Try.underlying3 rfl rfl rfl rfl rfl) rfl ?_
    refine st_p (OpP.conv (op_lt rfl rfl) (yes (by first | assumption | omega))) rfl ?_
    refine st_p (mv rfl) rfl ?_
    refine st_s rfl rfl rfl rfl rfl ?_
    refine st_s rfl rfl rfl rfl rfl ?_
    refine st_s rfl rfl rfl rfl rfl ?_
    refine st_s rfl rfl rfl rfl rfl ?_
    refine st_p (pkT rfl rfl) rfl ?_
    refine st_p (mv rfl) rfl ?_
    refine st_s rfl rfl rfl rfl rfl ?_
    refine st_s rfl rfl rfl rfl rfl ?_
    refine st_s rfl rfl rfl rfl rfl ?_
    refine st_s rfl rfl rfl rfl rfl ?_
    refine st_s rfl rfl rfl rfl rfl ?_
    refine st_s rfl rfl rfl rfl rfl ?_
    refine st_s rfl rfl rfl rfl rfl ?_
    refine st_s rfl rfl rfl rfl rfl ?_
    refine st_p (pkT rfl rfl) rfl ?_
    refine st_p (mv rfl) rfl ?_
    refine st_s rfl rfl rfl rfl rfl ?_
    refine st_s rfl rfl rfl rfl rfl ?_
    refine st_s rfl rfl rfl rfl rfl ?_
    refine st_s rfl rfl rfl rfl rfl ?_
    refine st_s rfl rfl rfl rfl rfl ?_
    refine st_s rfl rfl rfl rfl rfl ?_
    refine st_s rfl rfl rfl rfl rfl ?_
    refine st_p (pkT rfl rfl) rfl ?_
    refine al_nil ?_
    refine nm ?_
    refine aw_yes (rfl) ?_
    refine aw_seq ?_
    refine aw_region ?_
    refine st_p (mva rfl) rfl ?_
    refine al_nil ?_
    refine nm ?_
    refine aw_ret ?_
    refine rb ?_
    refine rs ?_
    refine rs ?_
    refine rb ?_
    refine rs ?_
    exact ret_a ⟨[(2, .bool false)], [], 0⟩ (le_to [] rfl rfl rfl rfl rfl ⟨rfl, trivial⟩ trivial) (res1 Try.results11) (.inr ⟨rfl, rfl⟩) ⟨by rw [hbad (by simp [readB, d1])]; rfl, rfl, rfl⟩
  ·have e : rl.take i = rl := List.take_of_length_le (by omega)
   rw [e] at hall
   have ei : i = rl.length := by omega
   refine aw_seq ?_
   refine aw_seq ?_
   refine aw_region ?_
   refine st_p (mv rfl) rfl ?_
   refine st_p (op_fieldAddr Try.underlying26 rfl z23 (by decide) rfl) rfl ?_
   refine st_p (op_load1 Try.underlying23 rfl rfl rfl rfl rfl) rfl ?_
   refine st_p (op_len Try.underlying23 rfl) rfl ?_
   refine st_p (OpP.conv (op_lt rfl rfl) (no (by first | assumption | omega))) rfl ?_
   refine al_nil ?_
   refine nm ?_
   refine aw_no (rfl) ?_
   refine aw_exit ?_
   refine xs ?_
   refine xs ?_
   refine xb ?_
   refine nm ?_
   refine aw_seq ?_
   refine aw_seq ?_
   refine aw_region ?_
   refine st_p (mva rfl) rfl ?_
   refine al_nil ?_
   refine nm ?_
   refine aw_block ?_
   refine aw_loop (fun j : {j : Nat // j ≤ wl.length ∧ (wl.take j).all writeB = true} => ⟨[(1, .ptr 0 0 0), (3, .own 1 0 rl.length), (4, .own 2 0 j.1), (7, .int .i64 j.1)], [(0, .cells 4 [.agg [.int .i64 ses, .int .i64 seq, .sl 4 (rl.map rdA), .sl 3 (wl.map wrA)]]), (1, .cells 1 (rl.map fun r => sb r.key)), (2, .cells 1 ((wl.take j.1).map fun w => sb w.key))], 3⟩) (fun j => wl.length - j.1) ⟨0, Nat.zero_le _, rfl⟩ ?_ ?_
   ·refine le_to [(0, 0), (1, 1), (2, 2)] rfl rfl rfl rfl rfl ⟨rfl, ?_, rfl, rfl, trivial⟩ ⟨rfl, ?_, rfl, trivial⟩
    ·rw [← ei]; rfl
    ·rw [e]; simp [Blk.ren, hget, swp, AV.ren, sb]
   ·rintro ⟨j, hj, hallw⟩
    dsimp only
    by_cases hjt : j < wl.length
    ·obtain ⟨x, hx⟩ : ∃ x, wl[j]? = some x := ⟨_, List.getElem?_eq_getElem hjt⟩
     have hxb : (wl.map wrA)[((j : Nat) : Int).toNat]? = some (.agg [sb x.key, sb x.val, .bool x.gone]) := by rw [Int.toNat_natCast, List.getElem?_map, hx]; rfl
     have hxm : x ∈ wl := List.mem_of_getElem? hx
     have htl : ((wl.take j).map fun w => sb w.key).length = j := by simp; omega
     have hstep : (wl.take (j + 1)).all writeB = ((wl.take j).all writeB && writeB x) := all_take hx
     have hbad : writeB x = false → mayTxB ⟨ses, seq, rl, wl⟩ = false := fun hb => by
      have : wl.all writeB = false := by rw [List.all_eq_false]; exact ⟨x, hxm, by rw [hb]; decide⟩
      simp [mayTxB, this]
     obtain ⟨key, val, gone⟩ := x
     dsimp only at hxb
     by_cases d2 : val.length ≤ 16
     ·cases gone with
      | false =>
       refine aw_seq ?_
       refine aw_seq ?_
       refine aw_region ?_
       refine st_p (mv rfl) rfl ?_
       refine st_p (op_fieldAddr Try.underlying26 rfl z24 (by decide) rfl) rfl ?_
       refine st_p (op_load1 Try.underlying24 rfl rfl rfl rfl rfl) rfl ?_
       refine st_p (op_len Try.underlying24 rfl) rfl ?_
       refine st_p (OpP.conv (op_lt rfl rfl) (yes (by first | assumption | omega))) rfl ?_
       refine al_nil ?_
       refine nm ?_
       refine aw_yes (rfl) ?_
       refine aw_skip ?_
       refine nm ?_
       refine aw_seq ?_
       refine aw_block ?_
       refine aw_seq ?_
       refine aw_region ?_
       refine st_p (op_fieldAddr Try.underlying26 rfl z24 (by decide) rfl) rfl ?_
       refine st_p (op_load1 Try.underlying24 rfl rfl rfl rfl rfl) rfl ?_
       refine st_p (mv rfl) rfl ?_
       refine st_p (op_indexAddrL Try.underlying24 z65 rfl rfl (by omega) (by first | assumption | rfl)) rfl ?_
       refine st_p (op_loadAL Try.underlying65 rfl z65 rfl rfl) rfl ?_
       refine st_o (op_alloc a65 rfl rfl) rfl ?_
       refine st_n (stA z65 rfl rfl rfl rfl rfl rfl rfl rfl rfl rfl) ?_
       refine al_nil ?_
       refine nm ?_
       refine aw_seq ?_
       refine aw_region ?_
       refine st_p (mv rfl) rfl ?_
       refine st_p (op_fieldAddr Try.underlying65 rfl z9 (by decide) rfl) rfl ?_
       refine st_p (op_load1 Try.underlying9 rfl rfl rfl rfl rfl) rfl ?_
       refine st_o (bsl Try.underlying71 i9 o9 (by decide) rfl rfl rfl (by decide)) rfl ?_
       refine st_o (op_app Try.underlying71 Try.underlying71 (.inl ⟨_, rfl⟩) i9 o9 rfl rfl rfl (by first | rfl | omega | (simp; done) | (simp; omega)) ((SrcA.whole rfl (by first | rfl | (simp; done))).ok rfl (by first | assumption | intro z hz; simp only [List.mem_singleton, List.drop_zero, List.take_succ_cons, List.take_zero, List.mem_cons, List.not_mem_nil, or_false, List.mem_map] at hz; first | (subst hz; rfl) | (obtain ⟨_, _, rfl⟩ := hz; rfl) | (rcases hz with rfl | rfl <;> rfl))) (by first | omega | (simp; try omega)) rfl) rfl ?_
       refine st_p (mva rfl) rfl ?_
       refine al_nil ?_
       refine nm ?_
       refine aw_seq ?_
       refine aw_region ?_
       refine st_p (op_fieldAddr Try.underlying65 rfl z9 (by decide) rfl) rfl ?_
       refine st_p (op_load1 Try.underlying9 rfl rfl rfl rfl rfl) rfl ?_
       refine st_p (op_lens Try.underlying9 rfl) rfl ?_
       refine st_p (OpP.conv (op_gt rfl rfl) (no (by first | assumption | omega))) rfl ?_
       refine st_p (mv rfl) rfl ?_
       refine st_pg rfl rfl rfl (op_fieldAddr Try.underlying65 rfl z4 (by decide) rfl) rfl ?_
       refine st_pg rfl rfl rfl (op_load1 Try.underlying4 rfl rfl rfl rfl rfl) rfl ?_
       refine st_pg rfl rfl rfl (mv rfl) rfl ?_
       refine st_s rfl rfl rfl rfl rfl ?_
       refine st_s rfl rfl rfl rfl rfl ?_
       refine st_s rfl rfl rfl rfl rfl ?_
       refine st_pg rfl rfl rfl (pkF rfl rfl) rfl ?_
       refine st_p (pkF rfl rfl) rfl ?_
       refine al_nil ?_
       refine nm ?_
       refine aw_no (rfl) ?_
       refine aw_skip ?_
       refine nmb ?_
       refine nm ?_
       refine aw_region ?_
       refine st_p (mv rfl) rfl ?_
       refine st_p (op_addi rfl rfl (by omega)) rfl ?_
       refine st_p (mva rfl) rfl ?_
       refine al_nil ?_
       refine nm ?_
       refine ⟨⟨j + 1, hjt, by rw [hstep, hallw]; simp [writeB, d2]⟩, by dsimp only; omega, le_to [(0, 0), (1, 1), (2, 5)] rfl rfl rfl rfl rfl ⟨rfl, ?_, ?_, rfl, trivial⟩ ⟨rfl, ?_, ?_, trivial⟩⟩
       ·rfl
       ·simp [AV.ren, tget, swp]; omega
       ·simp [Blk.ren, hget, swp, AV.ren, sb]
       ·simp [Blk.ren, hget, swp, AV.ren, List.take_add_one, hx, sb]; rfl
      | true =>
       by_cases d3 : val = []
       ·subst d3
        refine aw_seq ?_
        refine aw_seq ?_
        refine aw_region ?_
        refine st_p (mv rfl) rfl ?_
        refine st_p (op_fieldAddr Try.underlying26 rfl z24 (by decide) rfl) rfl ?_
        refine st_p (op_load1 Try.underlying24 rfl rfl rfl rfl rfl) rfl ?_
        refine st_p (op_len Try.underlying24 rfl) rfl ?_
        refine st_p (OpP.conv (op_lt rfl rfl) (yes (by first | assumption | omega))) rfl ?_
        refine al_nil ?_
        refine nm ?_
        refine aw_yes (rfl) ?_
        refine aw_skip ?_
        refine nm ?_
        refine aw_seq ?_
        refine aw_block ?_
        refine aw_seq ?_
        refine aw_region ?_
        refine st_p (op_fieldAddr Try.underlying26 rfl z24 (by decide) rfl) rfl ?_
        refine st_p (op_load1 Try.underlying24 rfl rfl rfl rfl rfl) rfl ?_
        refine st_p (mv rfl) rfl ?_
        refine st_p (op_indexAddrL Try.underlying24 z65 rfl rfl (by omega) (by first | assumption | rfl)) rfl ?_
        refine st_p (op_loadAL Try.underlying65 rfl z65 rfl rfl) rfl ?_
        refine st_o (op_alloc a65 rfl rfl) rfl ?_
        refine st_n (stA z65 rfl rfl rfl rfl rfl rfl rfl rfl rfl rfl) ?_
        refine al_nil ?_
        refine nm ?_
        refine aw_seq ?_
        refine aw_region ?_
        refine st_p (mv rfl) rfl ?_
        refine st_p (op_fieldAddr Try.underlying65 rfl z9 (by decide) rfl) rfl ?_
        refine st_p (op_load1 Try.underlying9 rfl rfl rfl rfl rfl) rfl ?_
        refine st_o (bsl Try.underlying71 i9 o9 (by decide) rfl rfl rfl (by decide)) rfl ?_
        refine st_o (op_app Try.underlying71 Try.underlying71 (.inl ⟨_, rfl⟩) i9 o9 rfl rfl rfl (by first | rfl | omega | (simp; done) | (simp; omega)) ((SrcA.whole rfl (by first | rfl | (simp; done))).ok rfl (by first | assumption | intro z hz; simp only [List.mem_singleton, List.drop_zero, List.take_succ_cons, List.take_zero, List.mem_cons, List.not_mem_nil, or_false, List.mem_map] at hz; first | (subst hz; rfl) | (obtain ⟨_, _, rfl⟩ := hz; rfl) | (rcases hz with rfl | rfl <;> rfl))) (by first | omega | (simp; try omega)) rfl) rfl ?_
        refine st_p (mva rfl) rfl ?_
        refine al_nil ?_
        refine nm ?_
        refine aw_seq ?_
        refine aw_region ?_
        refine st_p (op_fieldAddr Try.underlying65 rfl z9 (by decide) rfl) rfl ?_
        refine st_p (op_load1 Try.underlying9 rfl rfl rfl rfl rfl) rfl ?_
        refine st_p (op_lens Try.underlying9 rfl) rfl ?_
        refine st_p (OpP.conv (op_gt rfl rfl) (no (by first | assumption | omega))) rfl ?_
        refine st_p (mv rfl) rfl ?_
        refine st_pg rfl rfl rfl (op_fieldAddr Try.underlying65 rfl z4 (by decide) rfl) rfl ?_
        refine st_pg rfl rfl rfl (op_load1 Try.underlying4 rfl rfl rfl rfl rfl) rfl ?_
        refine st_pg rfl rfl rfl (mv rfl) rfl ?_
        refine st_pg rfl rfl rfl (op_fieldAddr Try.underlying65 rfl z9 (by decide) rfl) rfl ?_
        refine st_pg rfl rfl rfl (op_load1 Try.underlying9 rfl rfl rfl rfl rfl) rfl ?_
        refine st_pg rfl rfl rfl (op_nes rfl rfl) rfl ?_
        refine st_pg rfl rfl rfl (pkT rfl rfl) rfl ?_
        refine st_p (pkF rfl rfl) rfl ?_
        refine al_nil ?_
        refine nm ?_
        refine aw_no (rfl) ?_
        refine aw_skip ?_
        refine nmb ?_
        refine nm ?_
        refine aw_region ?_
        refine st_p (mv rfl) rfl ?_
        refine st_p (op_addi rfl rfl (by omega)) rfl ?_
        refine st_p (mva rfl) rfl ?_
        refine al_nil ?_
        refine nm ?_
        refine ⟨⟨j + 1, hjt, by rw [hstep, hallw]; simp [writeB, d2]⟩, by dsimp only; omega, le_to [(0, 0), (1, 1), (2, 5)] rfl rfl rfl rfl rfl ⟨rfl, ?_, ?_, rfl, trivial⟩ ⟨rfl, ?_, ?_, trivial⟩⟩
        ·rfl
        ·simp [AV.ren, tget, swp]; omega
        ·simp [Blk.ren, hget, swp, AV.ren, sb]
        ·simp [Blk.ren, hget, swp, AV.ren, List.take_add_one, hx, sb]; rfl
       ·skip
        refine aw_seq ?_
        refine aw_seq ?_
        refine aw_region ?_
        refine st_p (mv rfl) rfl ?_
        refine st_p (op_fieldAddr Try.underlying26 rfl z24 (by decide) rfl) rfl ?_
        refine st_p (op_load1 Try.underlying24 rfl rfl rfl rfl rfl) rfl ?_
        refine st_p (op_len Try.underlying24 rfl) rfl ?_
        refine st_p (OpP.conv (op_lt rfl rfl) (yes (by first | assumption | omega))) rfl ?_
        refine al_nil ?_
        refine nm ?_
        refine aw_yes (rfl) ?_
        refine aw_skip ?_
        refine nm ?_
        refine aw_seq ?_
        refine aw_block ?_
        refine aw_seq ?_
        refine aw_region ?_
        refine st_p (op_fieldAddr Try.underlying26 rfl z24 (by decide) rfl) rfl ?_
        refine st_p (op_load1 Try.underlying24 rfl rfl rfl rfl rfl) rfl ?_
        refine st_p (mv rfl) rfl ?_
        refine st_p (op_indexAddrL Try.underlying24 z65 rfl rfl (by omega) (by first | assumption | rfl)) rfl ?_
        refine st_p (op_loadAL Try.underlying65 rfl z65 rfl rfl) rfl ?_
        refine st_o (op_alloc a65 rfl rfl) rfl ?_
        refine st_n (stA z65 rfl rfl rfl rfl rfl rfl rfl rfl rfl rfl) ?_
        refine al_nil ?_
        refine nm ?_
        refine aw_seq ?_
        refine aw_region ?_
        refine st_p (mv rfl) rfl ?_
        refine st_p (op_fieldAddr Try.underlying65 rfl z9 (by decide) rfl) rfl ?_
        refine st_p (op_load1 Try.underlying9 rfl rfl rfl rfl rfl) rfl ?_
        refine st_o (bsl Try.underlying71 i9 o9 (by decide) rfl rfl rfl (by decide)) rfl ?_
        refine st_o (op_app Try.underlying71 Try.underlying71 (.inl ⟨_, rfl⟩) i9 o9 rfl rfl rfl (by first | rfl | omega | (simp; done) | (simp; omega)) ((SrcA.whole rfl (by first | rfl | (simp; done))).ok rfl (by first | assumption | intro z hz; simp only [List.mem_singleton, List.drop_zero, List.take_succ_cons, List.take_zero, List.mem_cons, List.not_mem_nil, or_false, List.mem_map] at hz; first | (subst hz; rfl) | (obtain ⟨_, _, rfl⟩ := hz; rfl) | (rcases hz with rfl | rfl <;> rfl))) (by first | omega | (simp; try omega)) rfl) rfl ?_
        refine st_p (mva rfl) rfl ?_
        refine al_nil ?_
        refine nm ?_
        refine aw_seq ?_
        refine aw_region ?_
        refine st_p (op_fieldAddr Try.underlying65 rfl z9 (by decide) rfl) rfl ?_
        refine st_p (op_load1 Try.underlying9 rfl rfl rfl rfl rfl) rfl ?_
        refine st_p (op_lens Try.underlying9 rfl) rfl ?_
        refine st_p (OpP.conv (op_gt rfl rfl) (no (by first | assumption | omega))) rfl ?_
        refine st_p (mv rfl) rfl ?_
        refine st_pg rfl rfl rfl (op_fieldAddr Try.underlying65 rfl z4 (by decide) rfl) rfl ?_
        refine st_pg rfl rfl rfl (op_load1 Try.underlying4 rfl rfl rfl rfl rfl) rfl ?_
        refine st_pg rfl rfl rfl (mv rfl) rfl ?_
        refine st_pg rfl rfl rfl (op_fieldAddr Try.underlying65 rfl z9 (by decide) rfl) rfl ?_
        refine st_pg rfl rfl rfl (op_load1 Try.underlying9 rfl rfl rfl rfl rfl) rfl ?_
        refine st_pg rfl rfl rfl (OpP.conv (op_nes rfl rfl) (yes (by first | assumption | omega))) rfl ?_
        refine st_pg rfl rfl rfl (pkT rfl rfl) rfl ?_
        refine st_p (pkF rfl rfl) rfl ?_
        refine al_nil ?_
        refine nm ?_
        refine aw_yes (rfl) ?_
        refine aw_seq ?_
        refine aw_region ?_
        refine st_p (mva rfl) rfl ?_
        refine al_nil ?_
        refine nm ?_
        refine aw_ret ?_
        refine rb ?_
        refine rs ?_
        refine rs ?_
        refine rb ?_
        refine rs ?_
        exact ret_a ⟨[(2, .bool false)], [], 0⟩ (le_to [] rfl rfl rfl rfl rfl ⟨rfl, trivial⟩ trivial) (res1 Try.results11) (.inr ⟨rfl, rfl⟩) ⟨by rw [hbad (by simp [writeB, d2, d3])]; rfl, rfl, rfl⟩
     ·skip
      refine aw_seq ?_
      refine aw_seq ?_
      refine aw_region ?_
      refine st_p (mv rfl) rfl ?_
      refine st_p (op_fieldAddr Try.underlying26 rfl z24 (by decide) rfl) rfl ?_
      refine st_p (op_load1 Try.underlying24 rfl rfl rfl rfl rfl) rfl ?_
      refine st_p (op_len Try.underlying24 rfl) rfl ?_
      refine st_p (OpP.conv (op_lt rfl rfl) (yes (by first | assumption | omega))) rfl ?_
      refine al_nil ?_
      refine nm ?_
      refine aw_yes (rfl) ?_
      refine aw_skip ?_
      refine nm ?_
      refine aw_seq ?_
      refine aw_block ?_
      refine aw_seq ?_
      refine aw_region ?_
      refine st_p (op_fieldAddr Try.underlying26 rfl z24 (by decide) rfl) rfl ?_
      refine st_p (op_load1 Try.underlying24 rfl rfl rfl rfl rfl) rfl ?_
      refine st_p (mv rfl) rfl ?_
      refine st_p (op_indexAddrL Try.underlying24 z65 rfl rfl (by omega) (by first | assumption | rfl)) rfl ?_
      refine st_p (op_loadAL Try.underlying65 rfl z65 rfl rfl) rfl ?_
      refine st_o (op_alloc a65 rfl rfl) rfl ?_
      refine st_n (stA z65 rfl rfl rfl rfl rfl rfl rfl rfl rfl rfl) ?_
      refine al_nil ?_
      refine nm ?_
      refine aw_seq ?_
      refine aw_region ?_
      refine st_p (mv rfl) rfl ?_
      refine st_p (op_fieldAddr Try.underlying65 rfl z9 (by decide) rfl) rfl ?_
      refine st_p (op_load1 Try.underlying9 rfl rfl rfl rfl rfl) rfl ?_
      refine st_o (bsl Try.underlying71 i9 o9 (by decide) rfl rfl rfl (by decide)) rfl ?_
      refine st_o (op_app Try.underlying71 Try.underlying71 (.inl ⟨_, rfl⟩) i9 o9 rfl rfl rfl (by first | rfl | omega | (simp; done) | (simp; omega)) ((SrcA.whole rfl (by first | rfl | (simp; done))).ok rfl (by first | assumption | intro z hz; simp only [List.mem_singleton, List.drop_zero, List.take_succ_cons, List.take_zero, List.mem_cons, List.not_mem_nil, or_false, List.mem_map] at hz; first | (subst hz; rfl) | (obtain ⟨_, _, rfl⟩ := hz; rfl) | (rcases hz with rfl | rfl <;> rfl))) (by first | omega | (simp; try omega)) rfl) rfl ?_
      refine st_p (mva rfl) rfl ?_
      refine al_nil ?_
      refine nm ?_
      refine aw_seq ?_
      refine aw_region ?_
      refine st_p (op_fieldAddr Try.underlying65 rfl z9 (by decide) rfl) rfl ?_
      refine st_p (op_load1 Try.underlying9 rfl rfl rfl rfl rfl) rfl ?_
      refine st_p (op_lens Try.underlying9 rfl) rfl ?_
      refine st_p (OpP.conv (op_gt rfl rfl) (yes (by first | assumption | omega))) rfl ?_
      refine st_p (mv rfl) rfl ?_
      refine st_s rfl rfl rfl rfl rfl ?_
      refine st_s rfl rfl rfl rfl rfl ?_
      refine st_s rfl rfl rfl rfl rfl ?_
      refine st_s rfl rfl rfl rfl rfl ?_
      refine st_s rfl rfl rfl rfl rfl ?_
      refine st_s rfl rfl rfl rfl rfl ?_
      refine st_s rfl rfl rfl rfl rfl ?_
      refine st_p (pkT rfl rfl) rfl ?_
      refine al_nil ?_
      refine nm ?_
      refine aw_yes (rfl) ?_
      refine aw_seq ?_
      refine aw_region ?_
      refine st_p (mva rfl) rfl ?_
      refine al_nil ?_
      refine nm ?_
      refine aw_ret ?_
      refine rb ?_
      refine rs ?_
      refine rs ?_
      refine rb ?_
      refine rs ?_
      exact ret_a ⟨[(2, .bool false)], [], 0⟩ (le_to [] rfl rfl rfl rfl rfl ⟨rfl, trivial⟩ trivial) (res1 Try.results11) (.inr ⟨rfl, rfl⟩) ⟨by rw [hbad (by simp [writeB, d2])]; rfl, rfl, rfl⟩
    ·have e2 : wl.take j = wl := List.take_of_length_le (by omega)
     rw [e2] at hallw ⊢
     have ej : j = wl.length := by omega
     subst ej
     have hrk : (rl.map fun r => sb r.key) = (rl.map RD.key).map sb := by rw [List.map_map]; rfl
     have hwk : (wl.map fun w => sb w.key) = (wl.map WR.key).map sb := by rw [List.map_map]; rfl
     rw [hrk, hwk]
     by_cases c0 : 1 ≤ ses
     ·skip
      by_cases c1 : ses ≤ 9
      ·skip
       by_cases c2 : 1 ≤ seq
       ·skip
        by_cases c3 : seq ≤ 1000
        ·skip
         by_cases c4 : rl.length ≤ 6
         ·skip
          by_cases c5 : wl.length ≤ 4
          ·skip
           cases c6 : risingB (rl.map RD.key) with
           | true =>
            rw [c6] at h6
            cases c7 : risingB (wl.map WR.key) with
            | true =>
             rw [c7] at h7
             refine aw_seq ?_
             refine aw_seq ?_
             refine aw_region ?_
             refine st_p (mv rfl) rfl ?_
             refine st_p (op_fieldAddr Try.underlying26 rfl z24 (by decide) rfl) rfl ?_
             refine st_p (op_load1 Try.underlying24 rfl rfl rfl rfl rfl) rfl ?_
             refine st_p (op_len Try.underlying24 rfl) rfl ?_
             refine st_p (OpP.conv (op_lt rfl rfl) (no (by first | assumption | omega))) rfl ?_
             refine al_nil ?_
             refine nm ?_
             refine aw_no (rfl) ?_
             refine aw_exit ?_
             refine xs ?_
             refine xs ?_
             refine xb ?_
             refine nm ?_
             refine aw_seq ?_
             refine aw_region ?_
             refine st_p (op_fieldAddr Try.underlying26 rfl z3 (by decide) rfl) rfl ?_
             refine st_p (op_load1 Try.underlying3 rfl rfl rfl rfl rfl) rfl ?_
             refine st_p (OpP.conv (op_ge rfl rfl) (yes (by first | assumption | omega))) rfl ?_
             refine st_p (mv rfl) rfl ?_
             refine st_pg rfl rfl rfl (op_fieldAddr Try.underlying26 rfl z3 (by decide) rfl) rfl ?_
             refine st_pg rfl rfl rfl (op_load1 Try.underlying3 rfl rfl rfl rfl rfl) rfl ?_
             refine st_pg rfl rfl rfl (OpP.conv (op_le rfl rfl) (yes (by first | assumption | omega))) rfl ?_
             refine st_p (pkT rfl rfl) rfl ?_
             refine st_p (mv rfl) rfl ?_
             refine st_pg rfl rfl rfl (op_fieldAddr Try.underlying26 rfl z3 (by decide) rfl) rfl ?_
             refine st_pg rfl rfl rfl (op_load1 Try.underlying3 rfl rfl rfl rfl rfl) rfl ?_
             refine st_pg rfl rfl rfl (OpP.conv (op_ge rfl rfl) (yes (by first | assumption | omega))) rfl ?_
             refine st_p (pkT rfl rfl) rfl ?_
             refine st_p (mv rfl) rfl ?_
             refine st_pg rfl rfl rfl (op_fieldAddr Try.underlying26 rfl z3 (by decide) rfl) rfl ?_
             refine st_pg rfl rfl rfl (op_load1 Try.underlying3 rfl rfl rfl rfl rfl) rfl ?_
             refine st_pg rfl rfl rfl (OpP.conv (op_le rfl rfl) (yes (by first | assumption | omega))) rfl ?_
             refine st_p (pkT rfl rfl) rfl ?_
             refine st_p (mv rfl) rfl ?_
             refine st_pg rfl rfl rfl (mv rfl) rfl ?_
             refine st_pg rfl rfl rfl (op_leno Try.underlying71 rfl) rfl ?_
             refine st_pg rfl rfl rfl (OpP.conv (op_le rfl rfl) (yes (by first | assumption | omega))) rfl ?_
             refine st_p (pkT rfl rfl) rfl ?_
             refine st_p (mv rfl) rfl ?_
             refine st_pg rfl rfl rfl (mv rfl) rfl ?_
             refine st_pg rfl rfl rfl (op_leno Try.underlying71 rfl) rfl ?_
             refine st_pg rfl rfl rfl (OpP.conv (op_le rfl rfl) (yes (by first | assumption | omega))) rfl ?_
             refine st_p (pkT rfl rfl) rfl ?_
             refine st_p (mv rfl) rfl ?_
             refine st_pg rfl rfl rfl (mv rfl) rfl ?_
             refine st_og rfl rfl rfl ((op_callq (h6) Try.func47 ⟨rfl, rfl⟩ rfl rfl (fun nx => (.cons (.whole rfl rfl rfl (by first | rfl | simp) (by first | rfl | simp [Function.comp_def, AV.ren, sb]) (by first | rfl | simp [AV.plain, plains, bl_plain, sb, AV.ren])) .nil)) (by rintro _ _ _ ⟨rfl, rfl, rfl⟩; exact .same rfl)).ok) rfl ?_
             refine st_p (pkT rfl rfl) rfl ?_
             refine st_p (mv rfl) rfl ?_
             refine st_pg rfl rfl rfl (mv rfl) rfl ?_
             refine st_og rfl rfl rfl ((op_callq (h7) Try.func47 ⟨rfl, rfl⟩ rfl rfl (fun nx => (.cons (.whole rfl rfl rfl (by first | rfl | simp) (by first | rfl | simp [Function.comp_def, AV.ren, sb]) (by first | rfl | simp [AV.plain, plains, bl_plain, sb, AV.ren])) .nil)) (by rintro _ _ _ ⟨rfl, rfl, rfl⟩; exact .same rfl)).ok) rfl ?_
             refine st_p (pkT rfl rfl) rfl ?_
             refine st_p (mva rfl) rfl ?_
             refine al_nil ?_
             refine nm ?_
             refine aw_ret ?_
             exact ret_a ⟨[(2, .bool true)], [], 0⟩ (le_to [] rfl rfl rfl rfl rfl ⟨rfl, trivial⟩ trivial) (res1 Try.results11) (.inr ⟨rfl, rfl⟩) ⟨by simp [mayTxB, tget, hall, hallw, c0, c1, c2, c3, c4, c5, c6, c7], rfl, rfl⟩
            | false =>
             rw [c7] at h7
             refine aw_seq ?_
             refine aw_seq ?_
             refine aw_region ?_
             refine st_p (mv rfl) rfl ?_
             refine st_p (op_fieldAddr Try.underlying26 rfl z24 (by decide) rfl) rfl ?_
             refine st_p (op_load1 Try.underlying24 rfl rfl rfl rfl rfl) rfl ?_
             refine st_p (op_len Try.underlying24 rfl) rfl ?_
             refine st_p (OpP.conv (op_lt rfl rfl) (no (by first | assumption | omega))) rfl ?_
             refine al_nil ?_
             refine nm ?_
             refine aw_no (rfl) ?_
             refine aw_exit ?_
             refine xs ?_
             refine xs ?_
             refine xb ?_
             refine nm ?_
             refine aw_seq ?_
             refine aw_region ?_
             refine st_p (op_fieldAddr Try.underlying26 rfl z3 (by decide) rfl) rfl ?_
             refine st_p (op_load1 Try.underlying3 rfl rfl rfl rfl rfl) rfl ?_
             refine st_p (OpP.conv (op_ge rfl rfl) (yes (by first | assumption | omega))) rfl ?_
             refine st_p (mv rfl) rfl ?_
             refine st_pg rfl rfl rfl (op_fieldAddr Try.underlying26 rfl z3 (by decide) rfl) rfl ?_
             refine st_pg rfl rfl rfl (op_load1 Try.underlying3 rfl rfl rfl rfl rfl) rfl ?_
             refine st_pg rfl rfl rfl (OpP.conv (op_le rfl rfl) (yes (by first | assumption | omega))) rfl ?_
             refine st_p (pkT rfl rfl) rfl ?_
             refine st_p (mv rfl) rfl ?_
             refine st_pg rfl rfl rfl (op_fieldAddr Try.underlying26 rfl z3 (by decide) rfl) rfl ?_
             refine st_pg rfl rfl rfl (op_load1 Try.underlying3 rfl rfl rfl rfl rfl) rfl ?_
             refine st_pg rfl rfl rfl (OpP.conv (op_ge rfl rfl) (yes (by first | assumption | omega))) rfl ?_
             refine st_p (pkT rfl rfl) rfl ?_
             refine st_p (mv rfl) rfl ?_
             refine st_pg rfl rfl rfl (op_fieldAddr Try.underlying26 rfl z3 (by decide) rfl) rfl ?_
             refine st_pg rfl rfl rfl (op_load1 Try.underlying3 rfl rfl rfl rfl rfl) rfl ?_
             refine st_pg rfl rfl rfl (OpP.conv (op_le rfl rfl) (yes (by first | assumption | omega))) rfl ?_
             refine st_p (pkT rfl rfl) rfl ?_
             refine st_p (mv rfl) rfl ?_
             refine st_pg rfl rfl rfl (mv rfl) rfl ?_
             refine st_pg rfl rfl rfl (op_leno Try.underlying71 rfl) rfl ?_
             refine st_pg rfl rfl rfl (OpP.conv (op_le rfl rfl) (yes (by first | assumption | omega))) rfl ?_
             refine st_p (pkT rfl rfl) rfl ?_
             refine st_p (mv rfl) rfl ?_
             refine st_pg rfl rfl rfl (mv rfl) rfl ?_
             refine st_pg rfl rfl rfl (op_leno Try.underlying71 rfl) rfl ?_
             refine st_pg rfl rfl rfl (OpP.conv (op_le rfl rfl) (yes (by first | assumption | omega))) rfl ?_
             refine st_p (pkT rfl rfl) rfl ?_
             refine st_p (mv rfl) rfl ?_
             refine st_pg rfl rfl rfl (mv rfl) rfl ?_
             refine st_og rfl rfl rfl ((op_callq (h6) Try.func47 ⟨rfl, rfl⟩ rfl rfl (fun nx => (.cons (.whole rfl rfl rfl (by first | rfl | simp) (by first | rfl | simp [Function.comp_def, AV.ren, sb]) (by first | rfl | simp [AV.plain, plains, bl_plain, sb, AV.ren])) .nil)) (by rintro _ _ _ ⟨rfl, rfl, rfl⟩; exact .same rfl)).ok) rfl ?_
             refine st_p (pkT rfl rfl) rfl ?_
             refine st_p (mv rfl) rfl ?_
             refine st_pg rfl rfl rfl (mv rfl) rfl ?_
             refine st_og rfl rfl rfl ((op_callq (h7) Try.func47 ⟨rfl, rfl⟩ rfl rfl (fun nx => (.cons (.whole rfl rfl rfl (by first | rfl | simp) (by first | rfl | simp [Function.comp_def, AV.ren, sb]) (by first | rfl | simp [AV.plain, plains, bl_plain, sb, AV.ren])) .nil)) (by rintro _ _ _ ⟨rfl, rfl, rfl⟩; exact .same rfl)).ok) rfl ?_
             refine st_p (pkT rfl rfl) rfl ?_
             refine st_p (mva rfl) rfl ?_
             refine al_nil ?_
             refine nm ?_
             refine aw_ret ?_
             exact ret_a ⟨[(2, .bool false)], [], 0⟩ (le_to [] rfl rfl rfl rfl rfl ⟨rfl, trivial⟩ trivial) (res1 Try.results11) (.inr ⟨rfl, rfl⟩) ⟨by simp [mayTxB, tget, hall, hallw, c0, c1, c2, c3, c4, c5, c6, c7], rfl, rfl⟩
           | false =>
            rw [c6] at h6
            refine aw_seq ?_
            refine aw_seq ?_
            refine aw_region ?_
            refine st_p (mv rfl) rfl ?_
            refine st_p (op_fieldAddr Try.underlying26 rfl z24 (by decide) rfl) rfl ?_
            refine st_p (op_load1 Try.underlying24 rfl rfl rfl rfl rfl) rfl ?_
            refine st_p (op_len Try.underlying24 rfl) rfl ?_
            refine st_p (OpP.conv (op_lt rfl rfl) (no (by first | assumption | omega))) rfl ?_
            refine al_nil ?_
            refine nm ?_
            refine aw_no (rfl) ?_
            refine aw_exit ?_
            refine xs ?_
            refine xs ?_
            refine xb ?_
            refine nm ?_
            refine aw_seq ?_
            refine aw_region ?_
            refine st_p (op_fieldAddr Try.underlying26 rfl z3 (by decide) rfl) rfl ?_
            refine st_p (op_load1 Try.underlying3 rfl rfl rfl rfl rfl) rfl ?_
            refine st_p (OpP.conv (op_ge rfl rfl) (yes (by first | assumption | omega))) rfl ?_
            refine st_p (mv rfl) rfl ?_
            refine st_pg rfl rfl rfl (op_fieldAddr Try.underlying26 rfl z3 (by decide) rfl) rfl ?_
            refine st_pg rfl rfl rfl (op_load1 Try.underlying3 rfl rfl rfl rfl rfl) rfl ?_
            refine st_pg rfl rfl rfl (OpP.conv (op_le rfl rfl) (yes (by first | assumption | omega))) rfl ?_
            refine st_p (pkT rfl rfl) rfl ?_
            refine st_p (mv rfl) rfl ?_
            refine st_pg rfl rfl rfl (op_fieldAddr Try.underlying26 rfl z3 (by decide) rfl) rfl ?_
            refine st_pg rfl rfl rfl (op_load1 Try.underlying3 rfl rfl rfl rfl rfl) rfl ?_
            refine st_pg rfl rfl rfl (OpP.conv (op_ge rfl rfl) (yes (by first | assumption | omega))) rfl ?_
            refine st_p (pkT rfl rfl) rfl ?_
            refine st_p (mv rfl) rfl ?_
            refine st_pg rfl rfl rfl (op_fieldAddr Try.underlying26 rfl z3 (by decide) rfl) rfl ?_
            refine st_pg rfl rfl rfl (op_load1 Try.underlying3 rfl rfl rfl rfl rfl) rfl ?_
            refine st_pg rfl rfl rfl (OpP.conv (op_le rfl rfl) (yes (by first | assumption | omega))) rfl ?_
            refine st_p (pkT rfl rfl) rfl ?_
            refine st_p (mv rfl) rfl ?_
            refine st_pg rfl rfl rfl (mv rfl) rfl ?_
            refine st_pg rfl rfl rfl (op_leno Try.underlying71 rfl) rfl ?_
            refine st_pg rfl rfl rfl (OpP.conv (op_le rfl rfl) (yes (by first | assumption | omega))) rfl ?_
            refine st_p (pkT rfl rfl) rfl ?_
            refine st_p (mv rfl) rfl ?_
            refine st_pg rfl rfl rfl (mv rfl) rfl ?_
            refine st_pg rfl rfl rfl (op_leno Try.underlying71 rfl) rfl ?_
            refine st_pg rfl rfl rfl (OpP.conv (op_le rfl rfl) (yes (by first | assumption | omega))) rfl ?_
            refine st_p (pkT rfl rfl) rfl ?_
            refine st_p (mv rfl) rfl ?_
            refine st_pg rfl rfl rfl (mv rfl) rfl ?_
            refine st_og rfl rfl rfl ((op_callq (h6) Try.func47 ⟨rfl, rfl⟩ rfl rfl (fun nx => (.cons (.whole rfl rfl rfl (by first | rfl | simp) (by first | rfl | simp [Function.comp_def, AV.ren, sb]) (by first | rfl | simp [AV.plain, plains, bl_plain, sb, AV.ren])) .nil)) (by rintro _ _ _ ⟨rfl, rfl, rfl⟩; exact .same rfl)).ok) rfl ?_
            refine st_p (pkT rfl rfl) rfl ?_
            refine st_p (mv rfl) rfl ?_
            refine st_s rfl rfl rfl rfl rfl ?_
            refine st_s rfl rfl rfl rfl rfl ?_
            refine st_p (pkF rfl rfl) rfl ?_
            refine st_p (mva rfl) rfl ?_
            refine al_nil ?_
            refine nm ?_
            refine aw_ret ?_
            exact ret_a ⟨[(2, .bool false)], [], 0⟩ (le_to [] rfl rfl rfl rfl rfl ⟨rfl, trivial⟩ trivial) (res1 Try.results11) (.inr ⟨rfl, rfl⟩) ⟨by simp [mayTxB, tget, hall, hallw, c0, c1, c2, c3, c4, c5, c6], rfl, rfl⟩
          ·skip
           refine aw_seq ?_
           refine aw_seq ?_
           refine aw_region ?_
           refine st_p (mv rfl) rfl ?_
           refine st_p (op_fieldAddr Try.underlying26 rfl z24 (by decide) rfl) rfl ?_
           refine st_p (op_load1 Try.underlying24 rfl rfl rfl rfl rfl) rfl ?_
           refine st_p (op_len Try.underlying24 rfl) rfl ?_
           refine st_p (OpP.conv (op_lt rfl rfl) (no (by first | assumption | omega))) rfl ?_
           refine al_nil ?_
           refine nm ?_
           refine aw_no (rfl) ?_
           refine aw_exit ?_
           refine xs ?_
           refine xs ?_
           refine xb ?_
           refine nm ?_
           refine aw_seq ?_
           refine aw_region ?_
           refine st_p (op_fieldAddr Try.underlying26 rfl z3 (by decide) rfl) rfl ?_
           refine st_p (op_load1 Try.underlying3 rfl rfl rfl rfl rfl) rfl ?_
           refine st_p (OpP.conv (op_ge rfl rfl) (yes (by first | assumption | omega))) rfl ?_
           refine st_p (mv rfl) rfl ?_
           refine st_pg rfl rfl rfl (op_fieldAddr Try.underlying26 rfl z3 (by decide) rfl) rfl ?_
           refine st_pg rfl rfl rfl (op_load1 Try.underlying3 rfl rfl rfl rfl rfl) rfl ?_
           refine st_pg rfl rfl rfl (OpP.conv (op_le rfl rfl) (yes (by first | assumption | omega))) rfl ?_
           refine st_p (pkT rfl rfl) rfl ?_
           refine st_p (mv rfl) rfl ?_
           refine st_pg rfl rfl rfl (op_fieldAddr Try.underlying26 rfl z3 (by decide) rfl) rfl ?_
           refine st_pg rfl rfl rfl (op_load1 Try.underlying3 rfl rfl rfl rfl rfl) rfl ?_
           refine st_pg rfl rfl rfl (OpP.conv (op_ge rfl rfl) (yes (by first | assumption | omega))) rfl ?_
           refine st_p (pkT rfl rfl) rfl ?_
           refine st_p (mv rfl) rfl ?_
           refine st_pg rfl rfl rfl (op_fieldAddr Try.underlying26 rfl z3 (by decide) rfl) rfl ?_
           refine st_pg rfl rfl rfl (op_load1 Try.underlying3 rfl rfl rfl rfl rfl) rfl ?_
           refine st_pg rfl rfl rfl (OpP.conv (op_le rfl rfl) (yes (by first | assumption | omega))) rfl ?_
           refine st_p (pkT rfl rfl) rfl ?_
           refine st_p (mv rfl) rfl ?_
           refine st_pg rfl rfl rfl (mv rfl) rfl ?_
           refine st_pg rfl rfl rfl (op_leno Try.underlying71 rfl) rfl ?_
           refine st_pg rfl rfl rfl (OpP.conv (op_le rfl rfl) (yes (by first | assumption | omega))) rfl ?_
           refine st_p (pkT rfl rfl) rfl ?_
           refine st_p (mv rfl) rfl ?_
           refine st_pg rfl rfl rfl (mv rfl) rfl ?_
           refine st_pg rfl rfl rfl (op_leno Try.underlying71 rfl) rfl ?_
           refine st_pg rfl rfl rfl (OpP.conv (op_le rfl rfl) (no (by first | assumption | omega))) rfl ?_
           refine st_p (pkT rfl rfl) rfl ?_
           refine st_p (mv rfl) rfl ?_
           refine st_s rfl rfl rfl rfl rfl ?_
           refine st_s rfl rfl rfl rfl rfl ?_
           refine st_p (pkF rfl rfl) rfl ?_
           refine st_p (mv rfl) rfl ?_
           refine st_s rfl rfl rfl rfl rfl ?_
           refine st_s rfl rfl rfl rfl rfl ?_
           refine st_p (pkF rfl rfl) rfl ?_
           refine st_p (mva rfl) rfl ?_
           refine al_nil ?_
           refine nm ?_
           refine aw_ret ?_
           exact ret_a ⟨[(2, .bool false)], [], 0⟩ (le_to [] rfl rfl rfl rfl rfl ⟨rfl, trivial⟩ trivial) (res1 Try.results11) (.inr ⟨rfl, rfl⟩) ⟨by simp [mayTxB, tget, hall, hallw, c0, c1, c2, c3, c4, c5], rfl, rfl⟩
         ·skip
          refine aw_seq ?_
          refine aw_seq ?_
          refine aw_region ?_
          refine st_p (mv rfl) rfl ?_
          refine st_p (op_fieldAddr Try.underlying26 rfl z24 (by decide) rfl) rfl ?_
          refine st_p (op_load1 Try.underlying24 rfl rfl rfl rfl rfl) rfl ?_
          refine st_p (op_len Try.underlying24 rfl) rfl ?_
          refine st_p (OpP.conv (op_lt rfl rfl) (no (by first | assumption | omega))) rfl ?_
          refine al_nil ?_
          refine nm ?_
          refine aw_no (rfl) ?_
          refine aw_exit ?_
          refine xs ?_
          refine xs ?_
          refine xb ?_
          refine nm ?_
          refine aw_seq ?_
          refine aw_region ?_
          refine st_p (op_fieldAddr Try.underlying26 rfl z3 (by decide) rfl) rfl ?_
          refine st_p (op_load1 Try.underlying3 rfl rfl rfl rfl rfl) rfl ?_
          refine st_p (OpP.conv (op_ge rfl rfl) (yes (by first | assumption | omega))) rfl ?_
          refine st_p (mv rfl) rfl ?_
          refine st_pg rfl rfl rfl (op_fieldAddr Try.underlying26 rfl z3 (by decide) rfl) rfl ?_
          refine st_pg rfl rfl rfl (op_load1 Try.underlying3 rfl rfl rfl rfl rfl) rfl ?_
          refine st_pg rfl rfl rfl (OpP.conv (op_le rfl rfl) (yes (by first | assumption | omega))) rfl ?_
          refine st_p (pkT rfl rfl) rfl ?_
          refine st_p (mv rfl) rfl ?_
          refine st_pg rfl rfl rfl (op_fieldAddr Try.underlying26 rfl z3 (by decide) rfl) rfl ?_
          refine st_pg rfl rfl rfl (op_load1 Try.underlying3 rfl rfl rfl rfl rfl) rfl ?_
          refine st_pg rfl rfl rfl (OpP.conv (op_ge rfl rfl) (yes (by first | assumption | omega))) rfl ?_
          refine st_p (pkT rfl rfl) rfl ?_
          refine st_p (mv rfl) rfl ?_
          refine st_pg rfl rfl rfl (op_fieldAddr Try.underlying26 rfl z3 (by decide) rfl) rfl ?_
          refine st_pg rfl rfl rfl (op_load1 Try.underlying3 rfl rfl rfl rfl rfl) rfl ?_
          refine st_pg rfl rfl rfl (OpP.conv (op_le rfl rfl) (yes (by first | assumption | omega))) rfl ?_
          refine st_p (pkT rfl rfl) rfl ?_
          refine st_p (mv rfl) rfl ?_
          refine st_pg rfl rfl rfl (mv rfl) rfl ?_
          refine st_pg rfl rfl rfl (op_leno Try.underlying71 rfl) rfl ?_
          refine st_pg rfl rfl rfl (OpP.conv (op_le rfl rfl) (no (by first | assumption | omega))) rfl ?_
          refine st_p (pkT rfl rfl) rfl ?_
          refine st_p (mv rfl) rfl ?_
          refine st_s rfl rfl rfl rfl rfl ?_
          refine st_s rfl rfl rfl rfl rfl ?_
          refine st_s rfl rfl rfl rfl rfl ?_
          refine st_p (pkF rfl rfl) rfl ?_
          refine st_p (mv rfl) rfl ?_
          refine st_s rfl rfl rfl rfl rfl ?_
          refine st_s rfl rfl rfl rfl rfl ?_
          refine st_p (pkF rfl rfl) rfl ?_
          refine st_p (mv rfl) rfl ?_
          refine st_s rfl rfl rfl rfl rfl ?_
          refine st_s rfl rfl rfl rfl rfl ?_
          refine st_p (pkF rfl rfl) rfl ?_
          refine st_p (mva rfl) rfl ?_
          refine al_nil ?_
          refine nm ?_
          refine aw_ret ?_
          exact ret_a ⟨[(2, .bool false)], [], 0⟩ (le_to [] rfl rfl rfl rfl rfl ⟨rfl, trivial⟩ trivial) (res1 Try.results11) (.inr ⟨rfl, rfl⟩) ⟨by simp [mayTxB, tget, hall, hallw, c0, c1, c2, c3, c4], rfl, rfl⟩
        ·skip
         refine aw_seq ?_
         refine aw_seq ?_
         refine aw_region ?_
         refine st_p (mv rfl) rfl ?_
         refine st_p (op_fieldAddr Try.underlying26 rfl z24 (by decide) rfl) rfl ?_
         refine st_p (op_load1 Try.underlying24 rfl rfl rfl rfl rfl) rfl ?_
         refine st_p (op_len Try.underlying24 rfl) rfl ?_
         refine st_p (OpP.conv (op_lt rfl rfl) (no (by first | assumption | omega))) rfl ?_
         refine al_nil ?_
         refine nm ?_
         refine aw_no (rfl) ?_
         refine aw_exit ?_
         refine xs ?_
         refine xs ?_
         refine xb ?_
         refine nm ?_
         refine aw_seq ?_
         refine aw_region ?_
         refine st_p (op_fieldAddr Try.underlying26 rfl z3 (by decide) rfl) rfl ?_
         refine st_p (op_load1 Try.underlying3 rfl rfl rfl rfl rfl) rfl ?_
         refine st_p (OpP.conv (op_ge rfl rfl) (yes (by first | assumption | omega))) rfl ?_
         refine st_p (mv rfl) rfl ?_
         refine st_pg rfl rfl rfl (op_fieldAddr Try.underlying26 rfl z3 (by decide) rfl) rfl ?_
         refine st_pg rfl rfl rfl (op_load1 Try.underlying3 rfl rfl rfl rfl rfl) rfl ?_
         refine st_pg rfl rfl rfl (OpP.conv (op_le rfl rfl) (yes (by first | assumption | omega))) rfl ?_
         refine st_p (pkT rfl rfl) rfl ?_
         refine st_p (mv rfl) rfl ?_
         refine st_pg rfl rfl rfl (op_fieldAddr Try.underlying26 rfl z3 (by decide) rfl) rfl ?_
         refine st_pg rfl rfl rfl (op_load1 Try.underlying3 rfl rfl rfl rfl rfl) rfl ?_
         refine st_pg rfl rfl rfl (OpP.conv (op_ge rfl rfl) (yes (by first | assumption | omega))) rfl ?_
         refine st_p (pkT rfl rfl) rfl ?_
         refine st_p (mv rfl) rfl ?_
         refine st_pg rfl rfl rfl (op_fieldAddr Try.underlying26 rfl z3 (by decide) rfl) rfl ?_
         refine st_pg rfl rfl rfl (op_load1 Try.underlying3 rfl rfl rfl rfl rfl) rfl ?_
         refine st_pg rfl rfl rfl (OpP.conv (op_le rfl rfl) (no (by first | assumption | omega))) rfl ?_
         refine st_p (pkT rfl rfl) rfl ?_
         refine st_p (mv rfl) rfl ?_
         refine st_s rfl rfl rfl rfl rfl ?_
         refine st_s rfl rfl rfl rfl rfl ?_
         refine st_s rfl rfl rfl rfl rfl ?_
         refine st_p (pkF rfl rfl) rfl ?_
         refine st_p (mv rfl) rfl ?_
         refine st_s rfl rfl rfl rfl rfl ?_
         refine st_s rfl rfl rfl rfl rfl ?_
         refine st_s rfl rfl rfl rfl rfl ?_
         refine st_p (pkF rfl rfl) rfl ?_
         refine st_p (mv rfl) rfl ?_
         refine st_s rfl rfl rfl rfl rfl ?_
         refine st_s rfl rfl rfl rfl rfl ?_
         refine st_p (pkF rfl rfl) rfl ?_
         refine st_p (mv rfl) rfl ?_
         refine st_s rfl rfl rfl rfl rfl ?_
         refine st_s rfl rfl rfl rfl rfl ?_
         refine st_p (pkF rfl rfl) rfl ?_
         refine st_p (mva rfl) rfl ?_
         refine al_nil ?_
         refine nm ?_
         refine aw_ret ?_
         exact ret_a ⟨[(2, .bool false)], [], 0⟩ (le_to [] rfl rfl rfl rfl rfl ⟨rfl, trivial⟩ trivial) (res1 Try.results11) (.inr ⟨rfl, rfl⟩) ⟨by simp [mayTxB, tget, hall, hallw, c0, c1, c2, c3], rfl, rfl⟩
       ·skip
        refine aw_seq ?_
        refine aw_seq ?_
        refine aw_region ?_
        refine st_p (mv rfl) rfl ?_
        refine st_p (op_fieldAddr Try.underlying26 rfl z24 (by decide) rfl) rfl ?_
        refine st_p (op_load1 Try.underlying24 rfl rfl rfl rfl rfl) rfl ?_
        refine st_p (op_len Try.underlying24 rfl) rfl ?_
        refine st_p (OpP.conv (op_lt rfl rfl) (no (by first | assumption | omega))) rfl ?_
        refine al_nil ?_
        refine nm ?_
        refine aw_no (rfl) ?_
        refine aw_exit ?_
        refine xs ?_
        refine xs ?_
        refine xb ?_
        refine nm ?_
        refine aw_seq ?_
        refine aw_region ?_
        refine st_p (op_fieldAddr Try.underlying26 rfl z3 (by decide) rfl) rfl ?_
        refine st_p (op_load1 Try.underlying3 rfl rfl rfl rfl rfl) rfl ?_
        refine st_p (OpP.conv (op_ge rfl rfl) (yes (by first | assumption | omega))) rfl ?_
        refine st_p (mv rfl) rfl ?_
        refine st_pg rfl rfl rfl (op_fieldAddr Try.underlying26 rfl z3 (by decide) rfl) rfl ?_
        refine st_pg rfl rfl rfl (op_load1 Try.underlying3 rfl rfl rfl rfl rfl) rfl ?_
        refine st_pg rfl rfl rfl (OpP.conv (op_le rfl rfl) (yes (by first | assumption | omega))) rfl ?_
        refine st_p (pkT rfl rfl) rfl ?_
        refine st_p (mv rfl) rfl ?_
        refine st_pg rfl rfl rfl (op_fieldAddr Try.underlying26 rfl z3 (by decide) rfl) rfl ?_
        refine st_pg rfl rfl rfl (op_load1 Try.underlying3 rfl rfl rfl rfl rfl) rfl ?_
        refine st_pg rfl rfl rfl (OpP.conv (op_ge rfl rfl) (no (by first | assumption | omega))) rfl ?_
        refine st_p (pkT rfl rfl) rfl ?_
        refine st_p (mv rfl) rfl ?_
        refine st_s rfl rfl rfl rfl rfl ?_
        refine st_s rfl rfl rfl rfl rfl ?_
        refine st_s rfl rfl rfl rfl rfl ?_
        refine st_p (pkF rfl rfl) rfl ?_
        refine st_p (mv rfl) rfl ?_
        refine st_s rfl rfl rfl rfl rfl ?_
        refine st_s rfl rfl rfl rfl rfl ?_
        refine st_s rfl rfl rfl rfl rfl ?_
        refine st_p (pkF rfl rfl) rfl ?_
        refine st_p (mv rfl) rfl ?_
        refine st_s rfl rfl rfl rfl rfl ?_
        refine st_s rfl rfl rfl rfl rfl ?_
        refine st_s rfl rfl rfl rfl rfl ?_
        refine st_p (pkF rfl rfl) rfl ?_
        refine st_p (mv rfl) rfl ?_
        refine st_s rfl rfl rfl rfl rfl ?_
        refine st_s rfl rfl rfl rfl rfl ?_
        refine st_p (pkF rfl rfl) rfl ?_
        refine st_p (mv rfl) rfl ?_
        refine st_s rfl rfl rfl rfl rfl ?_
        refine st_s rfl rfl rfl rfl rfl ?_
        refine st_p (pkF rfl rfl) rfl ?_
        refine st_p (mva rfl) rfl ?_
        refine al_nil ?_
        refine nm ?_
        refine aw_ret ?_
        exact ret_a ⟨[(2, .bool false)], [], 0⟩ (le_to [] rfl rfl rfl rfl rfl ⟨rfl, trivial⟩ trivial) (res1 Try.results11) (.inr ⟨rfl, rfl⟩) ⟨by simp [mayTxB, tget, hall, hallw, c0, c1, c2], rfl, rfl⟩
      ·skip
       refine aw_seq ?_
       refine aw_seq ?_
       refine aw_region ?_
       refine st_p (mv rfl) rfl ?_
       refine st_p (op_fieldAddr Try.underlying26 rfl z24 (by decide) rfl) rfl ?_
       refine st_p (op_load1 Try.underlying24 rfl rfl rfl rfl rfl) rfl ?_
       refine st_p (op_len Try.underlying24 rfl) rfl ?_
       refine st_p (OpP.conv (op_lt rfl rfl) (no (by first | assumption | omega))) rfl ?_
       refine al_nil ?_
       refine nm ?_
       refine aw_no (rfl) ?_
       refine aw_exit ?_
       refine xs ?_
       refine xs ?_
       refine xb ?_
       refine nm ?_
       refine aw_seq ?_
       refine aw_region ?_
       refine st_p (op_fieldAddr Try.underlying26 rfl z3 (by decide) rfl) rfl ?_
       refine st_p (op_load1 Try.underlying3 rfl rfl rfl rfl rfl) rfl ?_
       refine st_p (OpP.conv (op_ge rfl rfl) (yes (by first | assumption | omega))) rfl ?_
       refine st_p (mv rfl) rfl ?_
       refine st_pg rfl rfl rfl (op_fieldAddr Try.underlying26 rfl z3 (by decide) rfl) rfl ?_
       refine st_pg rfl rfl rfl (op_load1 Try.underlying3 rfl rfl rfl rfl rfl) rfl ?_
       refine st_pg rfl rfl rfl (OpP.conv (op_le rfl rfl) (no (by first | assumption | omega))) rfl ?_
       refine st_p (pkT rfl rfl) rfl ?_
       refine st_p (mv rfl) rfl ?_
       refine st_s rfl rfl rfl rfl rfl ?_
       refine st_s rfl rfl rfl rfl rfl ?_
       refine st_s rfl rfl rfl rfl rfl ?_
       refine st_p (pkF rfl rfl) rfl ?_
       refine st_p (mv rfl) rfl ?_
       refine st_s rfl rfl rfl rfl rfl ?_
       refine st_s rfl rfl rfl rfl rfl ?_
       refine st_s rfl rfl rfl rfl rfl ?_
       refine st_p (pkF rfl rfl) rfl ?_
       refine st_p (mv rfl) rfl ?_
       refine st_s rfl rfl rfl rfl rfl ?_
       refine st_s rfl rfl rfl rfl rfl ?_
       refine st_s rfl rfl rfl rfl rfl ?_
       refine st_p (pkF rfl rfl) rfl ?_
       refine st_p (mv rfl) rfl ?_
       refine st_s rfl rfl rfl rfl rfl ?_
       refine st_s rfl rfl rfl rfl rfl ?_
       refine st_s rfl rfl rfl rfl rfl ?_
       refine st_p (pkF rfl rfl) rfl ?_
       refine st_p (mv rfl) rfl ?_
       refine st_s rfl rfl rfl rfl rfl ?_
       refine st_s rfl rfl rfl rfl rfl ?_
       refine st_p (pkF rfl rfl) rfl ?_
       refine st_p (mv rfl) rfl ?_
       refine st_s rfl rfl rfl rfl rfl ?_
       refine st_s rfl rfl rfl rfl rfl ?_
       refine st_p (pkF rfl rfl) rfl ?_
       refine st_p (mva rfl) rfl ?_
       refine al_nil ?_
       refine nm ?_
       refine aw_ret ?_
       exact ret_a ⟨[(2, .bool false)], [], 0⟩ (le_to [] rfl rfl rfl rfl rfl ⟨rfl, trivial⟩ trivial) (res1 Try.results11) (.inr ⟨rfl, rfl⟩) ⟨by simp [mayTxB, tget, hall, hallw, c0, c1], rfl, rfl⟩
     ·skip
      refine aw_seq ?_
      refine aw_seq ?_
      refine aw_region ?_
      refine st_p (mv rfl) rfl ?_
      refine st_p (op_fieldAddr Try.underlying26 rfl z24 (by decide) rfl) rfl ?_
      refine st_p (op_load1 Try.underlying24 rfl rfl rfl rfl rfl) rfl ?_
      refine st_p (op_len Try.underlying24 rfl) rfl ?_
      refine st_p (OpP.conv (op_lt rfl rfl) (no (by first | assumption | omega))) rfl ?_
      refine al_nil ?_
      refine nm ?_
      refine aw_no (rfl) ?_
      refine aw_exit ?_
      refine xs ?_
      refine xs ?_
      refine xb ?_
      refine nm ?_
      refine aw_seq ?_
      refine aw_region ?_
      refine st_p (op_fieldAddr Try.underlying26 rfl z3 (by decide) rfl) rfl ?_
      refine st_p (op_load1 Try.underlying3 rfl rfl rfl rfl rfl) rfl ?_
      refine st_p (OpP.conv (op_ge rfl rfl) (no (by first | assumption | omega))) rfl ?_
      refine st_p (mv rfl) rfl ?_
      refine st_s rfl rfl rfl rfl rfl ?_
      refine st_s rfl rfl rfl rfl rfl ?_
      refine st_s rfl rfl rfl rfl rfl ?_
      refine st_p (pkF rfl rfl) rfl ?_
      refine st_p (mv rfl) rfl ?_
      refine st_s rfl rfl rfl rfl rfl ?_
      refine st_s rfl rfl rfl rfl rfl ?_
      refine st_s rfl rfl rfl rfl rfl ?_
      refine st_p (pkF rfl rfl) rfl ?_
      refine st_p (mv rfl) rfl ?_
      refine st_s rfl rfl rfl rfl rfl ?_
      refine st_s rfl rfl rfl rfl rfl ?_
      refine st_s rfl rfl rfl rfl rfl ?_
      refine st_p (pkF rfl rfl) rfl ?_
      refine st_p (mv rfl) rfl ?_
      refine st_s rfl rfl rfl rfl rfl ?_
      refine st_s rfl rfl rfl rfl rfl ?_
      refine st_s rfl rfl rfl rfl rfl ?_
      refine st_p (pkF rfl rfl) rfl ?_
      refine st_p (mv rfl) rfl ?_
      refine st_s rfl rfl rfl rfl rfl ?_
      refine st_s rfl rfl rfl rfl rfl ?_
      refine st_s rfl rfl rfl rfl rfl ?_
      refine st_p (pkF rfl rfl) rfl ?_
      refine st_p (mv rfl) rfl ?_
      refine st_s rfl rfl rfl rfl rfl ?_
      refine st_s rfl rfl rfl rfl rfl ?_
      refine st_p (pkF rfl rfl) rfl ?_
      refine st_p (mv rfl) rfl ?_
      refine st_s rfl rfl rfl rfl rfl ?_
      refine st_s rfl rfl rfl rfl rfl ?_
      refine st_p (pkF rfl rfl) rfl ?_
      refine st_p (mva rfl) rfl ?_
      refine al_nil ?_
      refine nm ?_
      refine aw_ret ?_
      exact ret_a ⟨[(2, .bool false)], [], 0⟩ (le_to [] rfl rfl rfl rfl rfl ⟨rfl, trivial⟩ trivial) (res1 Try.results11) (.inr ⟨rfl, rfl⟩) ⟨by simp [mayTxB, tget, hall, hallw, c0], rfl, rfl⟩

end Go.Proofs.Ytpggknkhldecaaa.Abs
end
section
namespace Go.Proofs.Ytpggknkhldecaaa.Abs

theorem ref_PutTxn_yes (t : TX) (hm : mayTxB t = true) (hv : ∀ r ∈ t.reads, r.ver ≤ 9223372036854775807) (hr : t.reads.length ≤ 1000000) (hw : t.writes.length ≤ 1000000) (hkr : ∀ r ∈ t.reads, r.key.length ≤ 281474976710656) (hkw : ∀ w ∈ t.writes, w.key.length ≤ 281474976710656) :
  AC Try.prog 13 [txA t] [] 0 false (fun v h nx => v = .own 0 0 (putTx t).length ∧ h = [(0, .cells 1 (bl (putTx t)))] ∧ nx = 1) := by
 have hmay := ref_MayTxn t hr hw hkr hkw
 rw [hm] at hmay
 exact ref_PutTxn t hm hv hmay

theorem ref_PutTxn_no (t : TX) (hm : mayTxB t = false) (hr : t.reads.length ≤ 1000000) (hw : t.writes.length ≤ 1000000) (hkr : ∀ r ∈ t.reads, r.key.length ≤ 281474976710656) (hkw : ∀ w ∈ t.writes, w.key.length ≤ 281474976710656) :
  AC Try.prog 13 [txA t] [] 0 false (fun v h nx => v = .nils ∧ h = [] ∧ nx = 0) := by
 have hmay := ref_MayTxn t hr hw hkr hkw
 rw [hm] at hmay
 obtain ⟨ses, seq, ll, mm⟩ := t
 dsimp only [txA] at hmay ⊢
 refine ac_fn Try.func13 rfl rfl rfl rfl (fun w0 S0 r0 => ?_)
 refine aw_seq ?_
 refine aw_region ?_
 refine st_o (bx rfl rfl) rfl ?_
 refine st_p (mva rfl) rfl ?_
 refine al_nil ?_
 refine nm ?_
 refine aw_seq ?_
 refine aw_seq ?_
 refine aw_region ?_
 refine st_p (op_loadA Try.underlying26 rfl z26 rfl rfl rfl rfl) rfl ?_
 refine st_o ((op_callq (hmay) Try.func11 ⟨rfl, rfl⟩ rfl rfl (fun nx => (.cons (.same (by rfl)) .nil)) (by rintro _ _ _ ⟨rfl, rfl, rfl⟩; exact .same rfl)).ok) rfl ?_
 refine st_p (op_notF rfl) rfl ?_
 refine al_nil ?_
 refine nm ?_
 refine aw_yes (rfl) ?_
 refine aw_seq ?_
 refine aw_region ?_
 refine st_p (mva rfl) rfl ?_
 refine al_nil ?_
 refine nm ?_
 refine aw_ret ?_
 refine rs ?_
 exact ret_a ⟨[(2, .nils)], [], 0⟩ (le_to [] rfl rfl rfl rfl rfl ⟨rfl, trivial⟩ trivial) (res1 Try.results13) (.inr ⟨rfl, rfl⟩) ⟨rfl, rfl, rfl⟩

end Go.Proofs.Ytpggknkhldecaaa.Abs
end
section
namespace Go.Proofs.Ytpggknkhldecaaa.Abs

def touchB (t : TX) (s n : Int) : Bool := t.reads.any (fun r => decide (shardI r.key n = s)) || t.writes.any (fun w => decide (shardI w.key n = s))

theorem any_take {α : Type} {l : List α} {p : α → Bool} {i : Nat} {c : α} (hc : l[i]? = some c) : (l.take (i + 1)).any p = ((l.take i).any p || p c) := by
 rw [List.take_add_one, hc]
 simp

theorem ref_Touches (t : TX) (s n : Int) (hr : t.reads.length ≤ 1000000) (hw : t.writes.length ≤ 1000000) (hkr : ∀ r ∈ t.reads, r.key.length ≤ 281474976710656) (hkw : ∀ w ∈ t.writes, w.key.length ≤ 281474976710656) (hn : n ≤ 9223372036854775807) :
  AC Try.prog 19 [txA t, .int .i64 s, .int .i64 n] [] 0 false (fun v h nx => v = .bool (touchB t s n) ∧ h = [] ∧ nx = 0) := by
 obtain ⟨ses, seq, rl, wl⟩ := t
 dsimp only at hr hw hkr hkw
 dsimp only [txA]
 have hrl : (rl.map rdA).length = rl.length := List.length_map _
 have hwl : (wl.map wrA).length = wl.length := List.length_map _
 refine ac_fn Try.func19 rfl rfl rfl rfl (fun w0 S0 r0 => ?_)
 refine aw_seq ?_
 refine aw_region ?_
 refine st_o (bx rfl rfl) rfl ?_
 refine st_p (mva rfl) rfl ?_
 refine al_nil ?_
 refine nm ?_
 refine aw_seq ?_
 refine aw_seq ?_
 refine aw_region ?_
 refine st_p (mva rfl) rfl ?_
 refine al_nil ?_
 refine nm ?_
 refine aw_block ?_
 refine aw_loop (fun i : {i : Nat // i ≤ rl.length ∧ (rl.take i).any (fun r => decide (shardI r.key n = s)) = false} => ⟨[(1, .int .i64 s), (2, .int .i64 n), (3, .ptr 0 0 0), (7, .int .i64 i.1)], [(0, .cells 4 [.agg [.int .i64 ses, .int .i64 seq, .sl 4 (rl.map rdA), .sl 3 (wl.map wrA)]])], 1⟩) (fun i => rl.length - i.1) ⟨0, Nat.zero_le _, rfl⟩ ?_ ?_
 ·exact le_to [(0, 0)] rfl rfl rfl rfl rfl ⟨rfl, rfl, rfl, rfl, trivial⟩ ⟨rfl, trivial⟩
 ·rintro ⟨i, hi, hall⟩
  dsimp only
  by_cases hlt : i < rl.length
  ·obtain ⟨x, hx⟩ : ∃ x, rl[i]? = some x := ⟨_, List.getElem?_eq_getElem hlt⟩
   have hxb : (rl.map rdA)[((i : Nat) : Int).toNat]? = some (.agg [sb x.key, .int .i64 x.ver, sb x.val, .bool x.there]) := by rw [Int.toNat_natCast, List.getElem?_map, hx]; rfl
   have hxm : x ∈ rl := List.mem_of_getElem? hx
   have hstep := any_take (p := fun r : RD => decide (shardI r.key n = s)) hx
   have hsh := ref_ShardOf x.key n (hkr x hxm) hn
   by_cases hq : shardI x.key n = s
   ·have hT : touchB ⟨ses, seq, rl, wl⟩ s n = true := by
     have : rl.any (fun r => decide (shardI r.key n = s)) = true := List.any_eq_true.2 ⟨x, hxm, by simp [hq]⟩
     simp [touchB, this]
    refine aw_seq ?_
    refine aw_seq ?_
    refine aw_region ?_
    refine st_p (mv rfl) rfl ?_
    refine st_p (op_fieldAddr Try.underlying26 rfl z23 (by decide) rfl) rfl ?_
    refine st_p (op_load1 Try.underlying23 rfl rfl rfl rfl rfl) rfl ?_
    refine st_p (op_len Try.underlying23 rfl) rfl ?_
    refine st_p (OpP.conv (op_lt rfl rfl) (yes (by first | assumption | omega))) rfl ?_
    refine al_nil ?_
    refine nm ?_
    refine aw_yes (rfl) ?_
    refine aw_skip ?_
    refine nm ?_
    refine aw_seq ?_
    refine aw_block ?_
    refine aw_seq ?_
    refine aw_region ?_
    refine st_p (op_fieldAddr Try.underlying26 rfl z23 (by decide) rfl) rfl ?_
    refine st_p (op_load1 Try.underlying23 rfl rfl rfl rfl rfl) rfl ?_
    refine st_p (mv rfl) rfl ?_
    refine st_p (op_indexAddrL Try.underlying23 z67 rfl rfl (by omega) (by first | assumption | rfl)) rfl ?_
    refine st_p (op_fieldAddrL Try.underlying67 rfl z9 (by decide) rfl) rfl ?_
    refine st_p (op_load1L Try.underlying9 rfl rfl rfl) rfl ?_
    refine st_p (mv rfl) rfl ?_
    refine st_o ((op_callq (hsh) Try.func61 ⟨rfl, rfl⟩ rfl rfl (fun nx => (.cons (.same (by rfl)) (.cons (.same (by rfl)) .nil))) (by rintro _ _ _ ⟨rfl, rfl, rfl⟩; exact .same rfl)).ok) rfl ?_
    refine st_p (mv rfl) rfl ?_
    refine st_p (OpP.conv (op_eq rfl rfl) (yes (by first | assumption | omega))) rfl ?_
    refine al_nil ?_
    refine nm ?_
    refine aw_yes (rfl) ?_
    refine aw_seq ?_
    refine aw_region ?_
    refine st_p (mva rfl) rfl ?_
    refine al_nil ?_
    refine nm ?_
    refine aw_ret ?_
    refine rb ?_
    refine rs ?_
    refine rs ?_
    refine rb ?_
    refine rs ?_
    exact ret_a ⟨[(6, .bool true)], [], 0⟩ (le_to [] rfl rfl rfl rfl rfl ⟨rfl, trivial⟩ trivial) (res1 Try.results19) (.inr ⟨rfl, rfl⟩) ⟨by rw [hT]; rfl, rfl, rfl⟩
   ·skip
    refine aw_seq ?_
    refine aw_seq ?_
    refine aw_region ?_
    refine st_p (mv rfl) rfl ?_
    refine st_p (op_fieldAddr Try.underlying26 rfl z23 (by decide) rfl) rfl ?_
    refine st_p (op_load1 Try.underlying23 rfl rfl rfl rfl rfl) rfl ?_
    refine st_p (op_len Try.underlying23 rfl) rfl ?_
    refine st_p (OpP.conv (op_lt rfl rfl) (yes (by first | assumption | omega))) rfl ?_
    refine al_nil ?_
    refine nm ?_
    refine aw_yes (rfl) ?_
    refine aw_skip ?_
    refine nm ?_
    refine aw_seq ?_
    refine aw_block ?_
    refine aw_seq ?_
    refine aw_region ?_
    refine st_p (op_fieldAddr Try.underlying26 rfl z23 (by decide) rfl) rfl ?_
    refine st_p (op_load1 Try.underlying23 rfl rfl rfl rfl rfl) rfl ?_
    refine st_p (mv rfl) rfl ?_
    refine st_p (op_indexAddrL Try.underlying23 z67 rfl rfl (by omega) (by first | assumption | rfl)) rfl ?_
    refine st_p (op_fieldAddrL Try.underlying67 rfl z9 (by decide) rfl) rfl ?_
    refine st_p (op_load1L Try.underlying9 rfl rfl rfl) rfl ?_
    refine st_p (mv rfl) rfl ?_
    refine st_o ((op_callq (hsh) Try.func61 ⟨rfl, rfl⟩ rfl rfl (fun nx => (.cons (.same (by rfl)) (.cons (.same (by rfl)) .nil))) (by rintro _ _ _ ⟨rfl, rfl, rfl⟩; exact .same rfl)).ok) rfl ?_
    refine st_p (mv rfl) rfl ?_
    refine st_p (OpP.conv (op_eq rfl rfl) (no (by first | assumption | omega))) rfl ?_
    refine al_nil ?_
    refine nm ?_
    refine aw_no (rfl) ?_
    refine aw_skip ?_
    refine nmb ?_
    refine nm ?_
    refine aw_region ?_
    refine st_p (mv rfl) rfl ?_
    refine st_p (op_addi rfl rfl (by omega)) rfl ?_
    refine st_p (mva rfl) rfl ?_
    refine al_nil ?_
    refine nm ?_
    refine ⟨⟨i + 1, hlt, by rw [hstep, hall]; simp [hq]⟩, by dsimp only; omega, le_to [(0, 0)] rfl rfl rfl rfl rfl ⟨rfl, rfl, rfl, rfl, trivial⟩ ⟨rfl, trivial⟩⟩
  ·have e : rl.take i = rl := List.take_of_length_le (by omega)
   rw [e] at hall
   refine aw_seq ?_
   refine aw_seq ?_
   refine aw_region ?_
   refine st_p (mv rfl) rfl ?_
   refine st_p (op_fieldAddr Try.underlying26 rfl z23 (by decide) rfl) rfl ?_
   refine st_p (op_load1 Try.underlying23 rfl rfl rfl rfl rfl) rfl ?_
   refine st_p (op_len Try.underlying23 rfl) rfl ?_
   refine st_p (OpP.conv (op_lt rfl rfl) (no (by first | assumption | omega))) rfl ?_
   refine al_nil ?_
   refine nm ?_
   refine aw_no (rfl) ?_
   refine aw_exit ?_
   refine xs ?_
   refine xs ?_
   refine xb ?_
   refine nm ?_
   refine aw_seq ?_
   refine aw_seq ?_
   refine aw_region ?_
   refine st_p (mva rfl) rfl ?_
   refine al_nil ?_
   refine nm ?_
   refine aw_block ?_
   refine aw_loop (fun j : {j : Nat // j ≤ wl.length ∧ (wl.take j).any (fun w => decide (shardI w.key n = s)) = false} => ⟨[(1, .int .i64 s), (2, .int .i64 n), (3, .ptr 0 0 0), (8, .int .i64 j.1)], [(0, .cells 4 [.agg [.int .i64 ses, .int .i64 seq, .sl 4 (rl.map rdA), .sl 3 (wl.map wrA)]])], 1⟩) (fun j => wl.length - j.1) ⟨0, Nat.zero_le _, rfl⟩ ?_ ?_
   ·exact le_to [(0, 0)] rfl rfl rfl rfl rfl ⟨rfl, rfl, rfl, rfl, trivial⟩ ⟨rfl, trivial⟩
   ·rintro ⟨j, hj, hallw⟩
    dsimp only
    by_cases hjt : j < wl.length
    ·obtain ⟨x, hx⟩ : ∃ x, wl[j]? = some x := ⟨_, List.getElem?_eq_getElem hjt⟩
     have hxb : (wl.map wrA)[((j : Nat) : Int).toNat]? = some (.agg [sb x.key, sb x.val, .bool x.gone]) := by rw [Int.toNat_natCast, List.getElem?_map, hx]; rfl
     have hxm : x ∈ wl := List.mem_of_getElem? hx
     have hstep := any_take (p := fun w : WR => decide (shardI w.key n = s)) hx
     have hsh := ref_ShardOf x.key n (hkw x hxm) hn
     by_cases hq : shardI x.key n = s
     ·have hT : touchB ⟨ses, seq, rl, wl⟩ s n = true := by
       have : wl.any (fun w => decide (shardI w.key n = s)) = true := List.any_eq_true.2 ⟨x, hxm, by simp [hq]⟩
       simp [touchB, this]
      refine aw_seq ?_
      refine aw_seq ?_
      refine aw_region ?_
      refine st_p (mv rfl) rfl ?_
      refine st_p (op_fieldAddr Try.underlying26 rfl z24 (by decide) rfl) rfl ?_
      refine st_p (op_load1 Try.underlying24 rfl rfl rfl rfl rfl) rfl ?_
      refine st_p (op_len Try.underlying24 rfl) rfl ?_
      refine st_p (OpP.conv (op_lt rfl rfl) (yes (by first | assumption | omega))) rfl ?_
      refine al_nil ?_
      refine nm ?_
      refine aw_yes (rfl) ?_
      refine aw_skip ?_
      refine nm ?_
      refine aw_seq ?_
      refine aw_block ?_
      refine aw_seq ?_
      refine aw_region ?_
      refine st_p (op_fieldAddr Try.underlying26 rfl z24 (by decide) rfl) rfl ?_
      refine st_p (op_load1 Try.underlying24 rfl rfl rfl rfl rfl) rfl ?_
      refine st_p (mv rfl) rfl ?_
      refine st_p (op_indexAddrL Try.underlying24 z65 rfl rfl (by omega) (by first | assumption | rfl)) rfl ?_
      refine st_p (op_fieldAddrL Try.underlying65 rfl z9 (by decide) rfl) rfl ?_
      refine st_p (op_load1L Try.underlying9 rfl rfl rfl) rfl ?_
      refine st_p (mv rfl) rfl ?_
      refine st_o ((op_callq (hsh) Try.func61 ⟨rfl, rfl⟩ rfl rfl (fun nx => (.cons (.same (by rfl)) (.cons (.same (by rfl)) .nil))) (by rintro _ _ _ ⟨rfl, rfl, rfl⟩; exact .same rfl)).ok) rfl ?_
      refine st_p (mv rfl) rfl ?_
      refine st_p (OpP.conv (op_eq rfl rfl) (yes (by first | assumption | omega))) rfl ?_
      refine al_nil ?_
      refine nm ?_
      refine aw_yes (rfl) ?_
      refine aw_seq ?_
      refine aw_region ?_
      refine st_p (mva rfl) rfl ?_
      refine al_nil ?_
      refine nm ?_
      refine aw_ret ?_
      refine rb ?_
      refine rs ?_
      refine rs ?_
      refine rb ?_
      refine rs ?_
      exact ret_a ⟨[(6, .bool true)], [], 0⟩ (le_to [] rfl rfl rfl rfl rfl ⟨rfl, trivial⟩ trivial) (res1 Try.results19) (.inr ⟨rfl, rfl⟩) ⟨by rw [hT]; rfl, rfl, rfl⟩
     ·skip
      refine aw_seq ?_
      refine aw_seq ?_
      refine aw_region ?_
      refine st_p (mv rfl) rfl ?_
      refine st_p (op_fieldAddr Try.underlying26 rfl z24 (by decide) rfl) rfl ?_
      refine st_p (op_load1 Try.underlying24 rfl rfl rfl rfl rfl) rfl ?_
      refine st_p (op_len Try.underlying24 rfl) rfl ?_
      refine st_p (OpP.conv (op_lt rfl rfl) (yes (by first | assumption | omega))) rfl ?_
      refine al_nil ?_
      refine nm ?_
      refine aw_yes (rfl) ?_
      refine aw_skip ?_
      refine nm ?_
      refine aw_seq ?_
      refine aw_block ?_
      refine aw_seq ?_
      refine aw_region ?_
      refine st_p (op_fieldAddr Try.underlying26 rfl z24 (by decide) rfl) rfl ?_
      refine st_p (op_load1 Try.underlying24 rfl rfl rfl rfl rfl) rfl ?_
      refine st_p (mv rfl) rfl ?_
      refine st_p (op_indexAddrL Try.underlying24 z65 rfl rfl (by omega) (by first | assumption | rfl)) rfl ?_
      refine st_p (op_fieldAddrL Try.underlying65 rfl z9 (by decide) rfl) rfl ?_
      refine st_p (op_load1L Try.underlying9 rfl rfl rfl) rfl ?_
      refine st_p (mv rfl) rfl ?_
      refine st_o ((op_callq (hsh) Try.func61 ⟨rfl, rfl⟩ rfl rfl (fun nx => (.cons (.same (by rfl)) (.cons (.same (by rfl)) .nil))) (by rintro _ _ _ ⟨rfl, rfl, rfl⟩; exact .same rfl)).ok) rfl ?_
      refine st_p (mv rfl) rfl ?_
      refine st_p (OpP.conv (op_eq rfl rfl) (no (by first | assumption | omega))) rfl ?_
      refine al_nil ?_
      refine nm ?_
      refine aw_no (rfl) ?_
      refine aw_skip ?_
      refine nmb ?_
      refine nm ?_
      refine aw_region ?_
      refine st_p (mv rfl) rfl ?_
      refine st_p (op_addi rfl rfl (by omega)) rfl ?_
      refine st_p (mva rfl) rfl ?_
      refine al_nil ?_
      refine nm ?_
      refine ⟨⟨j + 1, hjt, by rw [hstep, hallw]; simp [hq]⟩, by dsimp only; omega, le_to [(0, 0)] rfl rfl rfl rfl rfl ⟨rfl, rfl, rfl, rfl, trivial⟩ ⟨rfl, trivial⟩⟩
    ·have e2 : wl.take j = wl := List.take_of_length_le (by omega)
     rw [e2] at hallw
     refine aw_seq ?_
     refine aw_seq ?_
     refine aw_region ?_
     refine st_p (mv rfl) rfl ?_
     refine st_p (op_fieldAddr Try.underlying26 rfl z24 (by decide) rfl) rfl ?_
     refine st_p (op_load1 Try.underlying24 rfl rfl rfl rfl rfl) rfl ?_
     refine st_p (op_len Try.underlying24 rfl) rfl ?_
     refine st_p (OpP.conv (op_lt rfl rfl) (no (by first | assumption | omega))) rfl ?_
     refine al_nil ?_
     refine nm ?_
     refine aw_no (rfl) ?_
     refine aw_exit ?_
     refine xs ?_
     refine xs ?_
     refine xb ?_
     refine nm ?_
     refine aw_seq ?_
     refine aw_region ?_
     refine st_p (mva rfl) rfl ?_
     refine al_nil ?_
     refine nm ?_
     refine aw_ret ?_
     exact ret_a ⟨[(6, .bool false)], [], 0⟩ (le_to [] rfl rfl rfl rfl rfl ⟨rfl, trivial⟩ trivial) (res1 Try.results19) (.inr ⟨rfl, rfl⟩) ⟨by simp only [touchB, hall, hallw]; rfl, rfl, rfl⟩

end Go.Proofs.Ytpggknkhldecaaa.Abs
end
section
namespace Go.Proofs.Ytpggknkhldecaaa.Abs

def hgetF : Heap → Nat → Option Blk
 | [], _ => none
 | (i, b) :: t, j => match Nat.beq i j with
  | true => some b
  | false => hgetF t j

mutual
def nmA (m : Nat) : AV → List Nat → List Nat
 | .ptr b _ _, acc => match Nat.ble m b with
  | true => b :: acc
  | false => acc
 | .own b _ _, acc => match Nat.ble m b with
  | true => b :: acc
  | false => acc
 | .ownz b _, acc => match Nat.ble m b with
  | true => b :: acc
  | false => acc
 | .omap b, acc => match Nat.ble m b with
  | true => b :: acc
  | false => acc
 | .fn _ xs ys, acc => nmL m xs (nmL m ys acc)
 | .ifc _ v, acc => nmA m v acc
 | .agg xs, acc => nmL m xs acc
 | .tup xs, acc => nmL m xs acc
 | _, acc => acc
def nmL (m : Nat) : List AV → List Nat → List Nat
 | [], acc => acc
 | x :: xs, acc => nmL m xs (nmA m x acc)
end

def memF : List Nat → Nat → Bool
 | [], _ => false
 | i :: t, j => match Nat.beq i j with
  | true => true
  | false => memF t j

def bytesOf : List AV → Option (List UInt8)
 | [] => some []
 | .int .u8 n :: t => match n, bytesOf t with
  | .ofNat m, some r => if Nat.blt m 256 then some (UInt8.ofNat m :: r) else none
  | _, _ => none
 | _ :: _ => none

def eqFA (P : Program) : List Field → List AV → List AV → Option Bool
 | [], _, _ => some true
 | f :: fs, xs, ys => if f.name = "_" then none else match P.underlying f.type, xs[f.offset]?, ys[f.offset]? with
  | some (.int _), some (.int k m), some (.int k' m') => if k = k' then (if m = m' then eqFA P fs xs ys else some false) else none
  | some .bool, some (.bool p), some (.bool q) => if p == q then eqFA P fs xs ys else some false
  | some .string, some (.str s), some (.str s') => if s.data.toList = s'.data.toList then eqFA P fs xs ys else some false
  | _, _, _ => none

abbrev CF := FuncId → List AV → Heap → Nat → Option (AV × Heap × Nat)

mutual
def lend1 (h : Heap) : AV → Option (Bool × AV)
 | .own b st len => match hgetF h b with
  | some (.cells sz xs) => if Nat.ble (st + len) xs.length && xs.all AV.plain then some (true, .sl sz ((xs.drop st).take len)) else none
  | _ => none
 | .agg xs => match lends h xs with
  | some (u, ys) => some (u, .agg ys)
  | none => none
 | v => if v.plain then some (false, v) else none
def lends (h : Heap) : List AV → Option (Bool × List AV)
 | [] => some (false, [])
 | x :: xs => match lend1 h x, lends h xs with
  | some (u, y), some (u', ys) => some (u || u', y :: ys)
  | _, _ => none
end

mutual
def frz1 (h : Heap) : AV → Option AV
 | .own b st len => match hgetF h b with
  | some (.cells sz xs) => if Nat.ble (st + len) xs.length && xs.all AV.plain then some (.sl sz ((xs.drop st).take len)) else none
  | _ => none
 | .agg xs => match frz2 h xs with
  | some ys => some (.agg ys)
  | none => none
 | .tup xs => match frz2 h xs with
  | some ys => some (.tup ys)
  | none => none
 | v => if v.plain then some v else none
def frz2 (h : Heap) : List AV → Option (List AV)
 | [] => some []
 | x :: xs => match frz1 h x, frz2 h xs with
  | some y, some ys => some (y :: ys)
  | _, _ => none
end

mutual
def avEq : AV → AV → Bool
 | .top, .top => true
 | .bool a, .bool b => a == b
 | .int k n, .int k' n' => k == k' && n == n'
 | .str s, .str s' => s.data.toList == s'.data.toList
 | .nilp, .nilp => true
 | .ptr b i o, .ptr b' i' o' => Nat.beq b b' && Nat.beq i i' && Nat.beq o o'
 | .lp cs, .lp cs' => avsEq cs cs'
 | .nils, .nils => true
 | .sl sz xs, .sl sz' xs' => Nat.beq sz sz' && avsEq xs xs'
 | .own b st len, .own b' st' len' => Nat.beq b b' && Nat.beq st st' && Nat.beq len len'
 | .nilm, .nilm => true
 | .omap b, .omap b' => Nat.beq b b'
 | .fn f xs ys, .fn f' xs' ys' => decide (f = f') && avsEq xs xs' && avsEq ys ys'
 | .nilf, .nilf => true
 | .nili, .nili => true
 | .agg xs, .agg xs' => avsEq xs xs'
 | .tup xs, .tup xs' => avsEq xs xs'
 | _, _ => false
def avsEq : List AV → List AV → Bool
 | [], [] => true
 | x :: xs, y :: ys => avEq x y && avsEq xs ys
 | _, _ => false
end

structure PL where
 its : List (Nat × List Nat)
 sp : List (List Nat × Nat × Nat)
 tp : List Nat
 dn : List (List Nat)
 un : List (List Nat)
 ex : List (Nat × Nat × Nat)
 m : Nat

structure IV where
 v : AV
 ef : Bool
 tm : List (Nat × AV)

structure Cfg where
 pl : Nat → Nat → Option PL
 wrap : CF → CF

def dom : List (Nat × AV) → List Nat → List Nat
 | [], acc => acc
 | (i, _) :: t, acc => match memF acc i with
  | true => dom t acc
  | false => dom t (i :: acc)

structure EN where
 f : FuncId
 args : List AV
 r : AV
 h : Heap
 nx : Nat

end Go.Proofs.Ytpggknkhldecaaa.Abs
end
section
namespace Go.Proofs.Ytpggknkhldecaaa.Abs

section
variable {P : Program} {tm : List (Nat × AV)} {h : Heap} {nx : Nat} {v : AV}

theorem run_part1 {t : TypeId} {d : TypeDesc} (hu : P.underlying t = some d) (hd : isAggD d = false) {cs : Array Value} {off : Nat} {u : Value} (hc : cs[off]? = some u) (w : World) : (Go.part t cs off).run P w = .ok u w := by
 unfold Go.part
 simp only [Sem.run_bind, run_isAgg hu, Result.andThen_ok, hd, Bool.false_eq_true, if_false, hc, Sem.run_pure]

theorem eqFA_ok {S : Nat → Prop} {w : World} {ρ : Rho} {aa bs : List AV} {xs ys : Array Value} (hx : VR S w ρ (.agg aa) (.agg xs)) (hy : VR S w ρ (.agg bs) (.agg ys)) (d : Nat) :
  ∀ (fs : List Field) (r : Bool), eqFA P fs aa bs = some r → (Op.eqFields (d + 1) xs ys fs).run P w = .ok r w := by
 have get : ∀ {cs : List AV} {zs : Array Value}, VR S w ρ (.agg cs) (.agg zs) → ∀ (i : Nat) (x : AV), cs[i]? = some x → ∃ u, zs[i]? = some u ∧ VR S w ρ x u := fun {cs zs} h i x hi => by
  cases h with
  | agg vs h1 h2 =>
   have hlt : i < zs.size := by rw [← h1]; exact (List.getElem?_eq_some_iff.1 hi).1
   exact ⟨zs[i], by simp [hlt], h2 i x _ hi (by simp [hlt])⟩
 intro fs
 induction fs with
 | nil => intro r h; simp only [eqFA, Option.some.injEq] at h; subst h; simp [Op.eqFields]
 | cons f fs ih =>
  intro r h
  simp only [eqFA] at h
  split at h
  ·cases h
  ·rename_i hn
   split at h
   ·rename_i k0 k m k' m' hu e1 e2
    obtain ⟨u, hu1, hu2⟩ := get hx _ _ e1
    obtain ⟨u', hv1, hv2⟩ := get hy _ _ e2
    obtain rfl := hu2.int_inv
    obtain rfl := hv2.int_inv
    split at h
    ·rename_i hk
     subst hk
     simp only [Op.eqFields, hn, ne_eq, not_false_eq_true, if_true, Sem.run_bind, run_part1 hu rfl hu1, run_part1 hu rfl hv1, Result.andThen_ok, run_equalIn_int w d f.type k k0 m m' hu]
     split at h
     ·rename_i hm
      subst hm
      simp only [BEq.rfl, Bool.not_true, Bool.false_eq_true, if_false]
      exact ih r h
     ·rename_i hm
      obtain rfl := Option.some.inj h
      have : (m == m') = false := by simpa using hm
      simp [this]
    ·cases h
   ·rename_i p q hu e1 e2
    obtain ⟨u, hu1, hu2⟩ := get hx _ _ e1
    obtain ⟨u', hv1, hv2⟩ := get hy _ _ e2
    obtain rfl := hu2.bool_inv
    obtain rfl := hv2.bool_inv
    simp only [Op.eqFields, hn, ne_eq, not_false_eq_true, if_true, Sem.run_bind, run_part1 hu rfl hu1, run_part1 hu rfl hv1, Result.andThen_ok, run_equalIn_bool' w d f.type p q hu]
    split at h
    ·rename_i hm
     simp only [hm, Bool.not_true, Bool.false_eq_true, if_false]
     exact ih r h
    ·rename_i hm
     obtain rfl := Option.some.inj h
     simp [hm]
   ·rename_i z z' hu e1 e2
    obtain ⟨u, hu1, hu2⟩ := get hx _ _ e1
    obtain ⟨u', hv1, hv2⟩ := get hy _ _ e2
    obtain rfl := hu2.str_inv
    obtain rfl := hv2.str_inv
    have tl : ∀ z : ByteArray, z.toList = z.data.toList := fun z => toList_mk z.data.toList
    simp only [Op.eqFields, hn, ne_eq, not_false_eq_true, if_true, Sem.run_bind, run_part1 hu rfl hu1, run_part1 hu rfl hv1, Result.andThen_ok, run_equalIn_string w d f.type z z' hu, tl]
    split at h
    ·rename_i hm
     simp only [hm, BEq.rfl, Bool.not_true, Bool.false_eq_true, if_false]
     exact ih r h
    ·rename_i hm
     obtain rfl := Option.some.inj h
     have : (z.data.toList == z'.data.toList) = false := by simpa using hm
     simp [this]
   ·cases h

theorem VR.agg_inv {S : Nat → Prop} {w : World} {ρ : Rho} {xs : List AV} {v : Value} (h : VR S w ρ (.agg xs) v) : ∃ vs, v = .agg vs := by
 cases h with
 | agg vs _ _ => exact ⟨vs, rfl⟩

theorem op_eqA {t t' : TypeId} {x y : Operand} {fs : Array Field} {aa bs : List AV} {r : Bool} (hu : P.underlying t = some (.struct fs)) (hs : P.stoodInHeld t = false) (hg : P.eqGuardType P.depth t = false) (hx : oev tm x = .agg aa) (hy : oev tm y = .agg bs) (he : eqFA P fs.toList aa bs = some r) :
  OpP P (.binOp .eql t x y t') tm h (.bool r) ∧ OpP P (.binOp .neq t x y t') tm h (.bool (!r)) := by
 have hf : P.fieldsOf t = fs := by unfold Program.fieldsOf; rw [hu]
 have key : ∀ (c : Ctx) (n nx : Nat) (ρ : Rho) (S : Nat → Prop) (a : Act) (w : World), Rep c n ⟨tm, h, nx⟩ ρ S a w → ∃ xs ys, a.eval x = .agg xs ∧ a.eval y = .agg ys ∧ (Op.equalIn 10000 t (.agg xs) (.agg ys)).run P w = .ok r w := fun c n nx ρ S a w hr => by
  have hxv := ev_vr hr hx
  have hyv := ev_vr hr hy
  obtain ⟨xs, e1⟩ := hxv.agg_inv
  obtain ⟨ys, e2⟩ := hyv.agg_inv
  rw [e1] at hxv
  rw [e2] at hyv
  refine ⟨xs, ys, e1, e2, ?_⟩
  rw [run_equalIn_agg w 9999 t xs ys (by rw [hf]; exact hu) hs, hf]
  exact eqFA_ok hxv hyv 9998 _ _ he
 refine ⟨fun c n nx ρ S a w hr => ?_, fun c n nx ρ S a w hr => ?_⟩
 ·obtain ⟨xs, ys, e1, e2, e3⟩ := key c n nx ρ S a w hr
  refine ⟨.bool r, fun o ho => ?_, .bool⟩
  unfold execOp; rw [ho]
  simp only [e1, e2, Sem.run_bind, run_eqGuard_agg w .eql t x y xs ys hg, Result.andThen_ok, run_eql_struct, e3, Sem.run_pure]
 ·obtain ⟨xs, ys, e1, e2, e3⟩ := key c n nx ρ S a w hr
  refine ⟨.bool (!r), fun o ho => ?_, .bool⟩
  unfold execOp; rw [ho]
  simp only [e1, e2, Sem.run_bind, run_eqGuard_agg w .neq t x y xs ys hg, Result.andThen_ok, run_neq_struct, e3, Sem.run_pure]

theorem op_clear {t e : TypeId} {x : Operand} {z : Value} {sz bytes b st len : Nat} {xs : List AV} {h' : Heap} (hu : P.underlying t = some (.slice e)) (hi : (P.info? e).map (fun i => (i.zero, i.size, i.bytes)) = some (some z, sz, bytes)) (hzs : z.cells.size = sz ∧ ∀ (i : Nat) (u : Value), z.cells[i]? = some u → u.oneCell' = true)
  (hx : oev tm x = .own b st (len + 1)) (hb : hget h b = some (.cells sz xs)) (hst : st ≤ xs.length) (hh : hset h b (.cells sz (xs.take st)) = h') :
  OpOK P (.call { callee := .builtin .clear, args := #[x], argTypes := #[t] }) ⟨tm, h, nx⟩ (.tup []) h' nx := OpOK.of fun c n ρ S a w hr => by
 obtain ⟨inf, e1, e2⟩ := Option.map_eq_some_iff.1 hi
 obtain ⟨e3, e4, e5⟩ : inf.zero = some z ∧ inf.size = sz ∧ inf.bytes = bytes := by
  have := e2; simp only [Prod.mk.injEq] at this; exact this
 have hv := ev_vr hr hx
 generalize hev : a.eval x = u at hv
 cases hv with
 | @own _ _ _ _ r cp q1 q2 q3 =>
 obtain ⟨g1, g2, g3⟩ := blk_of hr hb q1
 obtain ⟨k1, k2, k3, k4, cur, el, k5, k6, k7, k8⟩ := g3
 have hzl : (Builtin.zeroCells z.cells (len + 1)).toList.length = (len + 1) * sz := by rw [Array.length_toList, size_zeroCells, hzs.1]
 have hle : (st + (len + 1)) * sz ≤ r.cap * sz := Nat.mul_le_mul_right _ (by omega)
 rw [Nat.add_mul] at hle
 have hstc := run_storeCells_at P r.blk (st * r.sz) el (Builtin.zeroCells z.cells (len + 1)).toList 0 cur w k5 (by rw [hzl, k1, k6]; omega) (fun u hu => by
  obtain ⟨j, hj⟩ := List.getElem?_of_mem hu
  rw [Array.getElem?_toList] at hj
  exact zeroCells_one hzs.2 hj)
 rw [Nat.add_zero, hzl, k1] at hstc
 generalize hcs : (cur.toList.take (st * sz) ++ (Builtin.zeroCells z.cells (len + 1)).toList ++ cur.toList.drop (st * sz + (len + 1) * sz)).toArray = cs at hstc
 have hrep := hr.write hb q1 (cs := cs) k5 sz (xs.take st) k1 (fun x hx => k2 x (List.mem_of_mem_take hx)) (by rw [List.length_take]; omega) k4 (by
   rw [← hcs, List.size_toArray, List.length_append, List.length_append, List.length_take, List.length_drop, Array.length_toList, hzl]; omega) (fun j u hu => by
   rw [← hcs, List.getElem?_toArray] at hu
   have hm := List.mem_of_getElem? hu
   simp only [List.mem_append] at hm
   rcases hm with (hm | hm) | hm
   ·obtain ⟨i, hi⟩ := List.getElem?_of_mem (List.mem_of_mem_take hm); rw [Array.getElem?_toList] at hi; exact k7 i u hi
   ·obtain ⟨i, hi⟩ := List.getElem?_of_mem hm; rw [Array.getElem?_toList] at hi; exact zeroCells_one hzs.2 hi
   ·obtain ⟨i, hi⟩ := List.getElem?_of_mem (List.mem_of_mem_drop hm); rw [Array.getElem?_toList] at hi; exact k7 i u hi) (fun j y u hy hu => by
   have hfl : (flat (xs.take st)).length = st * sz := by rw [flat_len (fun x hx => k2 x (List.mem_of_mem_take hx)), List.length_take, Nat.min_eq_left hst]
   have hj : j < st * sz := by rw [← hfl]; exact (List.getElem?_eq_some_iff.1 hy).1
   rw [← hcs, List.getElem?_toArray, List.append_assoc, List.getElem?_append_left (by rw [List.length_take, Array.length_toList]; omega), List.getElem?_take_of_lt hj, Array.getElem?_toList] at hu
   refine k8 j y u ?_ hu
   have e : flat xs = flat (xs.take st) ++ flat (xs.drop st) := by rw [← flat_append, List.take_append_drop]
   rw [e, List.getElem?_append_left (by rw [hfl]; exact hj)]
   exact hy)
 rw [hh] at hrep
 refine ⟨_, .tuple #[], w.setRow r.blk cs, ρ, S, fun o ho => ?_, .inl rfl, hrep, .tup #[] rfl (fun i x u hx _ => by simp at hx), fun _ _ h => h, fun k hk => ⟨hk, setRow_other w r.blk k cs (fun e => g1 (e ▸ hk))⟩⟩
 unfold execOp; rw [ho]
 have hz0 : (zeroValue e).run P w = .ok z w := by simp [zeroValue, typeInfo, e1, e3]
 simp only [resolve, invoke, builtin, Sem.run_bind, Sem.run_pure, Result.andThen_ok, List.map_toArray, List.map_cons, List.map_nil, hev]
 simp [Builtin.clear_, run_underlying hu, hz0, k1, hstc]

end
end Go.Proofs.Ytpggknkhldecaaa.Abs
end
section
namespace Go.Proofs.Ytpggknkhldecaaa.Abs

def sameRd (x y : RD) : Bool := decide (x.key = y.key) && (decide (x.ver = y.ver) && (decide (x.val = y.val) && (x.there == y.there)))
def sameWr (x y : WR) : Bool := decide (x.key = y.key) && (decide (x.val = y.val) && (x.gone == y.gone))

theorem sameRd_iff (x y : RD) : sameRd x y = true ↔ x = y := by
 obtain ⟨a, b, c, d⟩ := x
 obtain ⟨a', b', c', d'⟩ := y
 simp [sameRd]
theorem sameWr_iff (x y : WR) : sameWr x y = true ↔ x = y := by
 obtain ⟨a, b, c⟩ := x
 obtain ⟨a', b', c'⟩ := y
 simp [sameWr]

theorem eq_rd (x y : RD) {fs : Array Field} (hu : Try.prog.underlying 67 = some (.struct fs)) :
  eqFA Try.prog fs.toList [sb x.key, .int .i64 x.ver, sb x.val, .bool x.there] [sb y.key, .int .i64 y.ver, sb y.val, .bool y.there] = some (sameRd x y) := by
 rw [Try.underlying67] at hu
 obtain rfl := TypeDesc.struct.inj (Option.some.inj hu)
 simp only [eqFA, Try.underlying9, Try.underlying3, Try.underlying4]
 obtain ⟨a, b, c, d⟩ := x
 obtain ⟨a', b', c', d'⟩ := y
 by_cases h1 : a = a' <;> by_cases h2 : b = b' <;> by_cases h3 : c = c' <;> cases d <;> cases d' <;> simp [sameRd, h1, h2, h3]

theorem eq_wr (x y : WR) {fs : Array Field} (hu : Try.prog.underlying 65 = some (.struct fs)) :
  eqFA Try.prog fs.toList [sb x.key, sb x.val, .bool x.gone] [sb y.key, sb y.val, .bool y.gone] = some (sameWr x y) := by
 rw [Try.underlying65] at hu
 obtain rfl := TypeDesc.struct.inj (Option.some.inj hu)
 simp only [eqFA, Try.underlying9, Try.underlying4]
 obtain ⟨a, c, d⟩ := x
 obtain ⟨a', c', d'⟩ := y
 by_cases h1 : a = a' <;> by_cases h3 : c = c' <;> cases d <;> cases d' <;> simp [sameWr, h1, h3]

def eqRds (a b : List RD) : Bool := decide (a.length = b.length) && (a.zip b).all fun p => sameRd p.1 p.2

theorem zip_get {α β : Type} {a : List α} {b : List β} {i : Nat} {x : α} {y : β} (hx : a[i]? = some x) (hy : b[i]? = some y) : (a.zip b)[i]? = some (x, y) := by
 rw [List.getElem?_zip_eq_some]
 exact ⟨hx, hy⟩

set_option maxRecDepth 100000 in
theorem ref_SameReads (a b : List RD) (ha : a.length ≤ 1000000) (hb : b.length ≤ 1000000) :
  AC Try.prog 57 [.sl 4 (a.map rdA), .sl 4 (b.map rdA)] [] 0 false (fun v h nx => v = .bool (eqRds a b) ∧ h = [] ∧ nx = 0) := by
 have hal : (a.map rdA).length = a.length := List.length_map _
 have hbl : (b.map rdA).length = b.length := List.length_map _
 have hA : ∀ (i : Nat) (x : RD), a[i]? = some x → (a.map rdA)[((i : Nat) : Int).toNat]? = some (.agg [sb x.key, .int .i64 x.ver, sb x.val, .bool x.there]) := fun i x hx => by rw [Int.toNat_natCast, List.getElem?_map, hx]; rfl
 have hB : ∀ (i : Nat) (x : RD), b[i]? = some x → (b.map rdA)[((i : Nat) : Int).toNat]? = some (.agg [sb x.key, .int .i64 x.ver, sb x.val, .bool x.there]) := fun i x hx => by rw [Int.toNat_natCast, List.getElem?_map, hx]; rfl
 generalize a.map rdA = A at hal hA ⊢
 generalize b.map rdA = B at hbl hB ⊢
 by_cases hl : a.length = b.length
 ·skip
  refine ac_fn Try.func57 rfl rfl rfl rfl (fun w0 S0 r0 => ?_)
  refine aw_seq ?_
  refine aw_region ?_
  refine st_p (mva rfl) rfl ?_
  refine al_nil ?_
  refine nm ?_
  refine aw_seq ?_
  refine aw_seq ?_
  refine aw_region ?_
  refine st_p (mv rfl) rfl ?_
  refine st_p (op_len Try.underlying23 rfl) rfl ?_
  refine st_p (mv rfl) rfl ?_
  refine st_p (op_len Try.underlying23 rfl) rfl ?_
  refine st_p (OpP.conv (op_ne rfl rfl) (no (by first | assumption | omega))) rfl ?_
  refine al_nil ?_
  refine nm ?_
  refine aw_no (rfl) ?_
  refine aw_skip ?_
  refine nm ?_
  refine aw_seq ?_
  refine aw_seq ?_
  refine aw_region ?_
  refine st_p (mva rfl) rfl ?_
  refine al_nil ?_
  refine nm ?_
  refine aw_block ?_
  refine aw_loop (fun i : {i : Nat // i ≤ a.length ∧ ((a.zip b).take i).all (fun p => sameRd p.1 p.2) = true} => ⟨[(0, .sl 4 A), (1, .sl 4 B), (5, .int .i64 i.1)], [], 0⟩) (fun i => a.length - i.1) ⟨0, Nat.zero_le _, rfl⟩ ?_ ?_
  ·exact le_to [] rfl rfl rfl rfl rfl ⟨rfl, rfl, rfl, trivial⟩ trivial
  ·rintro ⟨i, hi, hall⟩
   dsimp only
   by_cases hlt : i < a.length
   ·obtain ⟨x, hx⟩ : ∃ x, a[i]? = some x := ⟨_, List.getElem?_eq_getElem hlt⟩
    obtain ⟨y, hy⟩ : ∃ y, b[i]? = some y := ⟨_, List.getElem?_eq_getElem (by omega)⟩
    have hxb := hA i x hx
    have hyb := hB i y hy
    have hz := zip_get hx hy
    have hstep : ((a.zip b).take (i + 1)).all (fun p => sameRd p.1 p.2) = (((a.zip b).take i).all (fun p => sameRd p.1 p.2) && sameRd x y) := all_take (p := fun p : RD × RD => sameRd p.1 p.2) hz
    have hE := eq_rd x y Try.underlying67
    have hmem := List.mem_of_getElem? hz
    clear hz
    cases hs : sameRd x y with
    | true =>
     rw [hs] at hE hstep
     refine aw_seq ?_
     refine aw_seq ?_
     refine aw_region ?_
     refine st_p (mv rfl) rfl ?_
     refine st_p (mv rfl) rfl ?_
     refine st_p (op_len Try.underlying23 rfl) rfl ?_
     refine st_p (OpP.conv (op_lt rfl rfl) (yes (by first | assumption | omega))) rfl ?_
     refine al_nil ?_
     refine nm ?_
     refine aw_yes (rfl) ?_
     refine aw_skip ?_
     refine nm ?_
     refine aw_seq ?_
     refine aw_block ?_
     refine aw_seq ?_
     refine dr_go ?_
     refine dr_f 0 0 [0] rfl (fun H => mv rfl) ?_
     refine dr_f 0 0 [5] rfl (fun H => mv rfl) ?_
     refine dr_q 0 0 [17, 18] rfl (op_indexAddrL Try.underlying23 z67 rfl rfl (by omega) (by first | assumption | rfl)) ?_
     refine dr_q 0 0 [19] rfl (op_loadAL Try.underlying67 rfl z67 rfl rfl) ?_
     refine dr_f 0 0 [1] rfl (fun H => mv rfl) ?_
     refine dr_f 0 0 [5] rfl (fun H => mv rfl) ?_
     refine dr_q 0 0 [21, 22] rfl (op_indexAddrL Try.underlying23 z67 rfl rfl (by omega) (by first | assumption | rfl)) ?_
     refine dr_q 0 0 [23] rfl (op_loadAL Try.underlying67 rfl z67 rfl rfl) ?_
     refine dr_f 0 0 [20, 24] rfl (fun H => (op_eqA Try.underlying67 (by kernel_rfl) (by kernel_rfl) rfl rfl (by first | assumption | exact eq_rd _ _ Try.underlying67 | exact eq_wr _ _ Try.underlying67)).2) ?_
     refine dr_end [] (by kernel_rfl) (by kernel_rfl) (by kernel_rfl) (by kernel_rfl) trivial ?_
     refine nm ?_
     refine aw_no (rfl) ?_
     refine aw_skip ?_
     refine nmb ?_
     refine nm ?_
     refine aw_region ?_
     refine st_p (mv rfl) rfl ?_
     refine st_p (op_addi rfl rfl (by omega)) rfl ?_
     refine st_p (mva rfl) rfl ?_
     refine al_nil ?_
     refine nm ?_
     refine ⟨⟨i + 1, hlt, by rw [hstep, hall]; rfl⟩, by dsimp only; omega, le_to [] rfl rfl rfl rfl rfl ⟨rfl, rfl, rfl, trivial⟩ trivial⟩
    | false =>
     rw [hs] at hE
     have hF : eqRds a b = false := by
      have : (a.zip b).all (fun p => sameRd p.1 p.2) = false := by rw [List.all_eq_false]; exact ⟨(x, y), hmem, by simp [hs]⟩
      simp [eqRds, this]
     refine aw_seq ?_
     refine aw_seq ?_
     refine aw_region ?_
     refine st_p (mv rfl) rfl ?_
     refine st_p (mv rfl) rfl ?_
     refine st_p (op_len Try.underlying23 rfl) rfl ?_
     refine st_p (OpP.conv (op_lt rfl rfl) (yes (by first | assumption | omega))) rfl ?_
     refine al_nil ?_
     refine nm ?_
     refine aw_yes (rfl) ?_
     refine aw_skip ?_
     refine nm ?_
     refine aw_seq ?_
     refine aw_block ?_
     refine aw_seq ?_
     refine dr_go ?_
     refine dr_f 0 0 [0] rfl (fun H => mv rfl) ?_
     refine dr_f 0 0 [5] rfl (fun H => mv rfl) ?_
     refine dr_q 0 0 [17, 18] rfl (op_indexAddrL Try.underlying23 z67 rfl rfl (by omega) (by first | assumption | rfl)) ?_
     refine dr_q 0 0 [19] rfl (op_loadAL Try.underlying67 rfl z67 rfl rfl) ?_
     refine dr_f 0 0 [1] rfl (fun H => mv rfl) ?_
     refine dr_f 0 0 [5] rfl (fun H => mv rfl) ?_
     refine dr_q 0 0 [21, 22] rfl (op_indexAddrL Try.underlying23 z67 rfl rfl (by omega) (by first | assumption | rfl)) ?_
     refine dr_q 0 0 [23] rfl (op_loadAL Try.underlying67 rfl z67 rfl rfl) ?_
     refine dr_f 0 0 [20, 24] rfl (fun H => (op_eqA Try.underlying67 (by kernel_rfl) (by kernel_rfl) rfl rfl (by first | assumption | exact eq_rd _ _ Try.underlying67 | exact eq_wr _ _ Try.underlying67)).2) ?_
     refine dr_end [] (by kernel_rfl) (by kernel_rfl) (by kernel_rfl) (by kernel_rfl) trivial ?_
     refine nm ?_
     refine aw_yes (rfl) ?_
     refine aw_seq ?_
     refine aw_region ?_
     refine st_p (mva rfl) rfl ?_
     refine al_nil ?_
     refine nm ?_
     refine aw_ret ?_
     refine rb ?_
     refine rs ?_
     refine rs ?_
     refine rb ?_
     refine rs ?_
     exact ret_a ⟨[(4, .bool false)], [], 0⟩ (le_to [] rfl rfl rfl rfl rfl ⟨rfl, trivial⟩ trivial) (res1 Try.results57) (.inr ⟨rfl, rfl⟩) ⟨by rw [hF]; rfl, rfl, rfl⟩
   ·have e : (a.zip b).take i = a.zip b := List.take_of_length_le (by rw [List.length_zip]; omega)
    rw [e] at hall
    refine aw_seq ?_
    refine aw_seq ?_
    refine aw_region ?_
    refine st_p (mv rfl) rfl ?_
    refine st_p (mv rfl) rfl ?_
    refine st_p (op_len Try.underlying23 rfl) rfl ?_
    refine st_p (OpP.conv (op_lt rfl rfl) (no (by first | assumption | omega))) rfl ?_
    refine al_nil ?_
    refine nm ?_
    refine aw_no (rfl) ?_
    refine aw_exit ?_
    refine xs ?_
    refine xs ?_
    refine xb ?_
    refine nm ?_
    refine aw_seq ?_
    refine aw_region ?_
    refine st_p (mva rfl) rfl ?_
    refine al_nil ?_
    refine nm ?_
    refine aw_ret ?_
    exact ret_a ⟨[(4, .bool true)], [], 0⟩ (le_to [] rfl rfl rfl rfl rfl ⟨rfl, trivial⟩ trivial) (res1 Try.results57) (.inr ⟨rfl, rfl⟩) ⟨by simp [eqRds, hl, hall, tget], rfl, rfl⟩
 ·skip
  refine ac_fn Try.func57 rfl rfl rfl rfl (fun w0 S0 r0 => ?_)
  refine aw_seq ?_
  refine aw_region ?_
  refine st_p (mva rfl) rfl ?_
  refine al_nil ?_
  refine nm ?_
  refine aw_seq ?_
  refine aw_seq ?_
  refine aw_region ?_
  refine st_p (mv rfl) rfl ?_
  refine st_p (op_len Try.underlying23 rfl) rfl ?_
  refine st_p (mv rfl) rfl ?_
  refine st_p (op_len Try.underlying23 rfl) rfl ?_
  refine st_p (OpP.conv (op_ne rfl rfl) (yes (by first | assumption | omega))) rfl ?_
  refine al_nil ?_
  refine nm ?_
  refine aw_yes (rfl) ?_
  refine aw_seq ?_
  refine aw_region ?_
  refine st_p (mva rfl) rfl ?_
  refine al_nil ?_
  refine nm ?_
  refine aw_ret ?_
  refine rs ?_
  exact ret_a ⟨[(4, .bool false)], [], 0⟩ (le_to [] rfl rfl rfl rfl rfl ⟨rfl, trivial⟩ trivial) (res1 Try.results57) (.inr ⟨rfl, rfl⟩) ⟨by simp [eqRds, hl, tget], rfl, rfl⟩

end Go.Proofs.Ytpggknkhldecaaa.Abs
end
section
namespace Go.Proofs.Ytpggknkhldecaaa.Abs

def eqWrs (a b : List WR) : Bool := decide (a.length = b.length) && (a.zip b).all fun p => sameWr p.1 p.2
def sameTxB (a b : TX) : Bool := decide (a.ses = b.ses) && (decide (a.seq = b.seq) && (eqWrs a.writes b.writes && eqRds a.reads b.reads))

theorem eqRds_iff : ∀ (a b : List RD), eqRds a b = true ↔ a = b := by
 intro a
 induction a with
 | nil => intro b; cases b <;> simp [eqRds]
 | cons x a ih =>
  intro b
  cases b with
  | nil => simp [eqRds]
  | cons y b =>
   have h1 := ih b
   have h2 := sameRd_iff x y
   simp only [eqRds, List.length_cons, List.zip_cons_cons, List.all_cons, Bool.and_eq_true, decide_eq_true_eq, Nat.add_right_cancel_iff, List.cons.injEq] at h1 ⊢
   rw [← h1, ← h2]
   exact ⟨fun ⟨p, q, r⟩ => ⟨q, p, r⟩, fun ⟨q, p, r⟩ => ⟨p, q, r⟩⟩

theorem eqWrs_iff : ∀ (a b : List WR), eqWrs a b = true ↔ a = b := by
 intro a
 induction a with
 | nil => intro b; cases b <;> simp [eqWrs]
 | cons x a ih =>
  intro b
  cases b with
  | nil => simp [eqWrs]
  | cons y b =>
   have h1 := ih b
   have h2 := sameWr_iff x y
   simp only [eqWrs, List.length_cons, List.zip_cons_cons, List.all_cons, Bool.and_eq_true, decide_eq_true_eq, Nat.add_right_cancel_iff, List.cons.injEq] at h1 ⊢
   rw [← h1, ← h2]
   exact ⟨fun ⟨p, q, r⟩ => ⟨q, p, r⟩, fun ⟨q, p, r⟩ => ⟨p, q, r⟩⟩

theorem sameTxB_iff (a b : TX) : sameTxB a b = true ↔ a = b := by
 obtain ⟨s1, q1, r1, w1⟩ := a
 obtain ⟨s2, q2, r2, w2⟩ := b
 simp only [sameTxB, Bool.and_eq_true, decide_eq_true_eq, eqWrs_iff, eqRds_iff, TX.mk.injEq]
 exact ⟨fun ⟨a, b, c, d⟩ => ⟨a, b, d, c⟩, fun ⟨a, b, d, c⟩ => ⟨a, b, c, d⟩⟩

set_option maxRecDepth 100000 in
set_option maxHeartbeats 4000000 in
theorem ref_SameTxn (a b : TX) (ha : a.reads.length ≤ 1000000) (hb : b.reads.length ≤ 1000000) (hwa : a.writes.length ≤ 1000000) (hwb : b.writes.length ≤ 1000000) :
  AC Try.prog 15 [txA a, txA b] [] 0 false (fun v h nx => v = .bool (sameTxB a b) ∧ h = [] ∧ nx = 0) := by
 have hsr := ref_SameReads a.reads b.reads ha hb
 obtain ⟨s1, q1, r1, w1⟩ := a
 obtain ⟨s2, q2, r2, w2⟩ := b
 dsimp only at ha hb hwa hwb hsr
 dsimp only [txA]
 have hal : (w1.map wrA).length = w1.length := List.length_map _
 have hbl : (w2.map wrA).length = w2.length := List.length_map _
 have hA : ∀ (i : Nat) (x : WR), w1[i]? = some x → (w1.map wrA)[((i : Nat) : Int).toNat]? = some (.agg [sb x.key, sb x.val, .bool x.gone]) := fun i x hx => by rw [Int.toNat_natCast, List.getElem?_map, hx]; rfl
 have hB : ∀ (i : Nat) (x : WR), w2[i]? = some x → (w2.map wrA)[((i : Nat) : Int).toNat]? = some (.agg [sb x.key, sb x.val, .bool x.gone]) := fun i x hx => by rw [Int.toNat_natCast, List.getElem?_map, hx]; rfl
 generalize w1.map wrA = W1 at hal hA ⊢
 generalize w2.map wrA = W2 at hbl hB ⊢
 generalize r1.map rdA = R1 at hsr ⊢
 generalize r2.map rdA = R2 at hsr ⊢
 by_cases c0 : s1 = s2
 ·by_cases c1 : q1 = q2
  ·by_cases c2 : w1.length = w2.length
   ·cases c3 : eqRds r1 r2 with
    | true =>
     rw [c3] at hsr
     refine ac_fn Try.func15 rfl rfl rfl rfl (fun w0 S0 r0 => ?_)
     refine aw_seq ?_
     refine aw_region ?_
     refine st_o (bx rfl rfl) rfl ?_
     refine st_o (bx rfl rfl) rfl ?_
     refine st_p (mva rfl) rfl ?_
     refine al_nil ?_
     refine nm ?_
     refine aw_seq ?_
     refine aw_seq ?_
     refine aw_region ?_
     refine st_p (op_fieldAddr Try.underlying26 rfl z3 (by decide) rfl) rfl ?_
     refine st_p (op_load1 Try.underlying3 rfl rfl rfl rfl rfl) rfl ?_
     refine st_p (op_fieldAddr Try.underlying26 rfl z3 (by decide) rfl) rfl ?_
     refine st_p (op_load1 Try.underlying3 rfl rfl rfl rfl rfl) rfl ?_
     refine st_p (OpP.conv (op_ne rfl rfl) (no (by first | assumption | omega))) rfl ?_
     refine st_p (mv rfl) rfl ?_
     refine st_pg rfl rfl rfl (op_fieldAddr Try.underlying26 rfl z3 (by decide) rfl) rfl ?_
     refine st_pg rfl rfl rfl (op_load1 Try.underlying3 rfl rfl rfl rfl rfl) rfl ?_
     refine st_pg rfl rfl rfl (op_fieldAddr Try.underlying26 rfl z3 (by decide) rfl) rfl ?_
     refine st_pg rfl rfl rfl (op_load1 Try.underlying3 rfl rfl rfl rfl rfl) rfl ?_
     refine st_pg rfl rfl rfl (OpP.conv (op_ne rfl rfl) (no (by first | assumption | omega))) rfl ?_
     refine st_p (pkF rfl rfl) rfl ?_
     refine st_p (mv rfl) rfl ?_
     refine st_pg rfl rfl rfl (op_fieldAddr Try.underlying26 rfl z24 (by decide) rfl) rfl ?_
     refine st_pg rfl rfl rfl (op_load1 Try.underlying24 rfl rfl rfl rfl rfl) rfl ?_
     refine st_pg rfl rfl rfl (op_len Try.underlying24 rfl) rfl ?_
     refine st_pg rfl rfl rfl (op_fieldAddr Try.underlying26 rfl z24 (by decide) rfl) rfl ?_
     refine st_pg rfl rfl rfl (op_load1 Try.underlying24 rfl rfl rfl rfl rfl) rfl ?_
     refine st_pg rfl rfl rfl (op_len Try.underlying24 rfl) rfl ?_
     refine st_pg rfl rfl rfl (OpP.conv (op_ne rfl rfl) (no (by first | assumption | omega))) rfl ?_
     refine st_p (pkF rfl rfl) rfl ?_
     refine st_p (mv rfl) rfl ?_
     refine st_pg rfl rfl rfl (op_fieldAddr Try.underlying26 rfl z23 (by decide) rfl) rfl ?_
     refine st_pg rfl rfl rfl (op_load1 Try.underlying23 rfl rfl rfl rfl rfl) rfl ?_
     refine st_pg rfl rfl rfl (op_fieldAddr Try.underlying26 rfl z23 (by decide) rfl) rfl ?_
     refine st_pg rfl rfl rfl (op_load1 Try.underlying23 rfl rfl rfl rfl rfl) rfl ?_
     refine st_og rfl rfl rfl ((op_callq (hsr) Try.func57 ⟨rfl, rfl⟩ rfl rfl (fun nx => (.cons (.same (by rfl)) (.cons (.same (by rfl)) .nil))) (by rintro _ _ _ ⟨rfl, rfl, rfl⟩; exact .same rfl)).ok) rfl ?_
     refine st_pg rfl rfl rfl (op_notT rfl) rfl ?_
     refine st_p (pkF rfl rfl) rfl ?_
     refine al_nil ?_
     refine nm ?_
     refine aw_no (rfl) ?_
     refine aw_skip ?_
     refine nm ?_
     refine aw_seq ?_
     refine aw_seq ?_
     refine aw_region ?_
     refine st_p (mva rfl) rfl ?_
     refine al_nil ?_
     refine nm ?_
     refine aw_block ?_
     refine aw_loop (fun i : {i : Nat // i ≤ w1.length ∧ ((w1.zip w2).take i).all (fun p => sameWr p.1 p.2) = true} => ⟨[(2, .ptr 0 0 0), (3, .ptr 1 0 0), (5, .int .i64 i.1)], [(0, .cells 4 [.agg [.int .i64 s1, .int .i64 q1, .sl 4 R1, .sl 3 W1]]), (1, .cells 4 [.agg [.int .i64 s2, .int .i64 q2, .sl 4 R2, .sl 3 W2]])], 2⟩) (fun i => w1.length - i.1) ⟨0, Nat.zero_le _, rfl⟩ ?_ ?_
     ·exact le_to [(0, 0), (1, 1)] rfl rfl rfl rfl rfl ⟨rfl, rfl, rfl, trivial⟩ ⟨rfl, rfl, trivial⟩
     ·rintro ⟨i, hi, hall⟩
      dsimp only
      by_cases hlt : i < w1.length
      ·obtain ⟨x, hx⟩ : ∃ x, w1[i]? = some x := ⟨_, List.getElem?_eq_getElem hlt⟩
       obtain ⟨y, hy⟩ : ∃ y, w2[i]? = some y := ⟨_, List.getElem?_eq_getElem (by omega)⟩
       have hxb := hA i x hx
       have hyb := hB i y hy
       have hz := zip_get hx hy
       have hstep : ((w1.zip w2).take (i + 1)).all (fun p => sameWr p.1 p.2) = (((w1.zip w2).take i).all (fun p => sameWr p.1 p.2) && sameWr x y) := all_take (p := fun p : WR × WR => sameWr p.1 p.2) hz
       have hE := eq_wr x y Try.underlying65
       have hmem := List.mem_of_getElem? hz
       clear hz
       cases hs : sameWr x y with
       | true =>
        rw [hs] at hE hstep
        refine aw_seq ?_
        refine aw_seq ?_
        refine aw_region ?_
        refine st_p (mv rfl) rfl ?_
        refine st_p (op_fieldAddr Try.underlying26 rfl z24 (by decide) rfl) rfl ?_
        refine st_p (op_load1 Try.underlying24 rfl rfl rfl rfl rfl) rfl ?_
        refine st_p (op_len Try.underlying24 rfl) rfl ?_
        refine st_p (OpP.conv (op_lt rfl rfl) (yes (by first | assumption | omega))) rfl ?_
        refine al_nil ?_
        refine nm ?_
        refine aw_yes (rfl) ?_
        refine aw_skip ?_
        refine nm ?_
        refine aw_seq ?_
        refine aw_block ?_
        refine aw_seq ?_
        refine dr_go ?_
        refine dr_f 0 0 [2] rfl (fun H => op_fieldAddr Try.underlying26 rfl z24 (by decide) rfl) ?_
        refine dr_q 0 0 [42] rfl (op_load1 Try.underlying24 rfl rfl rfl rfl rfl) ?_
        refine dr_f 0 0 [5] rfl (fun H => mv rfl) ?_
        refine dr_q 0 0 [43, 44] rfl (op_indexAddrL Try.underlying24 z65 rfl rfl (by omega) (by first | assumption | rfl)) ?_
        refine dr_q 0 0 [45] rfl (op_loadAL Try.underlying65 rfl z65 rfl rfl) ?_
        refine dr_f 0 0 [3] rfl (fun H => op_fieldAddr Try.underlying26 rfl z24 (by decide) rfl) ?_
        refine dr_q 0 0 [47] rfl (op_load1 Try.underlying24 rfl rfl rfl rfl rfl) ?_
        refine dr_f 0 0 [5] rfl (fun H => mv rfl) ?_
        refine dr_q 0 0 [48, 49] rfl (op_indexAddrL Try.underlying24 z65 rfl rfl (by omega) (by first | assumption | rfl)) ?_
        refine dr_q 0 0 [50] rfl (op_loadAL Try.underlying65 rfl z65 rfl rfl) ?_
        refine dr_f 0 0 [46, 51] rfl (fun H => (op_eqA Try.underlying65 (by kernel_rfl) (by kernel_rfl) rfl rfl (by first | assumption | exact eq_rd _ _ Try.underlying65 | exact eq_wr _ _ Try.underlying65)).2) ?_
        refine dr_end [] (by kernel_rfl) (by kernel_rfl) (by kernel_rfl) (by kernel_rfl) trivial ?_
        refine nm ?_
        refine aw_no (rfl) ?_
        refine aw_skip ?_
        refine nmb ?_
        refine nm ?_
        refine aw_region ?_
        refine st_p (mv rfl) rfl ?_
        refine st_p (op_addi rfl rfl (by omega)) rfl ?_
        refine st_p (mva rfl) rfl ?_
        refine al_nil ?_
        refine nm ?_
        refine ⟨⟨i + 1, hlt, by rw [hstep, hall]; rfl⟩, by dsimp only; omega, le_to [(0, 0), (1, 1)] rfl rfl rfl rfl rfl ⟨rfl, rfl, rfl, trivial⟩ ⟨rfl, rfl, trivial⟩⟩
       | false =>
        rw [hs] at hE
        have hF : eqWrs w1 w2 = false := by
         have : (w1.zip w2).all (fun p => sameWr p.1 p.2) = false := by rw [List.all_eq_false]; exact ⟨(x, y), hmem, by simp [hs]⟩
         simp [eqWrs, this]
        refine aw_seq ?_
        refine aw_seq ?_
        refine aw_region ?_
        refine st_p (mv rfl) rfl ?_
        refine st_p (op_fieldAddr Try.underlying26 rfl z24 (by decide) rfl) rfl ?_
        refine st_p (op_load1 Try.underlying24 rfl rfl rfl rfl rfl) rfl ?_
        refine st_p (op_len Try.underlying24 rfl) rfl ?_
        refine st_p (OpP.conv (op_lt rfl rfl) (yes (by first | assumption | omega))) rfl ?_
        refine al_nil ?_
        refine nm ?_
        refine aw_yes (rfl) ?_
        refine aw_skip ?_
        refine nm ?_
        refine aw_seq ?_
        refine aw_block ?_
        refine aw_seq ?_
        refine dr_go ?_
        refine dr_f 0 0 [2] rfl (fun H => op_fieldAddr Try.underlying26 rfl z24 (by decide) rfl) ?_
        refine dr_q 0 0 [42] rfl (op_load1 Try.underlying24 rfl rfl rfl rfl rfl) ?_
        refine dr_f 0 0 [5] rfl (fun H => mv rfl) ?_
        refine dr_q 0 0 [43, 44] rfl (op_indexAddrL Try.underlying24 z65 rfl rfl (by omega) (by first | assumption | rfl)) ?_
        refine dr_q 0 0 [45] rfl (op_loadAL Try.underlying65 rfl z65 rfl rfl) ?_
        refine dr_f 0 0 [3] rfl (fun H => op_fieldAddr Try.underlying26 rfl z24 (by decide) rfl) ?_
        refine dr_q 0 0 [47] rfl (op_load1 Try.underlying24 rfl rfl rfl rfl rfl) ?_
        refine dr_f 0 0 [5] rfl (fun H => mv rfl) ?_
        refine dr_q 0 0 [48, 49] rfl (op_indexAddrL Try.underlying24 z65 rfl rfl (by omega) (by first | assumption | rfl)) ?_
        refine dr_q 0 0 [50] rfl (op_loadAL Try.underlying65 rfl z65 rfl rfl) ?_
        refine dr_f 0 0 [46, 51] rfl (fun H => (op_eqA Try.underlying65 (by kernel_rfl) (by kernel_rfl) rfl rfl (by first | assumption | exact eq_rd _ _ Try.underlying65 | exact eq_wr _ _ Try.underlying65)).2) ?_
        refine dr_end [] (by kernel_rfl) (by kernel_rfl) (by kernel_rfl) (by kernel_rfl) trivial ?_
        refine nm ?_
        refine aw_yes (rfl) ?_
        refine aw_seq ?_
        refine aw_region ?_
        refine st_p (mva rfl) rfl ?_
        refine al_nil ?_
        refine nm ?_
        refine aw_ret ?_
        refine rb ?_
        refine rs ?_
        refine rs ?_
        refine rb ?_
        refine rs ?_
        exact ret_a ⟨[(4, .bool false)], [], 0⟩ (le_to [] rfl rfl rfl rfl rfl ⟨rfl, trivial⟩ trivial) (res1 Try.results15) (.inr ⟨rfl, rfl⟩) ⟨by simp [sameTxB, tget, hF], rfl, rfl⟩
      ·have e : (w1.zip w2).take i = w1.zip w2 := List.take_of_length_le (by rw [List.length_zip]; omega)
       rw [e] at hall
       refine aw_seq ?_
       refine aw_seq ?_
       refine aw_region ?_
       refine st_p (mv rfl) rfl ?_
       refine st_p (op_fieldAddr Try.underlying26 rfl z24 (by decide) rfl) rfl ?_
       refine st_p (op_load1 Try.underlying24 rfl rfl rfl rfl rfl) rfl ?_
       refine st_p (op_len Try.underlying24 rfl) rfl ?_
       refine st_p (OpP.conv (op_lt rfl rfl) (no (by first | assumption | omega))) rfl ?_
       refine al_nil ?_
       refine nm ?_
       refine aw_no (rfl) ?_
       refine aw_exit ?_
       refine xs ?_
       refine xs ?_
       refine xb ?_
       refine nm ?_
       refine aw_seq ?_
       refine aw_region ?_
       refine st_p (mva rfl) rfl ?_
       refine al_nil ?_
       refine nm ?_
       refine aw_ret ?_
       exact ret_a ⟨[(4, .bool true)], [], 0⟩ (le_to [] rfl rfl rfl rfl rfl ⟨rfl, trivial⟩ trivial) (res1 Try.results15) (.inr ⟨rfl, rfl⟩) ⟨by simp [sameTxB, eqWrs, tget, c0, c1, c2, c3, hall], rfl, rfl⟩
    | false =>
     rw [c3] at hsr
     refine ac_fn Try.func15 rfl rfl rfl rfl (fun w0 S0 r0 => ?_)
     refine aw_seq ?_
     refine aw_region ?_
     refine st_o (bx rfl rfl) rfl ?_
     refine st_o (bx rfl rfl) rfl ?_
     refine st_p (mva rfl) rfl ?_
     refine al_nil ?_
     refine nm ?_
     refine aw_seq ?_
     refine aw_seq ?_
     refine aw_region ?_
     refine st_p (op_fieldAddr Try.underlying26 rfl z3 (by decide) rfl) rfl ?_
     refine st_p (op_load1 Try.underlying3 rfl rfl rfl rfl rfl) rfl ?_
     refine st_p (op_fieldAddr Try.underlying26 rfl z3 (by decide) rfl) rfl ?_
     refine st_p (op_load1 Try.underlying3 rfl rfl rfl rfl rfl) rfl ?_
     refine st_p (OpP.conv (op_ne rfl rfl) (no (by first | assumption | omega))) rfl ?_
     refine st_p (mv rfl) rfl ?_
     refine st_pg rfl rfl rfl (op_fieldAddr Try.underlying26 rfl z3 (by decide) rfl) rfl ?_
     refine st_pg rfl rfl rfl (op_load1 Try.underlying3 rfl rfl rfl rfl rfl) rfl ?_
     refine st_pg rfl rfl rfl (op_fieldAddr Try.underlying26 rfl z3 (by decide) rfl) rfl ?_
     refine st_pg rfl rfl rfl (op_load1 Try.underlying3 rfl rfl rfl rfl rfl) rfl ?_
     refine st_pg rfl rfl rfl (OpP.conv (op_ne rfl rfl) (no (by first | assumption | omega))) rfl ?_
     refine st_p (pkF rfl rfl) rfl ?_
     refine st_p (mv rfl) rfl ?_
     refine st_pg rfl rfl rfl (op_fieldAddr Try.underlying26 rfl z24 (by decide) rfl) rfl ?_
     refine st_pg rfl rfl rfl (op_load1 Try.underlying24 rfl rfl rfl rfl rfl) rfl ?_
     refine st_pg rfl rfl rfl (op_len Try.underlying24 rfl) rfl ?_
     refine st_pg rfl rfl rfl (op_fieldAddr Try.underlying26 rfl z24 (by decide) rfl) rfl ?_
     refine st_pg rfl rfl rfl (op_load1 Try.underlying24 rfl rfl rfl rfl rfl) rfl ?_
     refine st_pg rfl rfl rfl (op_len Try.underlying24 rfl) rfl ?_
     refine st_pg rfl rfl rfl (OpP.conv (op_ne rfl rfl) (no (by first | assumption | omega))) rfl ?_
     refine st_p (pkF rfl rfl) rfl ?_
     refine st_p (mv rfl) rfl ?_
     refine st_pg rfl rfl rfl (op_fieldAddr Try.underlying26 rfl z23 (by decide) rfl) rfl ?_
     refine st_pg rfl rfl rfl (op_load1 Try.underlying23 rfl rfl rfl rfl rfl) rfl ?_
     refine st_pg rfl rfl rfl (op_fieldAddr Try.underlying26 rfl z23 (by decide) rfl) rfl ?_
     refine st_pg rfl rfl rfl (op_load1 Try.underlying23 rfl rfl rfl rfl rfl) rfl ?_
     refine st_og rfl rfl rfl ((op_callq (hsr) Try.func57 ⟨rfl, rfl⟩ rfl rfl (fun nx => (.cons (.same (by rfl)) (.cons (.same (by rfl)) .nil))) (by rintro _ _ _ ⟨rfl, rfl, rfl⟩; exact .same rfl)).ok) rfl ?_
     refine st_pg rfl rfl rfl (op_notF rfl) rfl ?_
     refine st_p (pkF rfl rfl) rfl ?_
     refine al_nil ?_
     refine nm ?_
     refine aw_yes (rfl) ?_
     refine aw_seq ?_
     refine aw_region ?_
     refine st_p (mva rfl) rfl ?_
     refine al_nil ?_
     refine nm ?_
     refine aw_ret ?_
     refine rs ?_
     exact ret_a ⟨[(4, .bool false)], [], 0⟩ (le_to [] rfl rfl rfl rfl rfl ⟨rfl, trivial⟩ trivial) (res1 Try.results15) (.inr ⟨rfl, rfl⟩) ⟨by simp [sameTxB, tget, c3], rfl, rfl⟩
   ·skip
    refine ac_fn Try.func15 rfl rfl rfl rfl (fun w0 S0 r0 => ?_)
    refine aw_seq ?_
    refine aw_region ?_
    refine st_o (bx rfl rfl) rfl ?_
    refine st_o (bx rfl rfl) rfl ?_
    refine st_p (mva rfl) rfl ?_
    refine al_nil ?_
    refine nm ?_
    refine aw_seq ?_
    refine aw_seq ?_
    refine aw_region ?_
    refine st_p (op_fieldAddr Try.underlying26 rfl z3 (by decide) rfl) rfl ?_
    refine st_p (op_load1 Try.underlying3 rfl rfl rfl rfl rfl) rfl ?_
    refine st_p (op_fieldAddr Try.underlying26 rfl z3 (by decide) rfl) rfl ?_
    refine st_p (op_load1 Try.underlying3 rfl rfl rfl rfl rfl) rfl ?_
    refine st_p (OpP.conv (op_ne rfl rfl) (no (by first | assumption | omega))) rfl ?_
    refine st_p (mv rfl) rfl ?_
    refine st_pg rfl rfl rfl (op_fieldAddr Try.underlying26 rfl z3 (by decide) rfl) rfl ?_
    refine st_pg rfl rfl rfl (op_load1 Try.underlying3 rfl rfl rfl rfl rfl) rfl ?_
    refine st_pg rfl rfl rfl (op_fieldAddr Try.underlying26 rfl z3 (by decide) rfl) rfl ?_
    refine st_pg rfl rfl rfl (op_load1 Try.underlying3 rfl rfl rfl rfl rfl) rfl ?_
    refine st_pg rfl rfl rfl (OpP.conv (op_ne rfl rfl) (no (by first | assumption | omega))) rfl ?_
    refine st_p (pkF rfl rfl) rfl ?_
    refine st_p (mv rfl) rfl ?_
    refine st_pg rfl rfl rfl (op_fieldAddr Try.underlying26 rfl z24 (by decide) rfl) rfl ?_
    refine st_pg rfl rfl rfl (op_load1 Try.underlying24 rfl rfl rfl rfl rfl) rfl ?_
    refine st_pg rfl rfl rfl (op_len Try.underlying24 rfl) rfl ?_
    refine st_pg rfl rfl rfl (op_fieldAddr Try.underlying26 rfl z24 (by decide) rfl) rfl ?_
    refine st_pg rfl rfl rfl (op_load1 Try.underlying24 rfl rfl rfl rfl rfl) rfl ?_
    refine st_pg rfl rfl rfl (op_len Try.underlying24 rfl) rfl ?_
    refine st_pg rfl rfl rfl (OpP.conv (op_ne rfl rfl) (yes (by first | assumption | omega))) rfl ?_
    refine st_p (pkF rfl rfl) rfl ?_
    refine st_p (mv rfl) rfl ?_
    refine st_s rfl rfl rfl rfl rfl ?_
    refine st_s rfl rfl rfl rfl rfl ?_
    refine st_s rfl rfl rfl rfl rfl ?_
    refine st_s rfl rfl rfl rfl rfl ?_
    refine st_s rfl rfl rfl rfl rfl ?_
    refine st_s rfl rfl rfl rfl rfl ?_
    refine st_p (pkT rfl rfl) rfl ?_
    refine al_nil ?_
    refine nm ?_
    refine aw_yes (rfl) ?_
    refine aw_seq ?_
    refine aw_region ?_
    refine st_p (mva rfl) rfl ?_
    refine al_nil ?_
    refine nm ?_
    refine aw_ret ?_
    refine rs ?_
    exact ret_a ⟨[(4, .bool false)], [], 0⟩ (le_to [] rfl rfl rfl rfl rfl ⟨rfl, trivial⟩ trivial) (res1 Try.results15) (.inr ⟨rfl, rfl⟩) ⟨by simp [sameTxB, tget, eqWrs, c2], rfl, rfl⟩
  ·skip
   refine ac_fn Try.func15 rfl rfl rfl rfl (fun w0 S0 r0 => ?_)
   refine aw_seq ?_
   refine aw_region ?_
   refine st_o (bx rfl rfl) rfl ?_
   refine st_o (bx rfl rfl) rfl ?_
   refine st_p (mva rfl) rfl ?_
   refine al_nil ?_
   refine nm ?_
   refine aw_seq ?_
   refine aw_seq ?_
   refine aw_region ?_
   refine st_p (op_fieldAddr Try.underlying26 rfl z3 (by decide) rfl) rfl ?_
   refine st_p (op_load1 Try.underlying3 rfl rfl rfl rfl rfl) rfl ?_
   refine st_p (op_fieldAddr Try.underlying26 rfl z3 (by decide) rfl) rfl ?_
   refine st_p (op_load1 Try.underlying3 rfl rfl rfl rfl rfl) rfl ?_
   refine st_p (OpP.conv (op_ne rfl rfl) (no (by first | assumption | omega))) rfl ?_
   refine st_p (mv rfl) rfl ?_
   refine st_pg rfl rfl rfl (op_fieldAddr Try.underlying26 rfl z3 (by decide) rfl) rfl ?_
   refine st_pg rfl rfl rfl (op_load1 Try.underlying3 rfl rfl rfl rfl rfl) rfl ?_
   refine st_pg rfl rfl rfl (op_fieldAddr Try.underlying26 rfl z3 (by decide) rfl) rfl ?_
   refine st_pg rfl rfl rfl (op_load1 Try.underlying3 rfl rfl rfl rfl rfl) rfl ?_
   refine st_pg rfl rfl rfl (OpP.conv (op_ne rfl rfl) (yes (by first | assumption | omega))) rfl ?_
   refine st_p (pkF rfl rfl) rfl ?_
   refine st_p (mv rfl) rfl ?_
   refine st_s rfl rfl rfl rfl rfl ?_
   refine st_s rfl rfl rfl rfl rfl ?_
   refine st_s rfl rfl rfl rfl rfl ?_
   refine st_s rfl rfl rfl rfl rfl ?_
   refine st_s rfl rfl rfl rfl rfl ?_
   refine st_s rfl rfl rfl rfl rfl ?_
   refine st_s rfl rfl rfl rfl rfl ?_
   refine st_p (pkT rfl rfl) rfl ?_
   refine st_p (mv rfl) rfl ?_
   refine st_s rfl rfl rfl rfl rfl ?_
   refine st_s rfl rfl rfl rfl rfl ?_
   refine st_s rfl rfl rfl rfl rfl ?_
   refine st_s rfl rfl rfl rfl rfl ?_
   refine st_s rfl rfl rfl rfl rfl ?_
   refine st_s rfl rfl rfl rfl rfl ?_
   refine st_p (pkT rfl rfl) rfl ?_
   refine al_nil ?_
   refine nm ?_
   refine aw_yes (rfl) ?_
   refine aw_seq ?_
   refine aw_region ?_
   refine st_p (mva rfl) rfl ?_
   refine al_nil ?_
   refine nm ?_
   refine aw_ret ?_
   refine rs ?_
   exact ret_a ⟨[(4, .bool false)], [], 0⟩ (le_to [] rfl rfl rfl rfl rfl ⟨rfl, trivial⟩ trivial) (res1 Try.results15) (.inr ⟨rfl, rfl⟩) ⟨by simp [sameTxB, tget, c1], rfl, rfl⟩
 ·skip
  refine ac_fn Try.func15 rfl rfl rfl rfl (fun w0 S0 r0 => ?_)
  refine aw_seq ?_
  refine aw_region ?_
  refine st_o (bx rfl rfl) rfl ?_
  refine st_o (bx rfl rfl) rfl ?_
  refine st_p (mva rfl) rfl ?_
  refine al_nil ?_
  refine nm ?_
  refine aw_seq ?_
  refine aw_seq ?_
  refine aw_region ?_
  refine st_p (op_fieldAddr Try.underlying26 rfl z3 (by decide) rfl) rfl ?_
  refine st_p (op_load1 Try.underlying3 rfl rfl rfl rfl rfl) rfl ?_
  refine st_p (op_fieldAddr Try.underlying26 rfl z3 (by decide) rfl) rfl ?_
  refine st_p (op_load1 Try.underlying3 rfl rfl rfl rfl rfl) rfl ?_
  refine st_p (OpP.conv (op_ne rfl rfl) (yes (by first | assumption | omega))) rfl ?_
  refine st_p (mv rfl) rfl ?_
  refine st_s rfl rfl rfl rfl rfl ?_
  refine st_s rfl rfl rfl rfl rfl ?_
  refine st_s rfl rfl rfl rfl rfl ?_
  refine st_s rfl rfl rfl rfl rfl ?_
  refine st_s rfl rfl rfl rfl rfl ?_
  refine st_p (pkT rfl rfl) rfl ?_
  refine st_p (mv rfl) rfl ?_
  refine st_s rfl rfl rfl rfl rfl ?_
  refine st_s rfl rfl rfl rfl rfl ?_
  refine st_s rfl rfl rfl rfl rfl ?_
  refine st_s rfl rfl rfl rfl rfl ?_
  refine st_s rfl rfl rfl rfl rfl ?_
  refine st_s rfl rfl rfl rfl rfl ?_
  refine st_s rfl rfl rfl rfl rfl ?_
  refine st_p (pkT rfl rfl) rfl ?_
  refine st_p (mv rfl) rfl ?_
  refine st_s rfl rfl rfl rfl rfl ?_
  refine st_s rfl rfl rfl rfl rfl ?_
  refine st_s rfl rfl rfl rfl rfl ?_
  refine st_s rfl rfl rfl rfl rfl ?_
  refine st_s rfl rfl rfl rfl rfl ?_
  refine st_s rfl rfl rfl rfl rfl ?_
  refine st_p (pkT rfl rfl) rfl ?_
  refine al_nil ?_
  refine nm ?_
  refine aw_yes (rfl) ?_
  refine aw_seq ?_
  refine aw_region ?_
  refine st_p (mva rfl) rfl ?_
  refine al_nil ?_
  refine nm ?_
  refine aw_ret ?_
  refine rs ?_
  exact ret_a ⟨[(4, .bool false)], [], 0⟩ (le_to [] rfl rfl rfl rfl rfl ⟨rfl, trivial⟩ trivial) (res1 Try.results15) (.inr ⟨rfl, rfl⟩) ⟨by simp [sameTxB, tget, c0], rfl, rfl⟩

end Go.Proofs.Ytpggknkhldecaaa.Abs
end
section
namespace Go.Proofs.Ytpggknkhldecaaa.Abs

def pkV (l : List UInt8) (n m : Nat) : Nat := match l[n]? with | some x => x.toNat % m | none => 0
def pkN (l : List UInt8) (n : Nat) : Nat := if n < l.length then n + 1 else n
def pkB (l : List UInt8) (n : Nat) : Blk := .cells 2 [.agg [.sl 1 (bl l), .int .i64 n]]

theorem pkV_lt (l : List UInt8) (n m : Nat) (hm : 0 < m) : pkV l n m < m := by
 unfold pkV
 cases l[n]? with
 | none => exact hm
 | some x => exact Nat.mod_lt _ hm

set_option maxRecDepth 100000 in
theorem pk_Made (l : List UInt8) : AC Try.prog 8 [.sl 1 (bl l)] [] 0 true (fun v h nx => v = .ptr 0 0 0 ∧ h = [(0, pkB l 0)] ∧ nx = 1) := by
 unfold pkB
 generalize bl l = B
 refine ac_fn Try.func8 rfl rfl rfl rfl (fun w0 S0 r0 => ?_)
 refine aw_seq ?_
 refine aw_region ?_
 refine st_p (mva rfl) rfl ?_
 refine al_nil ?_
 refine nm ?_
 refine aw_seq ?_
 refine aw_region ?_
 refine st_p (mv rfl) rfl ?_
 refine st_p (op_build Try.underlying69 a69 rfl rfl (by intro f hf; simp only [List.mem_cons, List.not_mem_nil, or_false] at hf; rcases hf with rfl | rfl <;> exact ⟨_, by first | exact z3 | exact z22⟩) (pcons rfl rfl z22 rfl .nil) rfl) rfl ?_
 refine st_o (bx rfl rfl) rfl ?_
 refine st_p (mva rfl) rfl ?_
 refine al_nil ?_
 refine nm ?_
 refine aw_ret ?_
 exact ret_a ⟨[(2, .ptr 0 0 0)], [(0, .cells 2 [.agg [.sl 1 B, .int .i64 0]])], 1⟩ (le_to [(0, 0)] rfl rfl rfl rfl rfl ⟨rfl, trivial⟩ ⟨rfl, trivial⟩) (res1 Try.results8) (.inl rfl) ⟨rfl, rfl, rfl⟩

theorem pk_Num (l : List UInt8) (n m : Nat) (hl : l.length ≤ 1000000) (hm : 1 ≤ m) (hm2 : m ≤ 1000000) :
  AC Try.prog 36 [.ptr 0 0 0, .int .i64 m] [(0, pkB l n)] 1 true (fun v h nx => v = .int .i64 (pkV l n m) ∧ h = [(0, pkB l (pkN l n))] ∧ nx = 1) := by
 have hbl : (bl l).length = l.length := bl_len l
 by_cases hn : n < l.length
 ·obtain ⟨x, hx⟩ : ∃ x, l[n]? = some x := ⟨_, List.getElem?_eq_getElem hn⟩
  have hv : pkV l n m = x.toNat % m := by simp only [pkV, hx]
  have hnn : pkN l n = n + 1 := if_pos hn
  have hX : (bl l)[((n : Int) + 1 - 1).toNat]? = some (.int .u8 (x.toNat : Int)) := by rw [show (n : Int) + 1 - 1 = n by omega, Int.toNat_natCast, bl, List.getElem?_map, hx]; rfl
  have hxl := x.toNat_lt
  rw [hv, hnn]
  clear hv hnn
  unfold pkB
  generalize bl l = B at hbl hX ⊢
  refine ac_fn Try.func36 rfl rfl rfl rfl (fun w0 S0 r0 => ?_)
  refine aw_seq ?_
  refine aw_region ?_
  refine st_p (mva rfl) rfl ?_
  refine al_nil ?_
  refine nm ?_
  refine aw_seq ?_
  refine aw_seq ?_
  refine dr_go ?_
  refine dr_f 0 0 [0] rfl (fun H => mv rfl) ?_
  refine dr_f 0 0 [5] rfl (fun H => op_nilCheck rfl trivial) ?_
  refine dr_f 0 0 [6] rfl (fun H => op_fieldAddr Try.underlying69 rfl z3 (by decide) rfl) ?_
  refine dr_q 0 0 [7] rfl (op_load1 Try.underlying3 rfl rfl rfl rfl rfl) ?_
  refine dr_f 0 0 [0] rfl (fun H => mv rfl) ?_
  refine dr_f 0 0 [9] rfl (fun H => op_nilCheck rfl trivial) ?_
  refine dr_f 0 0 [10] rfl (fun H => op_fieldAddr Try.underlying69 rfl z22 (by decide) rfl) ?_
  refine dr_q 0 0 [11] rfl (op_load1 Try.underlying22 rfl rfl rfl rfl rfl) ?_
  refine dr_f 0 0 [12] rfl (fun H => op_len Try.underlying22 rfl) ?_
  refine dr_f 0 0 [8, 13] rfl (fun H => OpP.conv (op_ge rfl rfl) (no (by first | assumption | omega))) ?_
  refine dr_end [] (by kernel_rfl) (by kernel_rfl) (by kernel_rfl) (by kernel_rfl) trivial ?_
  refine nm ?_
  refine aw_no (rfl) ?_
  refine aw_skip ?_
  refine nm ?_
  refine aw_seq ?_
  refine aw_region ?_
  refine st_p (mv rfl) rfl ?_
  refine st_p (op_nilCheck rfl trivial) rfl ?_
  refine st_p (op_fieldAddr Try.underlying69 rfl z3 (by decide) rfl) rfl ?_
  refine st_p (op_load1 Try.underlying3 rfl rfl rfl rfl rfl) rfl ?_
  refine st_p (op_addi rfl rfl (by omega)) rfl ?_
  refine st_p (op_nilCheck rfl trivial) rfl ?_
  refine st_p (op_fieldAddr Try.underlying69 rfl z3 (by decide) rfl) rfl ?_
  refine st_n (stA z3 rfl rfl rfl rfl rfl rfl rfl rfl rfl rfl) ?_
  refine al_nil ?_
  refine nm ?_
  refine aw_seq ?_
  refine dr_go ?_
  refine dr_f 0 0 [0] rfl (fun H => mv rfl) ?_
  refine dr_f 0 0 [22] rfl (fun H => op_nilCheck rfl trivial) ?_
  refine dr_f 0 0 [23] rfl (fun H => op_fieldAddr Try.underlying69 rfl z22 (by decide) rfl) ?_
  refine dr_q 0 0 [24] rfl (op_load1 Try.underlying22 rfl rfl rfl rfl rfl) ?_
  refine dr_f 0 0 [0] rfl (fun H => mv rfl) ?_
  refine dr_f 0 0 [26] rfl (fun H => op_nilCheck rfl trivial) ?_
  refine dr_f 0 0 [27] rfl (fun H => op_fieldAddr Try.underlying69 rfl z3 (by decide) rfl) ?_
  refine dr_q 0 0 [28] rfl (op_load1 Try.underlying3 rfl rfl rfl rfl rfl) ?_
  refine dr_f 0 0 [29] rfl (fun H => op_subi rfl rfl (by omega)) ?_
  refine dr_q 0 0 [25, 30] rfl (op_indexAddrL Try.underlying22 z5 rfl rfl (by omega) (by first | assumption | rfl)) ?_
  refine dr_q 0 0 [31] rfl (op_load1L Try.underlying5 rfl rfl rfl) ?_
  refine dr_f 0 0 [32] rfl (fun H => op_convi (by rw [Try.underlying5]; rfl) Try.underlying3 rfl (by omega)) ?_
  refine dr_f 0 0 [1] rfl (fun H => mv rfl) ?_
  refine dr_f 0 0 [33, 34] rfl (fun H => op_remi rfl rfl (by omega) (by omega)) ?_
  refine dr_f 0 0 [35] rfl (fun H => mva rfl) ?_
  refine dr_end [] (by kernel_rfl) (by kernel_rfl) (by kernel_rfl) (by kernel_rfl) trivial ?_
  refine nm ?_
  refine aw_ret ?_
  rw [← Int.natCast_emod]
  exact ret_a ⟨[(4, .int .i64 ((x.toNat % m : Nat) : Int))], [(0, .cells 2 [.agg [.sl 1 B, .int .i64 ((n : Int) + 1)]])], 1⟩ (le_to [] rfl rfl rfl rfl rfl ⟨rfl, trivial⟩ ⟨rfl, trivial⟩) (res1 Try.results36) (.inl rfl) ⟨rfl, rfl, rfl⟩
 ·have hv : pkV l n m = 0 := by simp only [pkV]; rw [List.getElem?_eq_none (by omega)]
  have hnn : pkN l n = n := if_neg hn
  rw [hv, hnn]
  clear hv hnn
  unfold pkB
  generalize bl l = B at hbl ⊢
  refine ac_fn Try.func36 rfl rfl rfl rfl (fun w0 S0 r0 => ?_)
  refine aw_seq ?_
  refine aw_region ?_
  refine st_p (mva rfl) rfl ?_
  refine al_nil ?_
  refine nm ?_
  refine aw_seq ?_
  refine aw_seq ?_
  refine dr_go ?_
  refine dr_f 0 0 [0] rfl (fun H => mv rfl) ?_
  refine dr_f 0 0 [5] rfl (fun H => op_nilCheck rfl trivial) ?_
  refine dr_f 0 0 [6] rfl (fun H => op_fieldAddr Try.underlying69 rfl z3 (by decide) rfl) ?_
  refine dr_q 0 0 [7] rfl (op_load1 Try.underlying3 rfl rfl rfl rfl rfl) ?_
  refine dr_f 0 0 [0] rfl (fun H => mv rfl) ?_
  refine dr_f 0 0 [9] rfl (fun H => op_nilCheck rfl trivial) ?_
  refine dr_f 0 0 [10] rfl (fun H => op_fieldAddr Try.underlying69 rfl z22 (by decide) rfl) ?_
  refine dr_q 0 0 [11] rfl (op_load1 Try.underlying22 rfl rfl rfl rfl rfl) ?_
  refine dr_f 0 0 [12] rfl (fun H => op_len Try.underlying22 rfl) ?_
  refine dr_f 0 0 [8, 13] rfl (fun H => OpP.conv (op_ge rfl rfl) (yes (by first | assumption | omega))) ?_
  refine dr_end [] (by kernel_rfl) (by kernel_rfl) (by kernel_rfl) (by kernel_rfl) trivial ?_
  refine nm ?_
  refine aw_yes (rfl) ?_
  refine aw_seq ?_
  refine aw_region ?_
  refine st_p (mva rfl) rfl ?_
  refine al_nil ?_
  refine nm ?_
  refine aw_ret ?_
  refine rs ?_
  exact ret_a ⟨[(4, .int .i64 0)], [(0, .cells 2 [.agg [.sl 1 B, .int .i64 n]])], 1⟩ (le_to [] rfl rfl rfl rfl rfl ⟨rfl, trivial⟩ ⟨rfl, trivial⟩) (res1 Try.results36) (.inl rfl) ⟨rfl, rfl, rfl⟩

def keysL : List (List UInt8) := [[97], [98], [99], [100], [101, 101], [102, 102]]
def valsL : List (List UInt8) := [[], [118], [119], [120, 120], [115, 105, 120, 116, 101, 101, 110, 45, 98, 121, 116, 101, 115, 45, 111, 107]]

theorem play_keys : AC Try.prog 78 [] [] 0 false (fun v h nx => v = .own 0 0 6 ∧ h = [(0, .cells 1 (keysL.map sb))] ∧ nx = 1) := by
 refine ac_fn Try.func78 rfl rfl rfl rfl (fun w0 S0 r0 => ?_)
 refine aw_seq ?_
 refine aw_region ?_
 refine st_p (mva rfl) rfl ?_
 refine al_nil ?_
 refine nm ?_
 refine aw_seq ?_
 refine aw_region ?_
 refine st_o (bsl Try.underlying71 i9 o9 (by decide) rfl rfl rfl (by decide)) rfl ?_
 refine st_p (mva rfl) rfl ?_
 refine al_nil ?_
 refine nm ?_
 refine aw_ret ?_
 exact ret_a ⟨[(0, .own 0 0 6)], [(0, .cells 1 (keysL.map sb))], 1⟩ (le_to [(0, 0)] rfl rfl rfl rfl rfl ⟨rfl, trivial⟩ ⟨rfl, trivial⟩) (res1 Try.results78) (.inr ⟨rfl, rfl⟩) ⟨rfl, rfl, rfl⟩

def pkVal (l : List UInt8) (n : Nat) : List UInt8 := valsL.getD (pkV l n 5) []

theorem pk_Val (l : List UInt8) (n : Nat) (hl : l.length ≤ 1000000) :
  AC Try.prog 38 [.ptr 0 0 0] [(0, pkB l n)] 1 true (fun v h nx => v = sb (pkVal l n) ∧ h = [(0, pkB l (pkN l n))] ∧ nx = 1) := by
 have hnum := pk_Num l n 5 hl (by omega) (by omega)
 have hlt := pkV_lt l n 5 (by omega)
 have hX : [sb [], sb [118], sb [119], sb [120, 120], sb [115, 105, 120, 116, 101, 101, 110, 45, 98, 121, 116, 101, 115, 45, 111, 107]][((pkV l n 5 : Nat) : Int).toNat]? = some (sb (pkVal l n)) := by
  unfold pkVal
  rw [Int.toNat_natCast]
  generalize pkV l n 5 = v at hlt
  match v, hlt with
  | 0, _ => rfl
  | 1, _ => rfl
  | 2, _ => rfl
  | 3, _ => rfl
  | 4, _ => rfl
 generalize pkVal l n = V at hX ⊢
 generalize pkV l n 5 = v at hlt hX hnum
 have hX' : [AV.str ⟨#[]⟩, .str ⟨#[118]⟩, .str ⟨#[119]⟩, .str ⟨#[120, 120]⟩, .str ⟨#[115, 105, 120, 116, 101, 101, 110, 45, 98, 121, 116, 101, 115, 45, 111, 107]⟩][0 + ((v : Nat) : Int).toNat]? = some (sb V) := by rw [Nat.zero_add]; exact hX
 clear hX
 generalize pkN l n = n1 at hnum ⊢
 refine ac_fn Try.func38 rfl rfl rfl rfl (fun w0 S0 r0 => ?_)
 refine aw_seq ?_
 refine aw_region ?_
 refine st_p (mva rfl) rfl ?_
 refine al_nil ?_
 refine nm ?_
 refine aw_seq ?_
 refine aw_region ?_
 refine st_o (bsl Try.underlying71 i9 o9 (by decide) rfl rfl rfl (by decide)) rfl ?_
 refine st_p (mv rfl) rfl ?_
 refine st_o (op_callg [(0, 0)] 1 true [(0, pkB l n)] [0] (hnum) Try.func36 ⟨rfl, rfl⟩ rfl rfl rfl rfl (by omega) (by intro p hp; simp only [List.mem_cons, List.not_mem_nil, or_false] at hp; rcases hp with rfl <;> exact ⟨by first | rfl | ((simp [hget, swp, Blk.ren, AV.ren, ints, Function.comp_def]) <;> rfl), rfl⟩) rfl (.cons (.same (by rfl)) (.cons (.same (by rfl)) .nil)) rfl rfl rfl) rfl ?_
 refine st_p (op_indexAddr Try.underlying71 z9 rfl rfl rfl (by omega) (by omega)) rfl ?_
 refine st_p (op_load1 Try.underlying9 rfl rfl rfl (by assumption) rfl) rfl ?_
 refine st_p (mva rfl) rfl ?_
 refine al_nil ?_
 refine nm ?_
 refine aw_ret ?_
 exact ret_a ⟨[(2, sb V)], [(0, pkB l n1)], 1⟩ (le_to [] rfl rfl rfl rfl rfl ⟨rfl, trivial⟩ ⟨rfl, trivial⟩) (res1 Try.results38) (.inl rfl) ⟨rfl, rfl, rfl⟩

end Go.Proofs.Ytpggknkhldecaaa.Abs
end
section
namespace Go.Proofs.Ytpggknkhldecaaa.Abs

def pickK : List (List UInt8) → Nat → Nat → List (List UInt8)
 | [], _, _ => []
 | _ :: _, _, 0 => []
 | k :: ks, b, r + 1 => if b % 2 = 1 then k :: pickK ks (b / 2) r else pickK ks (b / 2) (r + 1)

theorem pickK_0 : ∀ (ks : List (List UInt8)) (b : Nat), pickK ks b 0 = []
 | [], _ => rfl
 | _ :: _, _ => rfl

def pkKeys (l : List UInt8) (n most : Nat) : List (List UInt8) := pickK keysL (pkV l n 64) most

set_option maxHeartbeats 4000000 in
theorem pk_Keys (l : List UInt8) (n most : Nat) (hl : l.length ≤ 1000000) (hmost : most ≤ 1000000) :
  AC Try.prog 37 [.ptr 0 0 0, .int .i64 most] [(0, pkB l n)] 1 true (fun v h nx => v = .sl 1 ((pkKeys l n most).map sb) ∧ h = [(0, pkB l (pkN l n))] ∧ nx = 1) := by
 have hnum := pk_Num l n 64 hl (by omega) (by omega)
 have hlt := pkV_lt l n 64 (by omega)
 have hkeys := play_keys
 have hK : pkKeys l n most = pickK keysL (pkV l n 64) most := rfl
 generalize pkKeys l n most = K at hK ⊢
 generalize pkV l n 64 = v at hlt hK hnum
 generalize pkN l n = n1 at hnum ⊢
 have hkl : (keysL.map sb).length = 6 := rfl
 have hk6 : keysL.length = 6 := rfl
 have hkA : ∀ (i : Nat) (x : List UInt8), keysL[i]? = some x → (keysL.map sb)[((i : Nat) : Int).toNat]? = some (sb x) := fun i x hx => by rw [Int.toNat_natCast, List.getElem?_map, hx]; rfl
 generalize keysL = ks at hkl hk6 hkA hK hkeys
 have hap : (ks.map sb).all AV.plain = true := by simp [AV.plain, plains, sb]
 generalize ks.map sb = A at hkl hkA hkeys hap
 refine ac_fn Try.func37 rfl rfl rfl rfl (fun w0 S0 r0 => ?_)
 refine aw_seq ?_
 refine aw_region ?_
 refine st_p (mva rfl) rfl ?_
 refine al_nil ?_
 refine nm ?_
 refine aw_seq ?_
 refine aw_region ?_
 refine st_p (mva rfl) rfl ?_
 refine al_nil ?_
 refine nm ?_
 refine aw_seq ?_
 refine aw_region ?_
 refine st_p (mv rfl) rfl ?_
 refine st_o (op_callg [(0, 0)] 1 true [(0, pkB l n)] [0] (hnum) Try.func36 ⟨rfl, rfl⟩ rfl rfl rfl rfl (by omega) (by intro p hp; simp only [List.mem_cons, List.not_mem_nil, or_false] at hp; rcases hp with rfl <;> exact ⟨by first | rfl | ((simp [hget, swp, Blk.ren, AV.ren, ints, Function.comp_def]) <;> rfl), rfl⟩) rfl (.cons (.same (by rfl)) (.cons (.same (by rfl)) .nil)) rfl rfl rfl) rfl ?_
 refine st_p (mva rfl) rfl ?_
 refine al_nil ?_
 refine nm ?_
 refine aw_seq ?_
 refine aw_region ?_
 refine st_o ((op_callq (hkeys) Try.func78 ⟨rfl, rfl⟩ rfl rfl (fun nx => .nil) (by rintro _ _ _ ⟨rfl, rfl, rfl⟩; exact .whole rfl hkl.symm hap)).ok) rfl ?_
 refine st_p (mva rfl) rfl ?_
 refine al_nil ?_
 refine nm ?_
 refine aw_seq ?_
 refine aw_seq ?_
 refine aw_region ?_
 refine st_p (mva rfl) rfl ?_
 refine al_nil ?_
 refine nm ?_
 refine aw_block ?_
 refine aw_virt 5 1 rfl ?_
 refine aw_loop (fun p : {p : Nat × List (List UInt8) × Nat // p.1 ≤ 6 ∧ p.2.1.length ≤ most ∧ p.2.2 < 64 ∧ p.2.1.length ≤ p.1 ∧ p.2.1 ++ pickK (ks.drop p.1) p.2.2 (most - p.2.1.length) = K} => ⟨[(0, .ptr 0 0 0), (1, .int .i64 most), (5, .own 1 0 p.1.2.1.length), (6, .int .i64 p.1.2.2), (7, .sl 1 A), (8, .int .i64 p.1.1)], [(0, pkB l n1), (1, .cells 1 (p.1.2.1.map sb))], 2⟩) (fun p => 6 - p.1.1) ⟨(0, [], v), by dsimp only; refine ⟨by omega, by simp, hlt, by simp, ?_⟩; rw [List.drop_zero, hK]; rfl⟩ ?_ ?_
 ·exact le_to [(1, 2)] rfl rfl rfl rfl rfl ⟨rfl, rfl, rfl, rfl, rfl, rfl, trivial⟩ ⟨rfl, rfl, trivial⟩
 ·rintro ⟨⟨i, out, b⟩, h1, h2, h3, h4, h5⟩
  dsimp only at h1 h2 h3 h4 h5 ⊢
  have hol : (out.map sb).length = out.length := List.length_map _
  by_cases hi : i < 6
  ·by_cases hr : out.length < most
   ·obtain ⟨x, hx⟩ : ∃ x, ks[i]? = some x := ⟨_, List.getElem?_eq_getElem (by omega)⟩
    have hxb := hkA i x hx
    have hd : ks.drop i = x :: ks.drop (i + 1) := by
     rw [List.drop_eq_getElem_cons (by omega)]
     have := List.getElem?_eq_getElem (l := ks) (i := i) (by omega)
     rw [hx] at this
     rw [← Option.some.inj this]
    obtain ⟨r, hrr⟩ : ∃ r, most - out.length = r + 1 := ⟨most - out.length - 1, by omega⟩
    rw [hd, hrr] at h5
    by_cases hb : b % 2 = 1
    ·rw [pickK, if_pos hb] at h5
     refine aw_seq ?_
     refine aw_seq ?_
     refine aw_region ?_
     refine st_p (mv rfl) rfl ?_
     refine st_p (mv rfl) rfl ?_
     refine st_p (op_len Try.underlying71 rfl) rfl ?_
     refine st_p (OpP.conv (op_lt rfl rfl) (yes (by first | assumption | omega))) rfl ?_
     refine st_p (mv rfl) rfl ?_
     refine st_pg rfl rfl rfl (mv rfl) rfl ?_
     refine st_pg rfl rfl rfl (op_leno Try.underlying71 rfl) rfl ?_
     refine st_pg rfl rfl rfl (mv rfl) rfl ?_
     refine st_pg rfl rfl rfl (OpP.conv (op_lt rfl rfl) (yes (by first | assumption | omega))) rfl ?_
     refine st_p (pkT rfl rfl) rfl ?_
     refine al_nil ?_
     refine nm ?_
     refine aw_yes (rfl) ?_
     refine aw_skip ?_
     refine nm ?_
     refine aw_seq ?_
     refine aw_block ?_
     refine aw_seq ?_
     refine aw_seq ?_
     refine aw_region ?_
     refine st_p (mv rfl) rfl ?_
     refine st_p (op_remi rfl rfl (by omega) (by omega)) rfl ?_
     refine st_p (OpP.conv (op_eq rfl rfl) (yes (by first | assumption | omega))) rfl ?_
     refine al_nil ?_
     refine nm ?_
     refine aw_yes (rfl) ?_
     refine aw_region ?_
     refine st_p (mv rfl) rfl ?_
     refine st_p (mv rfl) rfl ?_
     refine st_p (mv rfl) rfl ?_
     refine st_p (op_indexAddrL Try.underlying71 z9 rfl rfl (by omega) (by first | assumption | rfl)) rfl ?_
     refine st_p (op_load1L Try.underlying9 rfl rfl rfl) rfl ?_
     refine st_o (bsl Try.underlying71 i9 o9 (by decide) rfl rfl rfl (by decide)) rfl ?_
     refine st_o (op_app Try.underlying71 Try.underlying71 (.inl ⟨_, rfl⟩) i9 o9 rfl rfl rfl (by first | rfl | omega | (simp; done) | (simp; omega)) ((SrcA.whole rfl (by first | rfl | (simp; done))).ok rfl (by first | assumption | intro z hz; simp only [List.mem_singleton, List.drop_zero, List.take_succ_cons, List.take_zero, List.mem_cons, List.not_mem_nil, or_false, List.mem_map] at hz; first | (subst hz; rfl) | (obtain ⟨_, _, rfl⟩ := hz; rfl) | (rcases hz with rfl | rfl <;> rfl))) (by first | omega | (simp; try omega)) rfl) rfl ?_
     refine st_p (mva rfl) rfl ?_
     refine al_nil ?_
     refine nm ?_
     refine aw_region ?_
     refine st_p (mv rfl) rfl ?_
     refine st_p (op_quoi rfl rfl (by omega) (by omega)) rfl ?_
     refine st_p (mva rfl) rfl ?_
     refine al_nil ?_
     refine nmb ?_
     refine nm ?_
     refine aw_region ?_
     refine st_p (mv rfl) rfl ?_
     refine st_p (op_addi rfl rfl (by omega)) rfl ?_
     refine st_p (mva rfl) rfl ?_
     refine al_nil ?_
     refine nm ?_
     refine ⟨⟨(i + 1, out ++ [x], b / 2), by dsimp only; refine ⟨by omega, by simp; omega, by omega, by simp; omega, ?_⟩; rw [List.append_assoc, show most - (out ++ [x]).length = r by simp; omega]; exact h5⟩, by dsimp only; omega, le_to [(1, 3)] rfl rfl rfl rfl rfl ⟨rfl, rfl, ?_, ?_, rfl, rfl, trivial⟩ ⟨rfl, ?_, trivial⟩⟩
     ·simp [AV.ren, tget, swp]
     ·simp [AV.ren, tget, swp]
     ·simp [Blk.ren, hget, swp, AV.ren, sb]
    ·rw [pickK, if_neg hb] at h5
     refine aw_seq ?_
     refine aw_seq ?_
     refine aw_region ?_
     refine st_p (mv rfl) rfl ?_
     refine st_p (mv rfl) rfl ?_
     refine st_p (op_len Try.underlying71 rfl) rfl ?_
     refine st_p (OpP.conv (op_lt rfl rfl) (yes (by first | assumption | omega))) rfl ?_
     refine st_p (mv rfl) rfl ?_
     refine st_pg rfl rfl rfl (mv rfl) rfl ?_
     refine st_pg rfl rfl rfl (op_leno Try.underlying71 rfl) rfl ?_
     refine st_pg rfl rfl rfl (mv rfl) rfl ?_
     refine st_pg rfl rfl rfl (OpP.conv (op_lt rfl rfl) (yes (by first | assumption | omega))) rfl ?_
     refine st_p (pkT rfl rfl) rfl ?_
     refine al_nil ?_
     refine nm ?_
     refine aw_yes (rfl) ?_
     refine aw_skip ?_
     refine nm ?_
     refine aw_seq ?_
     refine aw_block ?_
     refine aw_seq ?_
     refine aw_seq ?_
     refine aw_region ?_
     refine st_p (mv rfl) rfl ?_
     refine st_p (op_remi rfl rfl (by omega) (by omega)) rfl ?_
     refine st_p (OpP.conv (op_eq rfl rfl) (no (by first | assumption | omega))) rfl ?_
     refine al_nil ?_
     refine nm ?_
     refine aw_no (rfl) ?_
     refine aw_skip ?_
     refine nm ?_
     refine aw_region ?_
     refine st_p (mv rfl) rfl ?_
     refine st_p (op_quoi rfl rfl (by omega) (by omega)) rfl ?_
     refine st_p (mva rfl) rfl ?_
     refine al_nil ?_
     refine nmb ?_
     refine nm ?_
     refine aw_region ?_
     refine st_p (mv rfl) rfl ?_
     refine st_p (op_addi rfl rfl (by omega)) rfl ?_
     refine st_p (mva rfl) rfl ?_
     refine al_nil ?_
     refine nm ?_
     refine ⟨⟨(i + 1, out, b / 2), by dsimp only; refine ⟨by omega, by omega, by omega, by omega, ?_⟩; rw [hrr]; exact h5⟩, by dsimp only; omega, le_to [(1, 1)] rfl rfl rfl rfl rfl ⟨rfl, rfl, rfl, ?_, rfl, rfl, trivial⟩ ⟨rfl, ?_, trivial⟩⟩
     ·simp [AV.ren, tget, swp]
     ·simp [Blk.ren, hget, swp, AV.ren, sb]
   ·have hK2 : out = K := by rw [show most - out.length = 0 by omega, pickK_0, List.append_nil] at h5; exact h5
    subst hK2
    refine aw_seq ?_
    refine aw_seq ?_
    refine aw_region ?_
    refine st_p (mv rfl) rfl ?_
    refine st_p (mv rfl) rfl ?_
    refine st_p (op_len Try.underlying71 rfl) rfl ?_
    refine st_p (OpP.conv (op_lt rfl rfl) (yes (by first | assumption | omega))) rfl ?_
    refine st_p (mv rfl) rfl ?_
    refine st_pg rfl rfl rfl (mv rfl) rfl ?_
    refine st_pg rfl rfl rfl (op_leno Try.underlying71 rfl) rfl ?_
    refine st_pg rfl rfl rfl (mv rfl) rfl ?_
    refine st_pg rfl rfl rfl (OpP.conv (op_lt rfl rfl) (no (by first | assumption | omega))) rfl ?_
    refine st_p (pkT rfl rfl) rfl ?_
    refine al_nil ?_
    refine nm ?_
    refine aw_no (rfl) ?_
    refine aw_exit ?_
    refine xs ?_
    refine xs ?_
    refine xb ?_
    refine nm ?_
    refine aw_seq ?_
    refine aw_frz 1 (xs := out.map sb) rfl (by first | rfl | assumption | simp [AV.plain, plains, bl_plain, sb]) rfl ?_
    dsimp only [frzS, hdel, List.map_cons, List.map_nil, AV.frz, frzs, Blk.frz, ↓reduceIte, Nat.reduceEqDiff, reduceCtorEq]
    refine aw_region ?_
    refine st_p (mv rfl) rfl ?_
    refine st_p (mva rfl) rfl ?_
    refine al_nil ?_
    refine nm ?_
    refine aw_ret ?_
    exact ret_a ⟨[(4, .sl 1 (out.map sb))], [(0, pkB l n1)], 1⟩ (le_to [] rfl rfl rfl rfl rfl ⟨by simp [tget, AV.ren, AV.frz, ← List.map_take], trivial⟩ ⟨rfl, trivial⟩) (res1 Try.results37) (.inl rfl) ⟨rfl, rfl, rfl⟩
  ·have hK2 : out = K := by rw [List.drop_of_length_le (by omega), pickK, List.append_nil] at h5; exact h5
   subst hK2
   refine aw_seq ?_
   refine aw_seq ?_
   refine aw_region ?_
   refine st_p (mv rfl) rfl ?_
   refine st_p (mv rfl) rfl ?_
   refine st_p (op_len Try.underlying71 rfl) rfl ?_
   refine st_p (OpP.conv (op_lt rfl rfl) (no (by first | assumption | omega))) rfl ?_
   refine st_p (mv rfl) rfl ?_
   refine st_s rfl rfl rfl rfl rfl ?_
   refine st_s rfl rfl rfl rfl rfl ?_
   refine st_s rfl rfl rfl rfl rfl ?_
   refine st_s rfl rfl rfl rfl rfl ?_
   refine st_p (pkF rfl rfl) rfl ?_
   refine al_nil ?_
   refine nm ?_
   refine aw_no (rfl) ?_
   refine aw_exit ?_
   refine xs ?_
   refine xs ?_
   refine xb ?_
   refine nm ?_
   refine aw_seq ?_
   refine aw_frz 1 (xs := out.map sb) rfl (by first | rfl | assumption | simp [AV.plain, plains, bl_plain, sb]) rfl ?_
   dsimp only [frzS, hdel, List.map_cons, List.map_nil, AV.frz, frzs, Blk.frz, ↓reduceIte, Nat.reduceEqDiff, reduceCtorEq]
   refine aw_region ?_
   refine st_p (mv rfl) rfl ?_
   refine st_p (mva rfl) rfl ?_
   refine al_nil ?_
   refine nm ?_
   refine aw_ret ?_
   exact ret_a ⟨[(4, .sl 1 (out.map sb))], [(0, pkB l n1)], 1⟩ (le_to [] rfl rfl rfl rfl rfl ⟨by simp [tget, AV.ren, AV.frz, ← List.map_take], trivial⟩ ⟨rfl, trivial⟩) (res1 Try.results37) (.inl rfl) ⟨rfl, rfl, rfl⟩

end Go.Proofs.Ytpggknkhldecaaa.Abs
end
