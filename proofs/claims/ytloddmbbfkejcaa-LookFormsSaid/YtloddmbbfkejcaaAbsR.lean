/-
  What a statement's arguments stand for; a statement's row. It holds of any program.
-/
import Derived.Test.YtloddmbbfkejcaaAbsQ
import Derived.RowKit
import Derived.OpenShut
import Derived.Below
import Derived.Deep.Slices
import Derived.ChangeArms
import Derived.ProofKit
import Derived.SizedLaws
namespace Go.Proofs.Ytloddmbbfkejcaa.Abs
open Go.RowKit

section
variable {P : Program} {w : World} {t e : TypeId} {α β : Type}

def Old (w : World) : Nat → Prop := fun b => b < w.heap.size

def Sz {H : Type} (P : Program) (t : TypeId) (d : DataW H) : Prop := ∀ n ∈ DataW.weights P t d, n ≤ reachBytes

theorem sz_at {H : Type} {ts : List TypeId} {ds : List (DataW H)} (h : (DataW.weightsEach P ts ds).all (· ≤ reachBytes) = true) {j : Nat} {d : DataW H} (ht : ts[j]? = some t) (hd : ds[j]? = some d) : Sz P t d := fun n hn => by
  have := List.all_eq_true.1 h _ (DataW.weights_mem_each ht hd n hn)
  simpa using this

theorem sz_all {H : Type} {d : DataW H} {n : Nat} (hn : n ∈ DataW.weights P e d) : ∀ {l : List (DataW H)}, d ∈ l → n ∈ DataW.weightsAll P e l := by
  intro l
  induction l with
  | nil => intro h; cases h
  | cons x l ih =>
    intro h
    simp only [DataW.weightsAll, List.mem_append]
    rcases List.mem_cons.1 h with rfl | h
    · exact .inl hn
    · exact .inr (ih h)

/-- Whatever is read at type t stands for some a, as A says. -/
def RdA (P : Program) (w : World) (t : TypeId) (sz : Nat) (A : α → AV) (g : α → Prop) : Prop :=
  ∀ (H : Type) (enc : TypeId × Value → H) (base : Nat) (spare : Nat → Bool) (held : Bool) (fuel : Nat) (cs : List Value) (x : DataW H × List MemPlace), DataW.trod enc P w base spare held fuel t cs = some x → Sz P t x.1 →
    ∃ a, (A a).cells.length = sz ∧ cs.length = sz ∧ (∀ (i : Nat) (y : AV) (u : Value), (A a).cells[i]? = some y → cs[i]? = some u → VR (Old w) w rho0 y u ∧ u.oneCell' = true) ∧ g a

theorem one_cell {x : AV} {v : Value} (hx : x.cells = [x]) (h : VR (Old w) w rho0 x v) (h1 : v.oneCell' = true) : x.cells.length = 1 ∧ [v].length = 1 ∧ ∀ (i : Nat) (y : AV) (u : Value), x.cells[i]? = some y → [v][i]? = some u → VR (Old w) w rho0 y u ∧ u.oneCell' = true := by
  refine ⟨by rw [hx]; rfl, rfl, fun i y u hy hu => ?_⟩
  rw [hx] at hy
  cases i with
  | zero =>
    obtain rfl := Option.some.inj hy
    obtain rfl := Option.some.inj hu
    exact ⟨h, h1⟩
  | succ i => simp at hy

theorem rda_bool (ht : P.underlying t = some .bool) : RdA P w t 1 AV.bool (fun _ => True) := by
  intro H enc base spare held fuel cs x h hz
  obtain ⟨n, rfl, _⟩ := DataW.trod_bool ht h
  obtain ⟨h1, h2, h3⟩ := one_cell (w := w) (x := .bool n) rfl .bool rfl
  exact ⟨n, h1, h2, h3, trivial⟩
theorem rda_int {k : IntKind} (ht : P.underlying t = some (.int k)) : RdA P w t 1 (AV.int k) (fun n => (Lit.int k n).wf = true) := by
  intro H enc base spare held fuel cs x h hz
  obtain ⟨n, rfl, _, hn⟩ := DataW.trod_int ht h
  obtain ⟨h1, h2, h3⟩ := one_cell (w := w) (x := .int k n) rfl .int rfl
  exact ⟨n, h1, h2, h3, hn⟩
theorem rda_string (ht : P.underlying t = some .string) : RdA P w t 1 sb (fun s => s.length ≤ reachBytes) := by
  intro H enc base spare held fuel cs x h hz
  obtain ⟨s, rfl, hx, hs⟩ := DataW.trod_string ht h
  obtain ⟨h1, h2, h3⟩ := one_cell (w := w) (x := sb s.data.toList) rfl .str rfl
  exact ⟨s.data.toList, h1, h2, h3, hz _ (by rw [hx]; simp [DataW.weights])⟩

theorem cells_get {base : Nat} {a : Addr} {n : Nat} {cs : List Value} (h : w.cells? base a n = some cs) : cs.length = n ∧ ∀ (i : Nat) (u : Value), cs[i]? = some u → w.cell? (a.add i) = some u := by
  unfold World.cells? at h
  split at h
  · have hl := mapM_some_length h
    rw [List.length_range] at hl
    refine ⟨hl.symm ▸ rfl, fun i u hu => ?_⟩
    have hi : i < n := by
      have := (List.getElem?_eq_some_iff.1 hu).1
      omega
    have := mapM_some_get h i i (by rw [List.getElem?_range hi])
    rw [this]
    exact hu
  · cases h

theorem cell_spot {a : Addr} {u : Value} (h : w.cell? a = some u) : a = ⟨a.block, a.off, none⟩ ∧ a.block < w.heap.size := by
  unfold World.cell? at h
  split at h
  · rename_i c t fr hb
    split at h
    · cases h
    · rename_i hs
      obtain ⟨b, o, sp⟩ := a
      cases sp with
      | none => exact ⟨rfl, (Array.getElem?_eq_some_iff.1 hb).1⟩
      | some x => exact absurd rfl hs
  · cases h

theorem rda_slice {sz : Nat} {A : α → AV} {g : α → Prop} (ht : P.underlying t = some (.slice e)) (hsz : P.cellsOf e = sz) (hpos : 0 < sz) (hby : 0 < P.bytesOf e) (h : RdA P w e sz A g) : RdA P w t 1 (fun l : List α => .sl sz (l.map A)) (fun l => (∀ x ∈ l, g x) ∧ l.length ≤ reachBytes) := by
  intro H enc base spare held fuel cs x hx hz
  rcases Deep.open_slice ht hx with ⟨rfl, _⟩ | ⟨a, len, cap, m, n, D, Pl, rfl, _, hl, hm, hme, hxe, hel⟩
  · obtain ⟨h1, h2, h3⟩ := one_cell (w := w) (x := .sl sz []) rfl .sl0 (v := .slice none 0 0) rfl
    exact ⟨[], h1, h2, h3, (fun x hx => by cases hx), Nat.zero_le _⟩
  · have hlm : len ≤ m := by rw [hme]; split <;> omega
    rcases Nat.eq_zero_or_pos len with h0 | h0
    · subst h0
      obtain ⟨h1, h2, h3⟩ := one_cell (w := w) (x := .sl sz []) rfl .sl0 (v := .slice (some a) 0 cap) rfl
      exact ⟨[], h1, h2, h3, (fun x hx => by cases hx), Nat.zero_le _⟩
    · have key : ∀ i, i < len → ∃ q : α × List Value, w.cells? base (a.add (i * sz)) sz = some q.2 ∧ (A q.1).cells.length = sz ∧ (∀ (j : Nat) (y : AV) (u : Value), (A q.1).cells[j]? = some y → q.2[j]? = some u → VR (Old w) w rho0 y u ∧ u.oneCell' = true) ∧ g q.1 := by
        intro i hi
        obtain ⟨cs', hc, ht'⟩ := hel i (by omega)
        rw [hsz] at hc
        obtain ⟨y, h1, h2, h3, h4⟩ := h H enc base spare held n cs' _ ht' (fun q hq => hz q (by
          rw [hxe]
          simp only [DataW.weights, ht, List.mem_cons, List.mem_append]
          exact .inr (.inl (sz_all hq (List.mem_map.2 ⟨i, List.mem_range.2 hi, rfl⟩)))))
        exact ⟨(y, cs'), hc, h1, h3, h4⟩
      obtain ⟨q0, _⟩ := key 0 h0
      haveI : Inhabited (α × List Value) := ⟨q0⟩
      obtain ⟨f, hf⟩ := Deep.choose_lt key
      let xs : List α := (List.range len).map fun i => (f i).1
      let vs : List Value := (List.range len).flatMap fun i => (f i).2
      have hfl : ∀ i, i < len → (f i).2.length = sz := fun i hi => (cells_get (hf i hi).1).1
      have hvl : ∀ n, n ≤ len → ((List.range n).flatMap fun i => (f i).2).length = n * sz := by
        intro n
        induction n with
        | zero => intro _; simp
        | succ n ih => intro hn; rw [List.range_succ, List.flatMap_append, List.length_append, ih (by omega), Nat.add_mul, Nat.one_mul]; simp [hfl n (by omega)]
      have hget : ∀ n, n ≤ len → ∀ (j : Nat) (u : Value), ((List.range n).flatMap fun i => (f i).2)[j]? = some u → j / sz < n ∧ (f (j / sz)).2[j % sz]? = some u := by
        intro n
        induction n with
        | zero => intro _ j u hu; simp at hu
        | succ n ih =>
          intro hn j u hu
          rw [List.range_succ, List.flatMap_append] at hu
          rcases Nat.lt_or_ge j (n * sz) with hlt | hge
          · rw [List.getElem?_append_left (by rw [hvl n (by omega)]; exact hlt)] at hu
            obtain ⟨h1, h2⟩ := ih (by omega) j u hu
            exact ⟨by omega, h2⟩
          · rw [List.getElem?_append_right (by rw [hvl n (by omega)]; exact hge), hvl n (by omega)] at hu
            simp only [List.flatMap_cons, List.flatMap_nil, List.append_nil] at hu
            have hj : j - n * sz < sz := by
              have := (List.getElem?_eq_some_iff.1 hu).1
              rwa [hfl n (by omega)] at this
            have hj' : j = n * sz + (j - n * sz) := by omega
            have e1 : j / sz = n := by
              obtain ⟨r, hr⟩ : ∃ r, r = j - n * sz := ⟨_, rfl⟩
              rw [← hr] at hj hj'
              rw [hj', Nat.mul_comm n sz, Nat.mul_add_div hpos, Nat.div_eq_of_lt hj]; rfl
            have e2 : j % sz = j - n * sz := by
              have := Nat.div_add_mod j sz
              rw [e1, Nat.mul_comm] at this
              omega
            rw [e1, e2]
            exact ⟨Nat.lt_succ_self n, hu⟩
      have hcell : ∀ (j : Nat) (u : Value), vs[j]? = some u → w.cell? (a.add j) = some u ∧ ∃ y, (flat (xs.map A))[j]? = some y ∧ VR (Old w) w rho0 y u ∧ u.oneCell' = true := by
        intro j u hu
        obtain ⟨h1, h2⟩ := hget len (Nat.le_refl _) j u hu
        obtain ⟨k1, k2, k3, k4⟩ := hf (j / sz) h1
        have hc := (cells_get k1).2 _ _ h2
        rw [Deep.add_add, Nat.mul_comm, Nat.div_add_mod] at hc
        refine ⟨hc, ?_⟩
        have hx : (xs.map A)[j / sz]? = some (A (f (j / sz)).1) := by
          show (((List.range len).map fun i => (f i).1).map A)[j / sz]? = _
          rw [List.getElem?_map, List.getElem?_map, List.getElem?_range h1]; rfl
        have hall : ∀ x ∈ xs.map A, x.cells.length = sz := by
          intro x hx
          obtain ⟨y, hy, rfl⟩ := List.mem_map.1 hx
          obtain ⟨i, hi, rfl⟩ := List.mem_map.1 hy
          exact (hf i (List.mem_range.1 hi)).2.1
        have hfa := flat_at hall hx (r := j % sz) (Nat.mod_lt _ hpos)
        rw [Nat.mul_comm, Nat.div_add_mod] at hfa
        obtain ⟨y, hy⟩ : ∃ y, (A (f (j / sz)).1).cells[j % sz]? = some y := ⟨_, List.getElem?_eq_getElem (by rw [k2]; exact Nat.mod_lt _ hpos)⟩
        exact ⟨y, by rw [hfa]; exact hy, k3 _ _ _ hy h2⟩
      have hxl : (xs.map A).length = len := by simp [xs]
      have hall : ∀ x ∈ xs.map A, x.cells.length = sz := by
        intro x hx
        obtain ⟨y, hy, rfl⟩ := List.mem_map.1 hx
        obtain ⟨i, hi, rfl⟩ := List.mem_map.1 hy
        exact (hf i (List.mem_range.1 hi)).2.1
      have hvlen : vs.length = len * sz := hvl len (Nat.le_refl _)
      obtain ⟨u0, hu0⟩ : ∃ u, vs[0]? = some u := ⟨_, List.getElem?_eq_getElem (by rw [hvlen]; exact Nat.mul_pos h0 hpos)⟩
      have ha0 := (hcell 0 u0 hu0).1
      obtain ⟨hs1, hs2⟩ := cell_spot ha0
      have haspot : a = ⟨a.block, a.off, none⟩ := by
        have hsp : a.spot = none := by have := congrArg Addr.spot hs1; simpa [Addr.add] using this
        generalize a = z at hsp
        obtain ⟨b, o, sp⟩ := z
        simp only at hsp
        rw [hsp]
      have hblk : a.block < w.heap.size := hs2
      have hvr : VR (Old w) w rho0 (.sl sz (xs.map A)) (.slice (some a) len cap) := by
        have := @VR.sl (Old w) w rho0 sz (xs.map A) a.block a.off cap vs hblk (by rw [flat_len hall, hxl, hvlen]) hall (by rw [hxl]; exact hl) (fun i u hu => ?_) (fun i y u hy hu => ?_)
        · rw [hxl, ← haspot] at this
          exact this
        · obtain ⟨h1, y, _, _, h2⟩ := hcell i u hu
          rw [haspot, Addr.add_lit] at h1
          exact ⟨h1, h2⟩
        · obtain ⟨_, y', h1, h2, _⟩ := hcell i u hu
          rw [hy] at h1
          obtain rfl := Option.some.inj h1
          exact h2
      obtain ⟨h1, h2, h3⟩ := one_cell (w := w) (x := .sl sz (xs.map A)) rfl hvr rfl
      exact ⟨xs, h1, h2, h3, (fun x hx => by
        obtain ⟨i, hi, rfl⟩ := List.mem_map.1 hx
        exact (hf i (List.mem_range.1 hi)).2.2.2), by
        simp only [xs, List.length_map, List.length_range]
        have := hz (((List.range len).map D).length + ((List.range (m - len)).map fun j => D (len + j)).length |> (· * P.bytesOf e)) (by
          rw [hxe]
          simp only [DataW.weights, ht]
          exact List.mem_cons_self)
        simp only [List.length_map, List.length_range] at this
        have h2 : len ≤ (len + (m - len)) * P.bytesOf e := Nat.le_trans (by omega) (Nat.le_mul_of_pos_right _ hby)
        omega⟩

/-! ### Structs -/

/-- Fields, one behind the other, from offset o on. -/
def RdF (P : Program) (w : World) (l : List (Nat × TypeId)) (o sz : Nat) (F : α → List AV) (g : α → Prop) : Prop :=
  ∀ (H : Type) (enc : TypeId × Value → H) (base : Nat) (spare : Nat → Bool) (held : Bool) (fuel : Nat) (cs : List Value), cs.length = sz →
    (∀ p ∈ l, ∃ x, DataW.trod enc P w base spare held fuel p.2 ((cs.drop (p.1 - o)).take (P.cellsOf p.2)) = some x ∧ Sz P p.2 x.1) → ∃ a, (F a).length = sz ∧ (∀ (i : Nat) (y : AV) (u : Value), (F a)[i]? = some y → cs[i]? = some u → VR (Old w) w rho0 y u ∧ u.oneCell' = true) ∧ g a

theorem rdf_last {o sz : Nat} {A : α → AV} {g : α → Prop} (hsz : P.cellsOf t = sz) (h : RdA P w t sz A g) : RdF P w [(o, t)] o sz (fun a => (A a).cells) g := by
  intro H enc base spare held fuel cs hl hf
  obtain ⟨x, hx, hz⟩ := hf (o, t) (by simp)
  simp only [Nat.sub_self, List.drop_zero] at hx
  rw [List.take_of_length_le (by omega)] at hx
  obtain ⟨a, h1, _, h3, h4⟩ := h H enc base spare held fuel cs x hx hz
  exact ⟨a, h1, h3, h4⟩

theorem rdf_cons {o sz sz' : Nat} {l : List (Nat × TypeId)} {A : α → AV} {F : β → List AV} {g : α → Prop} {g' : β → Prop} (hsz : P.cellsOf t = sz) (ho : l.all (fun p => o + sz ≤ p.1) = true) (h : RdA P w t sz A g) (h' : RdF P w l (o + sz) sz' F g') :
    RdF P w ((o, t) :: l) o (sz + sz') (fun p : α × β => (A p.1).cells ++ F p.2) (fun p => g p.1 ∧ g' p.2) := by
  intro H enc base spare held fuel cs hl hf
  obtain ⟨x, hx, hz⟩ := hf (o, t) (by simp)
  simp only [Nat.sub_self, List.drop_zero] at hx
  rw [hsz] at hx
  obtain ⟨a, h1, h2, h3, hga⟩ := h H enc base spare held fuel _ x hx hz
  obtain ⟨b, k1, k3, hgb⟩ := h' H enc base spare held fuel (cs.drop sz) (by rw [List.length_drop]; omega) (fun p hp => by
    obtain ⟨y, hy, hyz⟩ := hf p (List.mem_cons_of_mem _ hp)
    refine ⟨y, ?_, hyz⟩
    have hp' : o + sz ≤ p.1 := by simpa using List.all_eq_true.1 ho p hp
    rw [List.drop_drop, show sz + (p.1 - (o + sz)) = p.1 - o from by omega]
    exact hy)
  refine ⟨(a, b), by rw [List.length_append, h1, k1], fun i y u hy hu => ?_, hga, hgb⟩
  have hy : ((A a).cells ++ F b)[i]? = some y := hy
  rcases Nat.lt_or_ge i sz with hlt | hge
  · rw [List.getElem?_append_left (by rw [h1]; exact hlt)] at hy
    exact h3 i y u hy (by rw [List.getElem?_take_of_lt hlt]; exact hu)
  · rw [List.getElem?_append_right (by rw [h1]; exact hge), h1] at hy
    exact k3 (i - sz) y u hy (by rw [List.getElem?_drop, show sz + (i - sz) = i from by omega]; exact hu)

theorem rda_struct {fs : Array Field} {l : List (Nat × TypeId)} {sz : Nat} {F : α → List AV} {g : α → Prop} (ht : P.underlying t = some (.struct fs)) (hl : fs.toList.map (fun f => (f.offset, f.type)) = l) (hsz : P.cellsOf t = sz) (h : RdF P w l 0 sz F g) : RdA P w t sz (fun a => .agg (F a)) g := by
  intro H enc base spare held fuel cs x hx hz
  obtain ⟨xs, n, rfl, hxe, hcl, hxl, hel⟩ := DataW.trod_struct ht hx
  obtain ⟨a, h1, h2, h3⟩ := h H enc base spare held n cs (by omega) (fun p hp => by
    rw [← hl] at hp
    obtain ⟨f, hf, rfl⟩ := List.mem_map.1 hp
    obtain ⟨i, hi, hfi⟩ := List.mem_iff_getElem.1 hf
    have hfi' : fs[i]? = some f := by
      rw [← hfi]
      simp at hi ⊢
    have := hel i f hfi'
    have hxi : i < xs.length := by
      rw [hxl]
      simpa using hi
    rw [List.getElem?_eq_getElem hxi] at this
    refine ⟨xs[i], by simpa using this, fun q hq => hz q ?_⟩
    rw [hxe]
    simp only [DataW.weights, ht]
    exact DataW.weights_mem_each (j := i) (by rw [List.getElem?_map, Array.getElem?_toList, hfi']; rfl) (by rw [List.getElem?_map, List.getElem?_eq_getElem hxi]; rfl) q hq)
  exact ⟨a, h1, by omega, h2, h3⟩

theorem rda_conv {sz : Nat} {A : α → AV} {B : β → AV} {g : α → Prop} {g' : β → Prop} (f : α → β) (hA : ∀ a, g a → A a = B (f a)) (hg : ∀ a, g a → g' (f a)) (h : RdA P w t sz A g) : RdA P w t sz B g' := by
  intro H enc base spare held fuel cs x hx hz
  obtain ⟨a, h1, h2, h3, h4⟩ := h H enc base spare held fuel cs x hx hz
  have e := hA a h4
  exact ⟨f a, by rw [← e]; exact h1, h2, by rw [← e]; exact h3, hg a h4⟩

theorem rda_bytes (ht : P.underlying t = some (.slice e)) (he : P.underlying e = some (.int .u8)) (hsz : P.cellsOf e = 1) (hby : 0 < P.bytesOf e) : RdA P w t 1 (fun l : List UInt8 => .sl 1 (bl l)) (fun l => l.length ≤ reachBytes) :=
  rda_conv (fun l : List Int => l.map fun n => UInt8.ofNat n.toNat) (fun l hl => by
    have : l.map (AV.int .u8) = bl (l.map fun n => UInt8.ofNat n.toNat) := by
      unfold bl
      rw [List.map_map]
      refine List.map_congr_left fun n hn => ?_
      have h := hl.1 n hn
      have h2 : 0 ≤ n ∧ n < 256 := by
        simp only [Lit.wf, Bool.and_eq_true, decide_eq_true_eq] at h
        have e1 : IntKind.u8.min = 0 := rfl
        have e2 : IntKind.u8.max = 255 := rfl
        omega
      show AV.int .u8 n = AV.int .u8 ((UInt8.ofNat n.toNat).toNat : Int)
      rw [UInt8.toNat_ofNat', Nat.mod_eq_of_lt (by simp; omega), Int.toNat_of_nonneg h2.1]
    rw [this]) (fun l hl => by rw [List.length_map]; exact hl.2) (rda_slice ht hsz (by decide) hby (rda_int he))

/-! ### At the top -/

variable {H : Type} {enc : TypeId × Value → H} {spare : Nat → Bool} {held : Bool} {base b0 sz : Nat} {r : Reach} {v : Value} {d : DataW H} {ps : List MemPlace} {A : α → AV} {g : α → Prop}

theorem top_one (h : RdA P w t 1 A g) (hc : ∀ a, (A a).cells = [A a]) (hv : v.cells = #[v]) (hd : DataW.Trod enc P w base spare held t v d ps) (hz : Sz P t d) : ∃ a, VR (Old w) w rho0 (A a) v ∧ g a := by
  obtain ⟨fuel, hf⟩ := hd
  obtain ⟨a, _, _, h3, h4⟩ := h H enc base spare held fuel _ _ hf hz
  rw [hv] at h3
  exact ⟨a, (h3 0 (A a) v (by rw [hc]; rfl) rfl).1, h4⟩

theorem top_agg {cs : Array Value} {F : α → List AV} (h : RdA P w t sz (fun a => .agg (F a)) g) (hd : DataW.Trod enc P w base spare held t (.agg cs) d ps) (hz : Sz P t d) : ∃ a, VR (Old w) w rho0 (.agg (F a)) (.agg cs) ∧ g a := by
  obtain ⟨fuel, hf⟩ := hd
  obtain ⟨a, h1, h2, h3, h4⟩ := h H enc base spare held fuel _ _ hf hz
  exact ⟨a, .agg cs (h1.trans (h2.symm.trans (by simp [Value.cells]))) (fun i x u hx hu => (h3 i x u hx (by rw [show (Value.agg cs).cells = cs from rfl, Array.getElem?_toList]; exact hu)).1), h4⟩

/-- A statement that comes out true. -/
theorem law_calls {f : FuncId} {args : List AV} {al : Bool} {vals : Array Value} {W : World} (h : AC P f args [] 0 al (fun r _ _ => r = .bool true)) (hv : VRs (Old W) W rho0 args vals) : Calls P f vals W fun e W' => e = .returned (.bool true) ∧ Below W.heap.size W W' := by
  refine (h rho0 (Old W) W vals ⟨fun b B hb => (by cases hb), fun b b' B B' r r' hb => (by cases hb), fun b hb => hb⟩ (fun _ _ => rfl) hv).mono ?_
  rintro e W' ⟨v, r, h', nx', ρ', S', rfl, rfl, hvr, _, _, _, hp⟩
  exact ⟨by rw [hvr.bool_inv], hp.os, hp.tape, hp.output, hp.size, fun k hk => hp.keep k hk (fun ⟨i, B, q, e, _⟩ => by cases e)⟩

theorem vrs_nil {S : Nat → Prop} {ρ : Rho} : VRs S w ρ [] #[] := ⟨rfl, fun i x u hx => by simp at hx⟩
theorem vrs_of {S : Nat → Prop} {ρ : Rho} {xs : List AV} {vs : List Value} (h : xs.length = vs.length ∧ ∀ (i : Nat) (x : AV) (u : Value), xs[i]? = some x → vs[i]? = some u → VR S w ρ x u) : VRs S w ρ xs vs.toArray := ⟨by simpa using h.1, fun i x u hx hu => h.2 i x u hx (by simpa using hu)⟩
theorem vrs_cons {S : Nat → Prop} {ρ : Rho} {x : AV} {u : Value} {xs : List AV} {vs : List Value} (h : VR S w ρ x u) (ht : xs.length = vs.length ∧ ∀ (i : Nat) (x : AV) (u : Value), xs[i]? = some x → vs[i]? = some u → VR S w ρ x u) :
    (x :: xs).length = (u :: vs).length ∧ ∀ (i : Nat) (y : AV) (z : Value), (x :: xs)[i]? = some y → (u :: vs)[i]? = some z → VR S w ρ y z := by
  refine ⟨by simp [ht.1], fun i y z hy hz => ?_⟩
  cases i with
  | zero => obtain rfl := Option.some.inj hy; obtain rfl := Option.some.inj hz; exact h
  | succ i => exact ht.2 i y z hy hz
theorem vrs_nil' {S : Nat → Prop} {ρ : Rho} : ([] : List AV).length = ([] : List Value).length ∧ ∀ (i : Nat) (x : AV) (u : Value), ([] : List AV)[i]? = some x → ([] : List Value)[i]? = some u → VR S w ρ x u := ⟨rfl, fun i x u hx => by simp at hx⟩

end
end Go.Proofs.Ytloddmbbfkejcaa.Abs
