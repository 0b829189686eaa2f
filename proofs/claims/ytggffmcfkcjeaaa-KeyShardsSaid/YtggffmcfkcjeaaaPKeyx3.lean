/- Written by a program of this session (pp.py over the kit's print.py): functions as they are printed, the walks, the rows. No condition beyond those that each theorem states. -/
import Derived.Test.YtggffmcfkcjeaaaPKeyx0
import Derived.Test.YtggffmcfkcjeaaaPKeyx1
namespace Go.Proofs.Ytggffmcfkcjeaaa.PKey
open Go.RowKit Go.Proofs.YtggffmcfkcjeaaaW.PrintWords Go.Proofs.YtggffmcfkcjeaaaW.PrintLast Go.Proofs.YtggffmcfkcjeaaaW.PrintMore
attribute [local go_sem] max2_int min2_int max_two min_two max_three min_three max_four min_four   -- for this text's walks alone
set_option linter.unusedVariables false
set_option linter.unusedSimpArgs false

/-! ### diwanlaw4_KeyShards: function 9 (by hand) -/
/-- Eight bytes, turned: what stands at each place. -/
def placeOf (turn : Int) (i : Nat) : Int := Int.tmod (wrap64 ((i : Int) + wrap64 turn)) 8
def turnBy (b : List Int) (turn : Int) : List Int := (List.range 8).map fun (i : Nat) => rd b (placeOf turn i)
def turnTo (b : List Int) (turn : Int) (i : Nat) : List Int := (turnBy b turn).take i ++ b.drop i
theorem turnBy_length (b : List Int) (turn : Int) : (turnBy b turn).length = 8 := by rw [turnBy, List.length_map, List.length_range]
theorem turnTo_length (b : List Int) (turn : Int) (i : Nat) (hb : b.length = 8) (h : i ≤ 8) : (turnTo b turn i).length = 8 := by
  rw [turnTo, List.length_append, List.length_take, List.length_drop, turnBy_length]; omega
theorem turnTo_set (b : List Int) (turn : Int) (i : Nat) (hb : b.length = 8) (h : i < 8) : (turnTo b turn i).set i (rd b (placeOf turn i)) = turnTo b turn (i + 1) := by
  have hg : (turnBy b turn)[i]? = some (rd b (placeOf turn i)) := by
    rw [turnBy, List.getElem?_map, List.getElem?_range h]; rfl
  have hl := turnBy_length b turn
  generalize rd b (placeOf turn i) = v at hg
  unfold turnTo
  generalize turnBy b turn = l at hg hl
  rw [List.take_add_one, hg]
  have ht : (l.take i).length = i := by rw [List.length_take]; omega
  rw [List.set_append_right _ _ (by omega), ht, Nat.sub_self, List.drop_eq_getElem_cons (show i < b.length by omega), List.set_cons_zero]
  simp
theorem placeOf_in (turn : Int) (i : Nat) (h : i < 8) (h0 : 0 ≤ turn) (h1 : turn < 256) : 0 ≤ placeOf turn i ∧ placeOf turn i < 8 := by
  unfold placeOf
  have e0 : wrap64 turn = turn := by unfold wrap64; omega
  have e : wrap64 ((i : Int) + turn) = (i : Int) + turn := by unfold wrap64; omega
  rw [e0, e, Int.tmod_eq_emod_of_nonneg (by omega)]
  omega
theorem cells20 (w : World) (xs : List Int) (g : Nat) (t : TypeId) (hb : w.heap[g]? = some (.cells (xs.map (Value.int .u8)).toArray t (0, 0))) (n : Nat) (hn : n < xs.length) : w.cell? ⟨g, n, none⟩ = some (.int .u8 (rd xs (n : Int))) := by
  rw [blk_cell hb]
  unfold rd
  rw [List.getD_eq_getElem?_getD, Int.toNat_natCast, List.getElem?_eq_getElem hn]
  simp [hn]
theorem read20 (w : World) (xs : List Int) (g : Nat) (t : TypeId) (hb : w.heap[g]? = some (.cells (xs.map (Value.int .u8)).toArray t (0, 0))) (hm : xs.length ≤ 1000) : Kd.C (Kd.int .u8) w (some ⟨g, 0, none⟩) xs.length xs := by
  refine ⟨rfl, by omega, fun _ => ⟨_, rfl, fun j p hj => ⟨[.int .u8 p], rfl, rfl, fun i u hu => ?_⟩⟩⟩
  have hjl := (List.getElem?_eq_some_iff.1 hj).1
  cases i with
  | succ i => simp at hu
  | zero =>
    have hu' : u = .int .u8 p := by simpa using hu.symm
    subst hu'
    have hz : (Kd.int IntKind.u8).sz = 1 := rfl
    rw [hz, Nat.mul_one, Nat.add_zero, add_plain, cells20 w xs g t hb j hjl]
    unfold rd
    rw [List.getD_eq_getElem?_getD, Int.toNat_natCast, hj]
    rfl
theorem put20 (w : World) (xs : List Int) (g : Nat) (t : TypeId) (hb : w.heap[g]? = some (.cells (xs.map (Value.int .u8)).toArray t (0, 0))) (n : Nat) (v : Int) : (w.setCell ⟨g, n, none⟩ (.int .u8 v)).heap[g]? = some (.cells ((xs.set n v).map (Value.int .u8)).toArray t (0, 0)) := by
  have := blk_set hb n (.int .u8 v)
  rw [this]
  simp [List.map_set]
theorem size_alloc (w : World) (o : Obj) : (w.alloc o).heap.size = w.heap.size + 1 := Array.size_push _
theorem str8 (w : World) (xs : List Int) (hn : xs.length = 8) (g : Nat) (t : TypeId) (hb : w.heap[g]? = some (.cells (xs.map (Value.int .u8)).toArray t (0, 0))) : (convert 22 9 (.slice (some ⟨g, 0, none⟩) 8 8)).run Try.prog w = .ok (.string (strOfNums xs)) w := by
  have h := read20 w xs g t hb (by omega)
  rw [hn] at h
  exact Kd.C_string Try.underlying22 Try.underlying5 Try.underlying9 h
def diwanlaw4_KeyShards.Pure : Prop := ∀ (b : List Int) (turn n : Int), b.length = 8 → (∀ z ∈ b, (Lit.int .u8 z).wf = true) → (Lit.int .u8 turn).wf = true → (Lit.int .u8 n).wf = true →
  ∃ k s m, diwanlaw4_begun.f k = some true ∧ wrap64 (1 + wrap64 (Int.tmod n 3)) = m ∧ key_Shard.f k (strOfNums b) m = some s ∧ key_Shard.f k (strOfNums (turnBy b turn)) m = some s ∧ key_Shard.f k ⟨#[]⟩ m = some 0 ∧ key_Shard.f k (strOfNums b) 0 = some 0 ∧ 0 ≤ s ∧ s < m
set_option maxHeartbeats 4000000 in
set_option maxRecDepth 100000 in
theorem diwanlaw4_KeyShards.walk (P : diwanlaw4_KeyShards.Pure) (xs0 : List Int) (turn n : Int) (w : World) (hn0 : xs0.length = 8) (hg0 : (∀ z ∈ xs0, (Lit.int .u8 z).wf = true)) (hg1 : (Lit.int .u8 turn).wf = true) (hg2 : (Lit.int .u8 n).wf = true) :
    Calls Try.prog 9 #[.agg (xs0.map (Value.int .u8)).toArray, .int .u8 turn, .int .u8 n] w fun e w' => e = .returned (.bool true) ∧ Below w.heap.size w w' := by
  obtain ⟨k, s, m, e0, em, e1, e2, e3, e4, e5, e6⟩ := P xs0 turn n hn0 hg0 hg1 hg2
  have E0 := Aside0.mk e0
  have E1 := Aside0.mk e1
  have E2 := Aside0.mk e2
  have E3 := Aside0.mk e3
  have E4 := Aside0.mk e4
  have EM := Aside0.mk em
  have N0 := Aside0.mk hn0
  have G1 := Aside0.mk hg1
  clear e0 e1 e2 e3 e4 hn0 hg0 hg1 hg2
  obtain ⟨c0, hc0⟩ : ∃ c0, (xs0.map (Value.int .u8)).toArray = c0 := ⟨_, rfl⟩
  rw [hc0]
  have HC0 := Aside0.mk hc0
  clear hc0
  go_enter Try.func9, Try.ntmps9
  go_wp2_with fail
  refine (diwanlaw4_begun.calls k true _ E0.out).mono ?_
  rintro e w1 ⟨rfl, hb1⟩
  have X0 := Aside0.mk (blk_below (blk_new w (.cells c0 40)) hb1)
  have BB := Aside0.mk (below_step (below_alloc (Below.refl _ w) (.cells c0 40)) hb1)
  clear hb1
  obtain ⟨b0, b1, b2, b3, b4, b5, b6, b7, hx⟩ : ∃ b0 b1 b2 b3 b4 b5 b6 b7, xs0 = [b0, b1, b2, b3, b4, b5, b6, b7] := by
    have hl := N0.out
    match xs0, hl with
    | [b0, b1, b2, b3, b4, b5, b6, b7], _ => exact ⟨b0, b1, b2, b3, b4, b5, b6, b7, rfl⟩
  have ZC : Aside0 ((xs0.map (Value.int .u8)).toArray = #[.int .u8 b0, .int .u8 b1, .int .u8 b2, .int .u8 b3, .int .u8 b4, .int .u8 b5, .int .u8 b6, .int .u8 b7]) := ⟨by rw [hx]; rfl⟩
  have hc1 : c0 = #[.int .u8 b0, .int .u8 b1, .int .u8 b2, .int .u8 b3, .int .u8 b4, .int .u8 b5, .int .u8 b6, .int .u8 b7] := HC0.out.symm.trans ZC.out
  have q0 : w1.cell? ⟨w.heap.size, 0, none⟩ = some (.int .u8 b0) := by rw [blk_cell X0.out, hc1]; rfl
  have q1 : w1.cell? ⟨w.heap.size, 1, none⟩ = some (.int .u8 b1) := by rw [blk_cell X0.out, hc1]; rfl
  have q2 : w1.cell? ⟨w.heap.size, 2, none⟩ = some (.int .u8 b2) := by rw [blk_cell X0.out, hc1]; rfl
  have q3 : w1.cell? ⟨w.heap.size, 3, none⟩ = some (.int .u8 b3) := by rw [blk_cell X0.out, hc1]; rfl
  have q4 : w1.cell? ⟨w.heap.size, 4, none⟩ = some (.int .u8 b4) := by rw [blk_cell X0.out, hc1]; rfl
  have q5 : w1.cell? ⟨w.heap.size, 5, none⟩ = some (.int .u8 b5) := by rw [blk_cell X0.out, hc1]; rfl
  have q6 : w1.cell? ⟨w.heap.size, 6, none⟩ = some (.int .u8 b6) := by rw [blk_cell X0.out, hc1]; rfl
  have q7 : w1.cell? ⟨w.heap.size, 7, none⟩ = some (.int .u8 b7) := by rw [blk_cell X0.out, hc1]; rfl
  clear hc1 hx
  rw [← HC0.out] at X0
  have L0 : Aside0 (w.heap.size < w1.heap.size) := ⟨blk_lt X0.out⟩
  go_wp2_with fail
  clear q0 q1 q2 q3 q4 q5 q6 q7
  rw [← ZC.out]
  have hT0 : turnTo xs0 turn 0 = xs0 := by simp [turnTo]
  have Z0 := Aside0.mk (blk_new w1 (.cells (xs0.map (Value.int .u8)).toArray 40))
  rw [show (xs0.map (Value.int .u8)).toArray = ((turnTo xs0 turn 0).map (Value.int .u8)).toArray from by rw [hT0]] at Z0
  clear hT0
  go_loopg [9] 9 (fun kq v9 w' => ∃ i : Nat, v9 = .int .i64 (i : Int) ∧ Aside0 (kq + i = 9 ∧ i ≤ 8) ∧ Aside0 (w'.heap[w1.heap.size]? = some (.cells ((turnTo xs0 turn i).map (Value.int .u8)).toArray 40 (0, 0))) ∧ Aside0 (w'.heap[w.heap.size]? = some (.cells (xs0.map (Value.int .u8)).toArray 40 (0, 0))) ∧ Aside0 (Below w.heap.size w w'))
  case atStart => exact ⟨0, rfl, ⟨rfl, by omega⟩, ⟨by first | exact Z0.out | (rw [← Z0.out]; rfl) | (have := Z0.out; simpa [turnTo] using this)⟩, ⟨blk_alloc X0.out _⟩, ⟨below_alloc BB.out _⟩⟩
  case round =>
    clear X0 BB Z0
    obtain ⟨i, rfl, HI, Z, X0, BB⟩ := hrel
    by_cases hi : i < 8
    · have c1 : decide ((i : Int) < 8) = true := decide_eq_true (by omega)
      have c2 : decide (i < 8) = true := decide_eq_true (by omega)
      have hw := G1.out
      have hp := placeOf_in turn i hi (by have m1 : IntKind.u8.min = 0 := rfl; have m2 : IntKind.u8.max = 255 := rfl; simp only [Lit.wf, Bool.and_eq_true, decide_eq_true_eq] at hw; omega) (by have m1 : IntKind.u8.min = 0 := rfl; have m2 : IntKind.u8.max = 255 := rfl; simp only [Lit.wf, Bool.and_eq_true, decide_eq_true_eq] at hw; omega)
      clear hw
      obtain ⟨pl, hpl⟩ : ∃ pl, placeOf turn i = pl := ⟨_, rfl⟩
      have hS := turnTo_set xs0 turn i N0.out hi
      rw [hpl] at hp hS
      unfold placeOf at hpl
      obtain ⟨pn, rfl⟩ := Int.eq_ofNat_of_zero_le hp.1
      have q0 := cells20 wr xs0 _ 40 X0.out pn (by have := N0.out; omega)
      have f0 := blk_frozen X0.out pn
      have f3 := blk_frozen Z.out i
      have p0 : (0 ≤ (i : Int)) = True := eq_true (by omega)
      have p1 : ((i : Int) < 8) = True := eq_true (by omega)
      have p2 : (i < 8) = True := eq_true hi
      have p3 : (0 ≤ (pn : Int)) = True := eq_true (by omega)
      have p4 : ((pn : Int) < 8) = True := eq_true (by omega)
      have p5 : (pn < 8) = True := eq_true (by omega)
      obtain ⟨u3, q3⟩ : ∃ u, wr.cell? ⟨w1.heap.size, i, none⟩ = some u := ⟨_, cells20 wr _ _ 40 Z.out i (by rw [turnTo_length _ _ _ N0.out (by omega)]; omega)⟩
      have S := Aside0.mk (put20 wr _ _ 40 Z.out i (rd xs0 (pn : Int)))
      have SB := Aside0.mk (below_set (j := i) (v := .int .u8 (rd xs0 (pn : Int))) BB.out (show w.heap.size ≤ w1.heap.size from by have := L0.out; omega))
      have S0 := Aside0.mk (blk_far X0.out (p := ⟨w1.heap.size, i, none⟩) (Nat.ne_of_lt L0.out) (.int .u8 (rd xs0 (pn : Int))))
      rw [hS] at S
      clear hS
      have HP := Aside0.mk hp
      clear hp
      go_wp2_with fail
      go_roundg (gk - 1)
      case measure => have := HI.out; omega
      case rel => exact ⟨i + 1, rfl, ⟨by have := HI.out; omega⟩, S, S0, SB⟩
    · have c1 : decide ((i : Int) < 8) = false := decide_eq_false (by omega)
      have c2 : decide (i < 8) = false := decide_eq_false (by omega)
      have hi20 : i = 8 := by have := HI.out; omega
      subst hi20
      have hx : turnTo xs0 turn 8 = turnBy xs0 turn := by
        rw [turnTo, List.drop_of_length_le (by rw [N0.out]; omega), List.append_nil, List.take_of_length_le (by rw [turnBy_length]; omega)]
      rw [hx] at Z
      clear hx
      have k0 := str8 wr xs0 N0.out _ 40 X0.out
      go_wp2_with fail
      refine (key_Shard.calls k (strOfNums xs0) m s _ E1.out).mono ?_
      rintro e w2 ⟨rfl, hd⟩
      have X2 := Aside0.mk (blk_below X0.out hd.below)
      have Z2 := Aside0.mk (blk_below Z.out hd.below)
      have B2 := Aside0.mk (below_step BB.out hd.below)
      have d1 : decide (0 ≤ s) = true := decide_eq_true e5
      have d2 : decide (s ≥ 0) = true := decide_eq_true e5
      have d3 : decide (s < m) = true := decide_eq_true e6
      have d4 : decide (s = s) = true := decide_eq_true rfl
      clear e5 e6 hd X0 Z BB k0
      have k1 := str8 w2 _ (turnBy_length xs0 turn) _ 40 Z2.out
      go_wp2_with fail
      refine (key_Shard.calls k (strOfNums (turnBy xs0 turn)) m s _ E2.out).mono ?_
      rintro e w3 ⟨rfl, hd⟩
      have X3 := Aside0.mk (blk_below X2.out hd.below)
      have B3 := Aside0.mk (below_step B2.out hd.below)
      clear hd X2 Z2 B2 k1
      go_wp2_with fail
      refine (key_Shard.calls k ⟨#[]⟩ m 0 _ E3.out).mono ?_
      rintro e w4 ⟨rfl, hd⟩
      have X4 := Aside0.mk (blk_below X3.out hd.below)
      have B4 := Aside0.mk (below_step B3.out hd.below)
      clear hd X3 B3
      have k1 := str8 w4 _ N0.out _ 40 X4.out
      go_wp2_with fail
      refine (key_Shard.calls k (strOfNums xs0) 0 0 _ E4.out).mono ?_
      rintro e w5 ⟨rfl, hd⟩
      have B5 := Aside0.mk (below_step B4.out hd.below)
      clear hd k1
      go_wp2_with fail
      go_ret
      exact ⟨rfl, B5.out⟩


/-! ### diwanlaw4_KeyForms: function 10 (by hand) -/
def bads : List ByteArray := [⟨#[]⟩, ⟨#[97, 32, 98]⟩, ⟨#[127]⟩, ⟨#[110, 105, 110, 101, 45, 98, 121, 116, 101]⟩, ⟨#[32]⟩]
theorem bads_not : ∀ i : Fin 5, key_May.f 64 (rdOf ByteArray.empty bads ((i.val : Nat) : Int)) = some false ∧ key_Rising.f 64 [rdOf ByteArray.empty bads ((i.val : Nat) : Int)] = some false := by decide +kernel
def diwanlaw4_KeyForms.f : Option Bool := some true
def diwanlaw4_KeyForms.Pure : Prop := True
set_option maxHeartbeats 4000000 in
set_option maxRecDepth 100000 in
theorem diwanlaw4_KeyForms.calls (r : Bool) (w : World) (h : diwanlaw4_KeyForms.f = some r) :
    Calls Try.prog 10 #[] w fun e w' => e = .returned (.bool r) ∧ Below w.heap.size w w' := by
  obtain rfl : true = r := Option.some.inj h
  clear h
  have s0 : Aside0 (diwanlaw4_begun.f 64 = some true) := ⟨by decide +kernel⟩
  have s1 : Aside0 (key_May.f 64 ⟨#[33]⟩ = some true) := ⟨by decide +kernel⟩
  have s2 : Aside0 (key_May.f 64 ⟨#[101, 105, 103, 104, 116, 45, 98, 121]⟩ = some true) := ⟨by decide +kernel⟩
  have s3 : Aside0 (key_May.f 64 ⟨#[126]⟩ = some true) := ⟨by decide +kernel⟩
  have s4 : Aside0 (key_Shard.f 64 ⟨#[97, 98]⟩ 3 = some 0) := ⟨by decide +kernel⟩
  have s5 : Aside0 (key_Shard.f 64 ⟨#[97, 98]⟩ (-1) = some 0) := ⟨by decide +kernel⟩
  have s6 : Aside0 (key_Within.f ⟨#[97]⟩ ⟨#[]⟩ ⟨#[]⟩ = some true) := ⟨by decide +kernel⟩
  have s7 : Aside0 (key_Within.f ⟨#[97]⟩ ⟨#[97]⟩ ⟨#[]⟩ = some true) := ⟨by decide +kernel⟩
  have s8 : Aside0 (key_Within.f ⟨#[97]⟩ ⟨#[98]⟩ ⟨#[]⟩ = some false) := ⟨by decide +kernel⟩
  have s9 : Aside0 (key_Within.f ⟨#[98]⟩ ⟨#[97]⟩ ⟨#[98]⟩ = some false) := ⟨by decide +kernel⟩
  have s10 : Aside0 (key_Within.f ⟨#[97, 98]⟩ ⟨#[97]⟩ ⟨#[98]⟩ = some true) := ⟨by decide +kernel⟩
  have s11 : Aside0 (key_Rising.f 64 [] = some true) := ⟨by decide +kernel⟩
  have s12 : Aside0 (key_Rising.f 64 [⟨#[97]⟩, ⟨#[97]⟩] = some false) := ⟨by decide +kernel⟩
  have s13 : Aside0 (key_Rising.f 64 [⟨#[97]⟩, ⟨#[97, 98]⟩, ⟨#[98]⟩] = some true) := ⟨by decide +kernel⟩
  go_enter Try.func10, Try.ntmps10
  go_wp2_with fail
  refine (diwanlaw4_begun.calls 64 true _ s0.out).mono ?_
  rintro e w1 ⟨rfl, hb1⟩
  have HB1 := Aside0.mk hb1
  clear hb1
  go_wp2_with fail
  have HB2 := Aside0.mk (below_alloc HB1.out (.cells (bads.map Value.string).toArray 9 (0, 0)))
  have HC2 := Aside0.mk (C_newS w1 bads (bads.map Value.string).toArray 9 (0, 0) rfl (by decide))
  go_loopg [2] 5 (fun kq v2 w' => ∃ i : Int, v2 = .int .i64 i ∧ Aside0 (0 ≤ i ∧ i + kq = 5) ∧ Aside0 (Below w.heap.size w w') ∧ Aside0 (Kd.C Kd.string w' (some ⟨w1.heap.size, 0, none⟩) 5 bads))
  case atStart => exact ⟨0, rfl, ⟨by omega, by omega⟩, HB2, HC2⟩
  case round =>
    obtain ⟨i, rfl, HI, HB, HC⟩ := hrel
    clear HB1 HB2 HC2
    cases gk with
    | zero =>
      have c1 : decide (i < (5 : Int)) = false := decide_eq_false (by have := HI.out; omega)
      go_wp2_with fail
      refine (key_May.calls 64 _ true _ s1.out).mono ?_
      rintro e w2 ⟨rfl, hd⟩
      have HB2 := Aside0.mk (below_step HB.out hd.below)
      clear hd
      go_wp2_with fail
      refine (key_May.calls 64 _ true _ s2.out).mono ?_
      rintro e w3 ⟨rfl, hd⟩
      have HB3 := Aside0.mk (below_step HB2.out hd.below)
      clear hd
      go_wp2_with fail
      refine (key_May.calls 64 _ true _ s3.out).mono ?_
      rintro e w4 ⟨rfl, hd⟩
      have HB4 := Aside0.mk (below_step HB3.out hd.below)
      clear hd
      go_wp2_with fail
      refine (key_Shard.calls 64 _ _ _ _ s4.out).mono ?_
      rintro e w5 ⟨rfl, hd⟩
      have HB5 := Aside0.mk (below_step HB4.out hd.below)
      clear hd
      go_wp2_with fail
      refine (key_Shard.calls 64 _ _ _ _ s5.out).mono ?_
      rintro e w6 ⟨rfl, hd⟩
      have HB6 := Aside0.mk (below_step HB5.out hd.below)
      clear hd
      go_wp2_with fail
      refine (key_Within.calls _ _ _ _ _ s6.out).mono ?_
      rintro e w7 ⟨rfl, hd⟩
      have HB7 := Aside0.mk (below_step HB6.out hd.below)
      clear hd
      go_wp2_with fail
      refine (key_Within.calls _ _ _ _ _ s7.out).mono ?_
      rintro e w8 ⟨rfl, hd⟩
      have HB8 := Aside0.mk (below_step HB7.out hd.below)
      clear hd
      go_wp2_with fail
      refine (key_Within.calls _ _ _ _ _ s8.out).mono ?_
      rintro e w9 ⟨rfl, hd⟩
      have HB9 := Aside0.mk (below_step HB8.out hd.below)
      clear hd
      go_wp2_with fail
      refine (key_Within.calls _ _ _ _ _ s9.out).mono ?_
      rintro e w10 ⟨rfl, hd⟩
      have HB10 := Aside0.mk (below_step HB9.out hd.below)
      clear hd
      go_wp2_with fail
      refine (key_Within.calls _ _ _ _ _ s10.out).mono ?_
      rintro e w11 ⟨rfl, hd⟩
      have HB11 := Aside0.mk (below_step HB10.out hd.below)
      clear hd
      go_wp2_with fail
      refine (key_Rising.calls 64 none 0 [] _ _ (C_none _ _) (by decide) s11.out).mono ?_
      rintro e w12 ⟨rfl, hd⟩
      have HB12 := Aside0.mk (below_step HB11.out hd.below)
      clear hd
      go_wp2_with fail
      refine (key_Rising.calls 64 _ 2 _ _ _ (C_newS w12 [⟨#[97]⟩, ⟨#[97]⟩] _ 9 (0, 0) rfl (by decide)) (by decide) s12.out).mono ?_
      rintro e w13 ⟨rfl, hd⟩
      have HB13 := Aside0.mk (below_step (below_alloc HB12.out _) hd.below)
      clear hd
      go_wp2_with fail
      refine (key_Rising.calls 64 _ 3 _ _ _ (C_newS w13 [⟨#[97]⟩, ⟨#[97, 98]⟩, ⟨#[98]⟩] _ 9 (0, 0) rfl (by decide)) (by decide) s13.out).mono ?_
      rintro e w14 ⟨rfl, hd⟩
      have HB14 := Aside0.mk (below_step (below_alloc HB13.out _) hd.below)
      clear hd
      go_wp2_with fail
      go_ret
      exact ⟨rfl, HB14.out⟩
    | succ k =>
      have c1 : decide (i < (5 : Int)) = true := decide_eq_true (by have := HI.out; omega)
      have p1 : 0 ≤ i := by have := HI.out; omega
      have p2 : i < 5 := by have := HI.out; omega
      obtain ⟨ad, ha, hcell⟩ := Kd.at_string HC.out i p1 p2
      obtain rfl : (⟨w1.heap.size, 0, none⟩ : Addr) = ad := Option.some.inj ha
      obtain ⟨n, rfl⟩ := Int.eq_ofNat_of_zero_le p1
      have hs := bads_not ⟨n, by omega⟩
      obtain ⟨s, hse⟩ : ∃ s, rdOf ByteArray.empty bads (n : Int) = s := ⟨_, rfl⟩
      rw [hse] at hcell
      simp only [hse] at hs
      have hs1 := Aside0.mk hs.1
      have hs2 := Aside0.mk hs.2
      clear hs hse ha
      replace p1 := eq_true p1
      replace p2 := eq_true p2
      rw [add_plain, Int.toNat_natCast] at hcell
      go_wp2_with fail
      refine (key_May.calls 64 s false _ hs1.out).mono ?_
      rintro e w2 ⟨rfl, ⟨m, rfl⟩⟩
      go_wp2_with fail
      refine (key_Rising.calls 64 _ 1 [s] _ _ (C_newS _ [s] _ 9 (0, 0) rfl (by simp)) (by simp) hs2.out).mono ?_
      rintro e w3 ⟨rfl, hd⟩
      have hb := below_step (below_alloc (pw_below_drewN (Below.refl _ wr) m) _) hd.below
      have HB' := Aside0.mk (below_step HB.out hb)
      have HC' := Aside0.mk (Kd.C_below HC.out hb)
      clear hd hb
      go_wp2_with fail
      go_roundg k
      case measure => omega
      case rel => exact ⟨((n + 1 : Nat) : Int), by (congr 1; unfold wrap64; have := HI.out; omega), ⟨by omega, by have := HI.out; omega⟩, HB', HC'⟩
theorem diwanlaw4_KeyForms.walk (_P : diwanlaw4_KeyForms.Pure) (w : World) : Calls Try.prog 10 #[] w fun e w' => e = .returned (.bool true) ∧ Below w.heap.size w w' := diwanlaw4_KeyForms.calls true w rfl


/-! ### diwanlaw4_KeyWithin: function 11 -/
def diwanlaw4_KeyWithin.j0 : Nat → ByteArray → ByteArray → ByteArray → ByteArray → ByteArray → Bool → Option (Bool)
  | 0, _, _, _, _, _, _ => none
  | k + 1, x0, x1, x2, x3, x4, x11 => if x11 = true then ((key_Within.f x0 x3 x4).bind fun t134 => (if t134 = true then ((key_Within.f x2 x3 x4).bind fun t135 => (if t135 = true then ((key_Within.f x1 x3 x4).bind fun t136 => (if t136 = true then ((key_Within.f x0 x0 (⟨#[]⟩ : ByteArray)).bind fun t137 => (if t137 = true then (if x3.toList = ([] : List UInt8) then (some true) else ((key_Within.f x0 x3 x3).bind fun t138 => (some (!t138)))) else (some false))) else (some false))) else ((key_Within.f x0 x0 (⟨#[]⟩ : ByteArray)).bind fun t139 => (if t139 = true then (if x3.toList = ([] : List UInt8) then (some true) else ((key_Within.f x0 x3 x3).bind fun t140 => (some (!t140)))) else (some false))))) else ((key_Within.f x0 x0 (⟨#[]⟩ : ByteArray)).bind fun t141 => (if t141 = true then (if x3.toList = ([] : List UInt8) then (some true) else ((key_Within.f x0 x3 x3).bind fun t142 => (some (!t142)))) else (some false))))) else ((key_Within.f x0 x0 (⟨#[]⟩ : ByteArray)).bind fun t143 => (if t143 = true then (if x3.toList = ([] : List UInt8) then (some true) else ((key_Within.f x0 x3 x3).bind fun t144 => (some (!t144)))) else (some false)))
def diwanlaw4_KeyWithin.f (k : Nat) (a0 : ByteArray) (a1 : ByteArray) (a2 : ByteArray) (a3 : ByteArray) (a4 : ByteArray) : Option (Bool) := (diwanlaw4_begun.f k).bind fun t133 => (if t133 = true then (if (wrap64 ((wrap64 ((wrap64 ((wrap64 ((a0.size : Int) + (a1.size : Int))) + (a2.size : Int))) + (a3.size : Int))) + (a4.size : Int))) > 100 then (some true) else (if ((Op.bytesLess a1.toList a0.toList) = true) then (diwanlaw4_KeyWithin.j0 k a0 a1 a2 a3 a4 false) else (diwanlaw4_KeyWithin.j0 k a0 a1 a2 a3 a4 (!(Op.bytesLess a2.toList a1.toList))))) else (some false))
theorem diwanlaw4_KeyWithin.mono_l : ∀ k, (∀ y0 y1 y2 y3 y4 y5, LeO (diwanlaw4_KeyWithin.j0 k y0 y1 y2 y3 y4 y5) (diwanlaw4_KeyWithin.j0 (k + 1) y0 y1 y2 y3 y4 y5))
  | 0 => fun _ _ _ _ _ _ r h => by simp [diwanlaw4_KeyWithin.j0] at h
  | k + 1 => by
    have ih0 := diwanlaw4_KeyWithin.mono_l k
    · intro y0 y1 y2 y3 y4 y5
      unfold diwanlaw4_KeyWithin.j0
      repeat' first
      | (with_reducible exact ih0 _ _ _ _ _ _)
      | (with_reducible exact diwanlaw4_begun.mono _)
      | (with_reducible exact LeO.refl _)
      | (with_reducible exact LeO.none _)
      | (with_reducible refine LeO.ite ?_ ?_)
      | (with_reducible refine LeO.bind ?_ (fun _ => ?_))
      | exact ih0 _ _ _ _ _ _
      | exact diwanlaw4_begun.mono _
      | exact LeO.none _
      | refine LeO.ite ?_ ?_
      | refine LeO.bind ?_ (fun _ => ?_)
theorem diwanlaw4_KeyWithin.mono : ∀ a0 a1 a2 a3 a4 k, LeO (diwanlaw4_KeyWithin.f k a0 a1 a2 a3 a4) (diwanlaw4_KeyWithin.f (k + 1) a0 a1 a2 a3 a4) := by
  intro a0 a1 a2 a3 a4 k
  have ih0 := diwanlaw4_KeyWithin.mono_l k
  unfold diwanlaw4_KeyWithin.f
  repeat' first
      | (with_reducible exact ih0 _ _ _ _ _ _)
      | (with_reducible exact diwanlaw4_begun.mono _)
      | (with_reducible exact LeO.refl _)
      | (with_reducible exact LeO.none _)
      | (with_reducible refine LeO.ite ?_ ?_)
      | (with_reducible refine LeO.bind ?_ (fun _ => ?_))
      | exact ih0 _ _ _ _ _ _
      | exact diwanlaw4_begun.mono _
      | exact LeO.none _
      | refine LeO.ite ?_ ?_
      | refine LeO.bind ?_ (fun _ => ?_)
set_option maxHeartbeats 8000000 in
set_option maxRecDepth 100000 in
theorem diwanlaw4_KeyWithin.calls (k : Nat) (a0 : ByteArray) (a1 : ByteArray) (a2 : ByteArray) (a3 : ByteArray) (a4 : ByteArray) (r : Bool) (w : World) (h : diwanlaw4_KeyWithin.f k a0 a1 a2 a3 a4 = some r) :
    Calls Try.prog 11 #[.string a0, .string a1, .string a2, .string a3, .string a4] w fun e w' => e = .returned (.bool r) ∧ Below w.heap.size w w' := by
  have HB := Aside0.mk (Below.refl w.heap.size w)
  have H : ((diwanlaw4_begun.f k).bind fun t133 => (if t133 = true then (if (wrap64 ((wrap64 ((wrap64 ((wrap64 ((a0.size : Int) + (a1.size : Int))) + (a2.size : Int))) + (a3.size : Int))) + (a4.size : Int))) > 100 then (some true) else (if ((Op.bytesLess a1.toList a0.toList) = true) then (diwanlaw4_KeyWithin.j0 k a0 a1 a2 a3 a4 false) else (diwanlaw4_KeyWithin.j0 k a0 a1 a2 a3 a4 (!(Op.bytesLess a2.toList a1.toList))))) else (some false))) = some r := h
  clear h
  replace H := Option.bind_eq_some_iff.mp H
  obtain ⟨t133, A60, H⟩ := H
  replace H : (if t133 = true then (if (wrap64 ((wrap64 ((wrap64 ((wrap64 ((a0.size : Int) + (a1.size : Int))) + (a2.size : Int))) + (a3.size : Int))) + (a4.size : Int))) > 100 then (some true) else (if ((Op.bytesLess a1.toList a0.toList) = true) then (diwanlaw4_KeyWithin.j0 k a0 a1 a2 a3 a4 false) else (diwanlaw4_KeyWithin.j0 k a0 a1 a2 a3 a4 (!(Op.bytesLess a2.toList a1.toList))))) else (some false)) = some r := H
  have A6 := Aside0.mk A60
  clear A60
  by_cases c7 : t133 = true
  · subst c7
    have H1 : (if (wrap64 ((wrap64 ((wrap64 ((wrap64 ((a0.size : Int) + (a1.size : Int))) + (a2.size : Int))) + (a3.size : Int))) + (a4.size : Int))) > 100 then (some true) else (if ((Op.bytesLess a1.toList a0.toList) = true) then (diwanlaw4_KeyWithin.j0 k a0 a1 a2 a3 a4 false) else (diwanlaw4_KeyWithin.j0 k a0 a1 a2 a3 a4 (!(Op.bytesLess a2.toList a1.toList))))) = some r := by rw [if_pos rfl] at H; exact H
    clear H
    have H := H1
    clear H1
    by_cases c8 : (wrap64 ((wrap64 ((wrap64 ((wrap64 ((a0.size : Int) + (a1.size : Int))) + (a2.size : Int))) + (a3.size : Int))) + (a4.size : Int))) > 100
    · rw [if_pos c8] at H
      have c8b0 : decide (100 < (wrap64 ((wrap64 ((wrap64 ((wrap64 ((a0.size : Int) + (a1.size : Int))) + (a2.size : Int))) + (a3.size : Int))) + (a4.size : Int)))) = true := decide_eq_true c8
      clear c8
      obtain rfl := Option.some.inj H
      go_enter Try.func11, Try.ntmps11
      go_wp2_with (first | ((with_reducible refine gate_callee (f := 20) rfl ?_); refine goesL_ (some 12) rfl rfl Try.func20 (by kernel_rfl) rfl #[] rfl (by (try simp only [List.map_toArray, List.map_cons, List.map_nil]); first | done | rfl | (simp only [List.length_drop, List.length_take]; rfl)) ?_; (with_reducible refine (diwanlaw4_begun.calls k  true _ A6.out).mono ?_); rintro e w9 ⟨rfl, hb⟩; refine ⟨_, rfl, ?_⟩; have n0_ := Aside0.mk (below_step (by repeat (first | (with_reducible first | exact HB.out | apply below_alloc | apply pw_below_drewN | apply below_drew1) | exact HB.out)) hb); clear HB; have HB := n0_; clear n0_; (try clear hb); (try clear hb2); (try clear hk); (try clear hi)))
      go_ret
      exact ⟨by first | rfl | (simp [errW_none, errW_some] <;> rfl) | (simp [*, errW_none, errW_some] <;> rfl), by repeat (first | (with_reducible first | exact HB.out | apply below_alloc | apply pw_below_drewN | apply below_drew1) | exact HB.out)⟩
    · rw [if_neg c8] at H
      have c8b0 : decide (100 < (wrap64 ((wrap64 ((wrap64 ((wrap64 ((a0.size : Int) + (a1.size : Int))) + (a2.size : Int))) + (a3.size : Int))) + (a4.size : Int)))) = false := decide_eq_false c8
      clear c8
      have HC10 := Aside0.mk H
      clear H
      go_enter Try.func11, Try.ntmps11
      go_upto_region 5 with (first | ((with_reducible refine gate_callee (f := 20) rfl ?_); refine goesL_ (some 12) rfl rfl Try.func20 (by kernel_rfl) rfl #[] rfl (by (try simp only [List.map_toArray, List.map_cons, List.map_nil]); first | done | rfl | (simp only [List.length_drop, List.length_take]; rfl)) ?_; (with_reducible refine (diwanlaw4_begun.calls k  true _ A6.out).mono ?_); rintro e w11 ⟨rfl, hb⟩; refine ⟨_, rfl, ?_⟩; have n0_ := Aside0.mk (below_step (by repeat (first | (with_reducible first | exact HB.out | apply below_alloc | apply pw_below_drewN | apply below_drew1) | exact HB.out)) hb); clear HB; have HB := n0_; clear n0_; (try clear hb); (try clear hb2); (try clear hk); (try clear hi)))
      (try simp only [Act.put, List.setIfInBounds_toArray, List.set_cons_zero, List.set_cons_succ])
      go_cut [11] (fun v11 wc => ∃ (kq : Nat) (x11_9 : Bool), v11 = .bool x11_9 ∧ Aside0 (diwanlaw4_KeyWithin.j0 kq a0 a1 a2 a3 a4 x11_9 = some r) ∧ Aside0 (kq ≤ k) ∧ Aside0 (Below w.heap.size w wc))
      case first =>
        have H := HC10.out
        clear HC10
        by_cases c12 : ((Op.bytesLess a1.toList a0.toList) = true)
        · rw [if_pos c12] at H
          have c12b0 : (Op.bytesLess a1.toList a0.toList) = true := c12
          clear c12
          (first | rw [c12b0] | (simp only [i64_w, i32_w]; rw [c12b0]) | skip)
          have H' := Aside0.mk H
          clear H
          go_wp2
          go_meet
          case rel => exact ⟨_, (false), (by first | rfl | (simp; done) | (simp [*]; done)), H', ⟨by first | omega | exact Nat.le_refl _⟩, ⟨by repeat (first | (with_reducible first | exact HB.out | apply below_alloc | apply pw_below_drewN | apply below_drew1) | exact HB.out)⟩⟩
        · rw [if_neg c12] at H
          have c12b0 : (Op.bytesLess a1.toList a0.toList) = false := by simpa using c12
          clear c12
          (first | rw [c12b0] | (simp only [i64_w, i32_w]; rw [c12b0]) | skip)
          have H' := Aside0.mk H
          clear H
          go_wp2
          go_meet
          case rel => exact ⟨_, (!(Op.bytesLess a2.toList a1.toList)), (by first | rfl | (simp; done) | (simp [*]; done)), H', ⟨by first | omega | exact Nat.le_refl _⟩, ⟨by repeat (first | (with_reducible first | exact HB.out | apply below_alloc | apply pw_below_drewN | apply below_drew1) | exact HB.out)⟩⟩
      case rest =>
        clear HC10
        try clear c1
        try clear c2
        try clear p2
        try clear p6
        try clear c7
        try clear c8
        try clear c8b0
        try clear c11
        try clear c12
        try clear c12b0
        obtain ⟨kq, x11_9, rfl, HA, HJ9, HB⟩ := hcut
        cases kq with
        | zero => exact absurd HA.out (by simp [diwanlaw4_KeyWithin.j0])
        | succ kj9 =>
          have H := HA.out
          clear HA
          simp only [diwanlaw4_KeyWithin.j0] at H
          by_cases c13 : x11_9 = true
          · subst c13
            have H1 : ((key_Within.f a0 a3 a4).bind fun t134 => (if t134 = true then ((key_Within.f a2 a3 a4).bind fun t135 => (if t135 = true then ((key_Within.f a1 a3 a4).bind fun t136 => (if t136 = true then ((key_Within.f a0 a0 (⟨#[]⟩ : ByteArray)).bind fun t137 => (if t137 = true then (if a3.toList = ([] : List UInt8) then (some true) else ((key_Within.f a0 a3 a3).bind fun t138 => (some (!t138)))) else (some false))) else (some false))) else ((key_Within.f a0 a0 (⟨#[]⟩ : ByteArray)).bind fun t139 => (if t139 = true then (if a3.toList = ([] : List UInt8) then (some true) else ((key_Within.f a0 a3 a3).bind fun t140 => (some (!t140)))) else (some false))))) else ((key_Within.f a0 a0 (⟨#[]⟩ : ByteArray)).bind fun t141 => (if t141 = true then (if a3.toList = ([] : List UInt8) then (some true) else ((key_Within.f a0 a3 a3).bind fun t142 => (some (!t142)))) else (some false))))) = some r := by rw [if_pos rfl] at H; exact H
            clear H
            have H := H1
            clear H1
            replace H := Option.bind_eq_some_iff.mp H
            obtain ⟨t134, A140, H⟩ := H
            replace H : (if t134 = true then ((key_Within.f a2 a3 a4).bind fun t135 => (if t135 = true then ((key_Within.f a1 a3 a4).bind fun t136 => (if t136 = true then ((key_Within.f a0 a0 (⟨#[]⟩ : ByteArray)).bind fun t137 => (if t137 = true then (if a3.toList = ([] : List UInt8) then (some true) else ((key_Within.f a0 a3 a3).bind fun t138 => (some (!t138)))) else (some false))) else (some false))) else ((key_Within.f a0 a0 (⟨#[]⟩ : ByteArray)).bind fun t139 => (if t139 = true then (if a3.toList = ([] : List UInt8) then (some true) else ((key_Within.f a0 a3 a3).bind fun t140 => (some (!t140)))) else (some false))))) else ((key_Within.f a0 a0 (⟨#[]⟩ : ByteArray)).bind fun t141 => (if t141 = true then (if a3.toList = ([] : List UInt8) then (some true) else ((key_Within.f a0 a3 a3).bind fun t142 => (some (!t142)))) else (some false)))) = some r := H
            have A14 := Aside0.mk A140
            clear A140
            by_cases c15 : t134 = true
            · subst c15
              have H1 : ((key_Within.f a2 a3 a4).bind fun t135 => (if t135 = true then ((key_Within.f a1 a3 a4).bind fun t136 => (if t136 = true then ((key_Within.f a0 a0 (⟨#[]⟩ : ByteArray)).bind fun t137 => (if t137 = true then (if a3.toList = ([] : List UInt8) then (some true) else ((key_Within.f a0 a3 a3).bind fun t138 => (some (!t138)))) else (some false))) else (some false))) else ((key_Within.f a0 a0 (⟨#[]⟩ : ByteArray)).bind fun t139 => (if t139 = true then (if a3.toList = ([] : List UInt8) then (some true) else ((key_Within.f a0 a3 a3).bind fun t140 => (some (!t140)))) else (some false))))) = some r := by rw [if_pos rfl] at H; exact H
              clear H
              have H := H1
              clear H1
              replace H := Option.bind_eq_some_iff.mp H
              obtain ⟨t135, A160, H⟩ := H
              replace H : (if t135 = true then ((key_Within.f a1 a3 a4).bind fun t136 => (if t136 = true then ((key_Within.f a0 a0 (⟨#[]⟩ : ByteArray)).bind fun t137 => (if t137 = true then (if a3.toList = ([] : List UInt8) then (some true) else ((key_Within.f a0 a3 a3).bind fun t138 => (some (!t138)))) else (some false))) else (some false))) else ((key_Within.f a0 a0 (⟨#[]⟩ : ByteArray)).bind fun t139 => (if t139 = true then (if a3.toList = ([] : List UInt8) then (some true) else ((key_Within.f a0 a3 a3).bind fun t140 => (some (!t140)))) else (some false)))) = some r := H
              have A16 := Aside0.mk A160
              clear A160
              by_cases c17 : t135 = true
              · subst c17
                have H1 : ((key_Within.f a1 a3 a4).bind fun t136 => (if t136 = true then ((key_Within.f a0 a0 (⟨#[]⟩ : ByteArray)).bind fun t137 => (if t137 = true then (if a3.toList = ([] : List UInt8) then (some true) else ((key_Within.f a0 a3 a3).bind fun t138 => (some (!t138)))) else (some false))) else (some false))) = some r := by rw [if_pos rfl] at H; exact H
                clear H
                have H := H1
                clear H1
                replace H := Option.bind_eq_some_iff.mp H
                obtain ⟨t136, A180, H⟩ := H
                replace H : (if t136 = true then ((key_Within.f a0 a0 (⟨#[]⟩ : ByteArray)).bind fun t137 => (if t137 = true then (if a3.toList = ([] : List UInt8) then (some true) else ((key_Within.f a0 a3 a3).bind fun t138 => (some (!t138)))) else (some false))) else (some false)) = some r := H
                have A18 := Aside0.mk A180
                clear A180
                by_cases c19 : t136 = true
                · subst c19
                  have H1 : ((key_Within.f a0 a0 (⟨#[]⟩ : ByteArray)).bind fun t137 => (if t137 = true then (if a3.toList = ([] : List UInt8) then (some true) else ((key_Within.f a0 a3 a3).bind fun t138 => (some (!t138)))) else (some false))) = some r := by rw [if_pos rfl] at H; exact H
                  clear H
                  have H := H1
                  clear H1
                  replace H := Option.bind_eq_some_iff.mp H
                  obtain ⟨t137, A200, H⟩ := H
                  replace H : (if t137 = true then (if a3.toList = ([] : List UInt8) then (some true) else ((key_Within.f a0 a3 a3).bind fun t138 => (some (!t138)))) else (some false)) = some r := H
                  have A20 := Aside0.mk A200
                  clear A200
                  by_cases c21 : t137 = true
                  · subst c21
                    have H1 : (if a3.toList = ([] : List UInt8) then (some true) else ((key_Within.f a0 a3 a3).bind fun t138 => (some (!t138)))) = some r := by rw [if_pos rfl] at H; exact H
                    clear H
                    have H := H1
                    clear H1
                    by_cases c22 : a3.toList = ([] : List UInt8)
                    · rw [if_pos c22] at H
                      have c22b0 : (a3.toList == ([] : List UInt8)) = true := beq_iff_eq.mpr c22
                      have c22b1 : (a3.toList != ([] : List UInt8)) = false := bne_eq_false_iff_eq.mpr c22
                      clear c22
                      obtain rfl := Option.some.inj H
                      go_wp2_with (first | (go_at_call 25; (with_reducible refine (key_Within.calls a0 a3 a4 true _ A14.out).mono ?_); rintro e w' ⟨rfl, ⟨nd, rfl⟩⟩) | (go_at_call 25; (with_reducible refine (key_Within.calls a2 a3 a4 true _ A16.out).mono ?_); rintro e w' ⟨rfl, ⟨nd, rfl⟩⟩) | (go_at_call 25; (with_reducible refine (key_Within.calls a1 a3 a4 true _ A18.out).mono ?_); rintro e w' ⟨rfl, ⟨nd, rfl⟩⟩) | (go_at_call 25; (with_reducible refine (key_Within.calls a0 a0 (⟨#[]⟩ : ByteArray) true _ A20.out).mono ?_); rintro e w' ⟨rfl, ⟨nd, rfl⟩⟩))
                      go_ret
                      exact ⟨by first | rfl | (simp [errW_none, errW_some] <;> rfl) | (simp [*, errW_none, errW_some] <;> rfl), by repeat (first | (with_reducible first | exact HB.out | apply below_alloc | apply pw_below_drewN | apply below_drew1) | exact HB.out)⟩
                    · rw [if_neg c22] at H
                      have c22b0 : (a3.toList == ([] : List UInt8)) = false := beq_eq_false_iff_ne.mpr c22
                      have c22b1 : (a3.toList != ([] : List UInt8)) = true := bne_iff_ne.mpr c22
                      replace H := Option.bind_eq_some_iff.mp H
                      obtain ⟨t138, A230, H⟩ := H
                      replace H : (some (!t138)) = some r := H
                      have A23 := Aside0.mk A230
                      clear A230
                      obtain rfl := Option.some.inj H
                      go_wp2_with (first | (go_at_call 25; (with_reducible refine (key_Within.calls a0 a3 a4 true _ A14.out).mono ?_); rintro e w' ⟨rfl, ⟨nd, rfl⟩⟩) | (go_at_call 25; (with_reducible refine (key_Within.calls a2 a3 a4 true _ A16.out).mono ?_); rintro e w' ⟨rfl, ⟨nd, rfl⟩⟩) | (go_at_call 25; (with_reducible refine (key_Within.calls a1 a3 a4 true _ A18.out).mono ?_); rintro e w' ⟨rfl, ⟨nd, rfl⟩⟩) | (go_at_call 25; (with_reducible refine (key_Within.calls a0 a0 (⟨#[]⟩ : ByteArray) true _ A20.out).mono ?_); rintro e w' ⟨rfl, ⟨nd, rfl⟩⟩) | (go_at_call 25; (with_reducible refine (key_Within.calls a0 a3 a3 t138 _ A23.out).mono ?_); rintro e w' ⟨rfl, ⟨nd, rfl⟩⟩))
                      go_ret
                      exact ⟨by first | rfl | (simp [errW_none, errW_some] <;> rfl) | (simp [*, errW_none, errW_some] <;> rfl), by repeat (first | (with_reducible first | exact HB.out | apply below_alloc | apply pw_below_drewN | apply below_drew1) | exact HB.out)⟩
                  · replace c21 := Bool.eq_false_iff.mpr c21
                    subst c21
                    have H1 : (some false) = some r := by rw [if_neg (show ¬ (false = true) by decide)] at H; exact H
                    clear H
                    have H := H1
                    clear H1
                    obtain rfl := Option.some.inj H
                    go_wp2_with (first | (go_at_call 25; (with_reducible refine (key_Within.calls a0 a3 a4 true _ A14.out).mono ?_); rintro e w' ⟨rfl, ⟨nd, rfl⟩⟩) | (go_at_call 25; (with_reducible refine (key_Within.calls a2 a3 a4 true _ A16.out).mono ?_); rintro e w' ⟨rfl, ⟨nd, rfl⟩⟩) | (go_at_call 25; (with_reducible refine (key_Within.calls a1 a3 a4 true _ A18.out).mono ?_); rintro e w' ⟨rfl, ⟨nd, rfl⟩⟩) | (go_at_call 25; (with_reducible refine (key_Within.calls a0 a0 (⟨#[]⟩ : ByteArray) false _ A20.out).mono ?_); rintro e w' ⟨rfl, ⟨nd, rfl⟩⟩))
                    go_ret
                    exact ⟨by first | rfl | (simp [errW_none, errW_some] <;> rfl) | (simp [*, errW_none, errW_some] <;> rfl), by repeat (first | (with_reducible first | exact HB.out | apply below_alloc | apply pw_below_drewN | apply below_drew1) | exact HB.out)⟩
                · replace c19 := Bool.eq_false_iff.mpr c19
                  subst c19
                  have H1 : (some false) = some r := by rw [if_neg (show ¬ (false = true) by decide)] at H; exact H
                  clear H
                  have H := H1
                  clear H1
                  obtain rfl := Option.some.inj H
                  go_wp2_with (first | (go_at_call 25; (with_reducible refine (key_Within.calls a0 a3 a4 true _ A14.out).mono ?_); rintro e w' ⟨rfl, ⟨nd, rfl⟩⟩) | (go_at_call 25; (with_reducible refine (key_Within.calls a2 a3 a4 true _ A16.out).mono ?_); rintro e w' ⟨rfl, ⟨nd, rfl⟩⟩) | (go_at_call 25; (with_reducible refine (key_Within.calls a1 a3 a4 false _ A18.out).mono ?_); rintro e w' ⟨rfl, ⟨nd, rfl⟩⟩))
                  go_ret
                  exact ⟨by first | rfl | (simp [errW_none, errW_some] <;> rfl) | (simp [*, errW_none, errW_some] <;> rfl), by repeat (first | (with_reducible first | exact HB.out | apply below_alloc | apply pw_below_drewN | apply below_drew1) | exact HB.out)⟩
              · replace c17 := Bool.eq_false_iff.mpr c17
                subst c17
                have H1 : ((key_Within.f a0 a0 (⟨#[]⟩ : ByteArray)).bind fun t139 => (if t139 = true then (if a3.toList = ([] : List UInt8) then (some true) else ((key_Within.f a0 a3 a3).bind fun t140 => (some (!t140)))) else (some false))) = some r := by rw [if_neg (show ¬ (false = true) by decide)] at H; exact H
                clear H
                have H := H1
                clear H1
                replace H := Option.bind_eq_some_iff.mp H
                obtain ⟨t139, A240, H⟩ := H
                replace H : (if t139 = true then (if a3.toList = ([] : List UInt8) then (some true) else ((key_Within.f a0 a3 a3).bind fun t140 => (some (!t140)))) else (some false)) = some r := H
                have A24 := Aside0.mk A240
                clear A240
                by_cases c25 : t139 = true
                · subst c25
                  have H1 : (if a3.toList = ([] : List UInt8) then (some true) else ((key_Within.f a0 a3 a3).bind fun t140 => (some (!t140)))) = some r := by rw [if_pos rfl] at H; exact H
                  clear H
                  have H := H1
                  clear H1
                  by_cases c26 : a3.toList = ([] : List UInt8)
                  · rw [if_pos c26] at H
                    have c26b0 : (a3.toList == ([] : List UInt8)) = true := beq_iff_eq.mpr c26
                    have c26b1 : (a3.toList != ([] : List UInt8)) = false := bne_eq_false_iff_eq.mpr c26
                    clear c26
                    obtain rfl := Option.some.inj H
                    go_wp2_with (first | (go_at_call 25; (with_reducible refine (key_Within.calls a0 a3 a4 true _ A14.out).mono ?_); rintro e w' ⟨rfl, ⟨nd, rfl⟩⟩) | (go_at_call 25; (with_reducible refine (key_Within.calls a2 a3 a4 false _ A16.out).mono ?_); rintro e w' ⟨rfl, ⟨nd, rfl⟩⟩) | (go_at_call 25; (with_reducible refine (key_Within.calls a0 a0 (⟨#[]⟩ : ByteArray) true _ A24.out).mono ?_); rintro e w' ⟨rfl, ⟨nd, rfl⟩⟩))
                    go_ret
                    exact ⟨by first | rfl | (simp [errW_none, errW_some] <;> rfl) | (simp [*, errW_none, errW_some] <;> rfl), by repeat (first | (with_reducible first | exact HB.out | apply below_alloc | apply pw_below_drewN | apply below_drew1) | exact HB.out)⟩
                  · rw [if_neg c26] at H
                    have c26b0 : (a3.toList == ([] : List UInt8)) = false := beq_eq_false_iff_ne.mpr c26
                    have c26b1 : (a3.toList != ([] : List UInt8)) = true := bne_iff_ne.mpr c26
                    replace H := Option.bind_eq_some_iff.mp H
                    obtain ⟨t140, A270, H⟩ := H
                    replace H : (some (!t140)) = some r := H
                    have A27 := Aside0.mk A270
                    clear A270
                    obtain rfl := Option.some.inj H
                    go_wp2_with (first | (go_at_call 25; (with_reducible refine (key_Within.calls a0 a3 a4 true _ A14.out).mono ?_); rintro e w' ⟨rfl, ⟨nd, rfl⟩⟩) | (go_at_call 25; (with_reducible refine (key_Within.calls a2 a3 a4 false _ A16.out).mono ?_); rintro e w' ⟨rfl, ⟨nd, rfl⟩⟩) | (go_at_call 25; (with_reducible refine (key_Within.calls a0 a0 (⟨#[]⟩ : ByteArray) true _ A24.out).mono ?_); rintro e w' ⟨rfl, ⟨nd, rfl⟩⟩) | (go_at_call 25; (with_reducible refine (key_Within.calls a0 a3 a3 t140 _ A27.out).mono ?_); rintro e w' ⟨rfl, ⟨nd, rfl⟩⟩))
                    go_ret
                    exact ⟨by first | rfl | (simp [errW_none, errW_some] <;> rfl) | (simp [*, errW_none, errW_some] <;> rfl), by repeat (first | (with_reducible first | exact HB.out | apply below_alloc | apply pw_below_drewN | apply below_drew1) | exact HB.out)⟩
                · replace c25 := Bool.eq_false_iff.mpr c25
                  subst c25
                  have H1 : (some false) = some r := by rw [if_neg (show ¬ (false = true) by decide)] at H; exact H
                  clear H
                  have H := H1
                  clear H1
                  obtain rfl := Option.some.inj H
                  go_wp2_with (first | (go_at_call 25; (with_reducible refine (key_Within.calls a0 a3 a4 true _ A14.out).mono ?_); rintro e w' ⟨rfl, ⟨nd, rfl⟩⟩) | (go_at_call 25; (with_reducible refine (key_Within.calls a2 a3 a4 false _ A16.out).mono ?_); rintro e w' ⟨rfl, ⟨nd, rfl⟩⟩) | (go_at_call 25; (with_reducible refine (key_Within.calls a0 a0 (⟨#[]⟩ : ByteArray) false _ A24.out).mono ?_); rintro e w' ⟨rfl, ⟨nd, rfl⟩⟩))
                  go_ret
                  exact ⟨by first | rfl | (simp [errW_none, errW_some] <;> rfl) | (simp [*, errW_none, errW_some] <;> rfl), by repeat (first | (with_reducible first | exact HB.out | apply below_alloc | apply pw_below_drewN | apply below_drew1) | exact HB.out)⟩
            · replace c15 := Bool.eq_false_iff.mpr c15
              subst c15
              have H1 : ((key_Within.f a0 a0 (⟨#[]⟩ : ByteArray)).bind fun t141 => (if t141 = true then (if a3.toList = ([] : List UInt8) then (some true) else ((key_Within.f a0 a3 a3).bind fun t142 => (some (!t142)))) else (some false))) = some r := by rw [if_neg (show ¬ (false = true) by decide)] at H; exact H
              clear H
              have H := H1
              clear H1
              replace H := Option.bind_eq_some_iff.mp H
              obtain ⟨t141, A280, H⟩ := H
              replace H : (if t141 = true then (if a3.toList = ([] : List UInt8) then (some true) else ((key_Within.f a0 a3 a3).bind fun t142 => (some (!t142)))) else (some false)) = some r := H
              have A28 := Aside0.mk A280
              clear A280
              by_cases c29 : t141 = true
              · subst c29
                have H1 : (if a3.toList = ([] : List UInt8) then (some true) else ((key_Within.f a0 a3 a3).bind fun t142 => (some (!t142)))) = some r := by rw [if_pos rfl] at H; exact H
                clear H
                have H := H1
                clear H1
                by_cases c30 : a3.toList = ([] : List UInt8)
                · rw [if_pos c30] at H
                  have c30b0 : (a3.toList == ([] : List UInt8)) = true := beq_iff_eq.mpr c30
                  have c30b1 : (a3.toList != ([] : List UInt8)) = false := bne_eq_false_iff_eq.mpr c30
                  clear c30
                  obtain rfl := Option.some.inj H
                  go_wp2_with (first | (go_at_call 25; (with_reducible refine (key_Within.calls a0 a3 a4 false _ A14.out).mono ?_); rintro e w' ⟨rfl, ⟨nd, rfl⟩⟩) | (go_at_call 25; (with_reducible refine (key_Within.calls a0 a0 (⟨#[]⟩ : ByteArray) true _ A28.out).mono ?_); rintro e w' ⟨rfl, ⟨nd, rfl⟩⟩))
                  go_ret
                  exact ⟨by first | rfl | (simp [errW_none, errW_some] <;> rfl) | (simp [*, errW_none, errW_some] <;> rfl), by repeat (first | (with_reducible first | exact HB.out | apply below_alloc | apply pw_below_drewN | apply below_drew1) | exact HB.out)⟩
                · rw [if_neg c30] at H
                  have c30b0 : (a3.toList == ([] : List UInt8)) = false := beq_eq_false_iff_ne.mpr c30
                  have c30b1 : (a3.toList != ([] : List UInt8)) = true := bne_iff_ne.mpr c30
                  replace H := Option.bind_eq_some_iff.mp H
                  obtain ⟨t142, A310, H⟩ := H
                  replace H : (some (!t142)) = some r := H
                  have A31 := Aside0.mk A310
                  clear A310
                  obtain rfl := Option.some.inj H
                  go_wp2_with (first | (go_at_call 25; (with_reducible refine (key_Within.calls a0 a3 a4 false _ A14.out).mono ?_); rintro e w' ⟨rfl, ⟨nd, rfl⟩⟩) | (go_at_call 25; (with_reducible refine (key_Within.calls a0 a0 (⟨#[]⟩ : ByteArray) true _ A28.out).mono ?_); rintro e w' ⟨rfl, ⟨nd, rfl⟩⟩) | (go_at_call 25; (with_reducible refine (key_Within.calls a0 a3 a3 t142 _ A31.out).mono ?_); rintro e w' ⟨rfl, ⟨nd, rfl⟩⟩))
                  go_ret
                  exact ⟨by first | rfl | (simp [errW_none, errW_some] <;> rfl) | (simp [*, errW_none, errW_some] <;> rfl), by repeat (first | (with_reducible first | exact HB.out | apply below_alloc | apply pw_below_drewN | apply below_drew1) | exact HB.out)⟩
              · replace c29 := Bool.eq_false_iff.mpr c29
                subst c29
                have H1 : (some false) = some r := by rw [if_neg (show ¬ (false = true) by decide)] at H; exact H
                clear H
                have H := H1
                clear H1
                obtain rfl := Option.some.inj H
                go_wp2_with (first | (go_at_call 25; (with_reducible refine (key_Within.calls a0 a3 a4 false _ A14.out).mono ?_); rintro e w' ⟨rfl, ⟨nd, rfl⟩⟩) | (go_at_call 25; (with_reducible refine (key_Within.calls a0 a0 (⟨#[]⟩ : ByteArray) false _ A28.out).mono ?_); rintro e w' ⟨rfl, ⟨nd, rfl⟩⟩))
                go_ret
                exact ⟨by first | rfl | (simp [errW_none, errW_some] <;> rfl) | (simp [*, errW_none, errW_some] <;> rfl), by repeat (first | (with_reducible first | exact HB.out | apply below_alloc | apply pw_below_drewN | apply below_drew1) | exact HB.out)⟩
          · replace c13 := Bool.eq_false_iff.mpr c13
            subst c13
            have H1 : ((key_Within.f a0 a0 (⟨#[]⟩ : ByteArray)).bind fun t143 => (if t143 = true then (if a3.toList = ([] : List UInt8) then (some true) else ((key_Within.f a0 a3 a3).bind fun t144 => (some (!t144)))) else (some false))) = some r := by rw [if_neg (show ¬ (false = true) by decide)] at H; exact H
            clear H
            have H := H1
            clear H1
            replace H := Option.bind_eq_some_iff.mp H
            obtain ⟨t143, A320, H⟩ := H
            replace H : (if t143 = true then (if a3.toList = ([] : List UInt8) then (some true) else ((key_Within.f a0 a3 a3).bind fun t144 => (some (!t144)))) else (some false)) = some r := H
            have A32 := Aside0.mk A320
            clear A320
            by_cases c33 : t143 = true
            · subst c33
              have H1 : (if a3.toList = ([] : List UInt8) then (some true) else ((key_Within.f a0 a3 a3).bind fun t144 => (some (!t144)))) = some r := by rw [if_pos rfl] at H; exact H
              clear H
              have H := H1
              clear H1
              by_cases c34 : a3.toList = ([] : List UInt8)
              · rw [if_pos c34] at H
                have c34b0 : (a3.toList == ([] : List UInt8)) = true := beq_iff_eq.mpr c34
                have c34b1 : (a3.toList != ([] : List UInt8)) = false := bne_eq_false_iff_eq.mpr c34
                clear c34
                obtain rfl := Option.some.inj H
                go_wp2_with (first | (go_at_call 25; (with_reducible refine (key_Within.calls a0 a0 (⟨#[]⟩ : ByteArray) true _ A32.out).mono ?_); rintro e w' ⟨rfl, ⟨nd, rfl⟩⟩))
                go_ret
                exact ⟨by first | rfl | (simp [errW_none, errW_some] <;> rfl) | (simp [*, errW_none, errW_some] <;> rfl), by repeat (first | (with_reducible first | exact HB.out | apply below_alloc | apply pw_below_drewN | apply below_drew1) | exact HB.out)⟩
              · rw [if_neg c34] at H
                have c34b0 : (a3.toList == ([] : List UInt8)) = false := beq_eq_false_iff_ne.mpr c34
                have c34b1 : (a3.toList != ([] : List UInt8)) = true := bne_iff_ne.mpr c34
                replace H := Option.bind_eq_some_iff.mp H
                obtain ⟨t144, A350, H⟩ := H
                replace H : (some (!t144)) = some r := H
                have A35 := Aside0.mk A350
                clear A350
                obtain rfl := Option.some.inj H
                go_wp2_with (first | (go_at_call 25; (with_reducible refine (key_Within.calls a0 a0 (⟨#[]⟩ : ByteArray) true _ A32.out).mono ?_); rintro e w' ⟨rfl, ⟨nd, rfl⟩⟩) | (go_at_call 25; (with_reducible refine (key_Within.calls a0 a3 a3 t144 _ A35.out).mono ?_); rintro e w' ⟨rfl, ⟨nd, rfl⟩⟩))
                go_ret
                exact ⟨by first | rfl | (simp [errW_none, errW_some] <;> rfl) | (simp [*, errW_none, errW_some] <;> rfl), by repeat (first | (with_reducible first | exact HB.out | apply below_alloc | apply pw_below_drewN | apply below_drew1) | exact HB.out)⟩
            · replace c33 := Bool.eq_false_iff.mpr c33
              subst c33
              have H1 : (some false) = some r := by rw [if_neg (show ¬ (false = true) by decide)] at H; exact H
              clear H
              have H := H1
              clear H1
              obtain rfl := Option.some.inj H
              go_wp2_with (first | (go_at_call 25; (with_reducible refine (key_Within.calls a0 a0 (⟨#[]⟩ : ByteArray) false _ A32.out).mono ?_); rintro e w' ⟨rfl, ⟨nd, rfl⟩⟩))
              go_ret
              exact ⟨by first | rfl | (simp [errW_none, errW_some] <;> rfl) | (simp [*, errW_none, errW_some] <;> rfl), by repeat (first | (with_reducible first | exact HB.out | apply below_alloc | apply pw_below_drewN | apply below_drew1) | exact HB.out)⟩
  · replace c7 := Bool.eq_false_iff.mpr c7
    subst c7
    have H1 : (some false) = some r := by rw [if_neg (show ¬ (false = true) by decide)] at H; exact H
    clear H
    have H := H1
    clear H1
    obtain rfl := Option.some.inj H
    go_enter Try.func11, Try.ntmps11
    go_wp2_with (first | ((with_reducible refine gate_callee (f := 20) rfl ?_); refine goesL_ (some 12) rfl rfl Try.func20 (by kernel_rfl) rfl #[] rfl (by (try simp only [List.map_toArray, List.map_cons, List.map_nil]); first | done | rfl | (simp only [List.length_drop, List.length_take]; rfl)) ?_; (with_reducible refine (diwanlaw4_begun.calls k  false _ A6.out).mono ?_); rintro e w36 ⟨rfl, hb⟩; refine ⟨_, rfl, ?_⟩; have n0_ := Aside0.mk (below_step (by repeat (first | (with_reducible first | exact HB.out | apply below_alloc | apply pw_below_drewN | apply below_drew1) | exact HB.out)) hb); clear HB; have HB := n0_; clear n0_; (try clear hb); (try clear hb2); (try clear hk); (try clear hi)))
    go_ret
    exact ⟨by first | rfl | (simp [errW_none, errW_some] <;> rfl) | (simp [*, errW_none, errW_some] <;> rfl), by repeat (first | (with_reducible first | exact HB.out | apply below_alloc | apply pw_below_drewN | apply below_drew1) | exact HB.out)⟩

/-- THE ONE PURE STATEMENT of diwanlaw4_KeyWithin: yours. -/
def diwanlaw4_KeyWithin.Pure : Prop := ∀ (a0 : ByteArray) (a1 : ByteArray) (a2 : ByteArray) (a3 : ByteArray) (a4 : ByteArray), a0.size ≤ 140737488351232 → a1.size ≤ 140737488351232 → a2.size ≤ 140737488351232 → a3.size ≤ 140737488351232 → a4.size ≤ 140737488351232 → ∃ k, diwanlaw4_KeyWithin.f k a0 a1 a2 a3 a4 = some true
theorem diwanlaw4_KeyWithin.walk (P : diwanlaw4_KeyWithin.Pure) (a0 : ByteArray) (a1 : ByteArray) (a2 : ByteArray) (a3 : ByteArray) (a4 : ByteArray) (w : World) (w0 : a0.size ≤ 140737488351232) (w1 : a1.size ≤ 140737488351232) (w2 : a2.size ≤ 140737488351232) (w3 : a3.size ≤ 140737488351232) (w4 : a4.size ≤ 140737488351232) :
    Calls Try.prog 11 #[.string a0, .string a1, .string a2, .string a3, .string a4] w fun e w' => e = .returned (.bool true) ∧ Below w.heap.size w w' := by
  obtain ⟨k, h⟩ := P a0 a1 a2 a3 a4 w0 w1 w2 w3 w4
  refine (diwanlaw4_KeyWithin.calls k a0 a1 a2 a3 a4 true w h).mono ?_
  rintro e w' ⟨rfl, hd⟩
  exact ⟨rfl, hd⟩

end Go.Proofs.Ytggffmcfkcjeaaa.PKey
