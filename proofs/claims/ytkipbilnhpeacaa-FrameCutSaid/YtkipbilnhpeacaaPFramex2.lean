/- Written by a program of this session (pp.py over the kit's print.py): functions as they are printed, the walks, the rows. No condition beyond those that each theorem states. -/
import Derived.Test.YtkipbilnhpeacaaPFramex0
import Derived.Test.YtkipbilnhpeacaaPFramex1
namespace Go.Proofs.Ytkipbilnhpeacaa.PFrame
open Go.RowKit Go.Proofs.YtkipbilnhpeacaaW.PrintWords Go.Proofs.YtkipbilnhpeacaaW.PrintLast Go.Proofs.YtkipbilnhpeacaaW.PrintMore
attribute [local go_sem] max2_int min2_int max_two min_two max_three min_three max_four min_four   -- for this text's walks alone
set_option linter.unusedVariables false
set_option linter.unusedSimpArgs false

/-! ### diwanlaw3_begun: function 46 (by hand) -/
/-- A row of bytes that was just laid down, whatever its mark. -/
theorem C_laid (w : World) (xs : List Int) (e : Nat) (fr : Nat × Nat) (hm : xs.length ≤ 9223372036854775807) : Kd.C (Kd.int .u8) (w.alloc (.cells (xs.map (Value.int .u8)).toArray e fr)) (some ⟨w.heap.size, 0, none⟩) xs.length xs := by
  refine ⟨rfl, hm, fun _ => ⟨_, rfl, fun j p hj => ⟨[.int .u8 p], rfl, rfl, fun i u hu => ?_⟩⟩⟩
  have hb : (w.alloc (.cells (xs.map (Value.int .u8)).toArray e fr)).heap[w.heap.size]? = some (.cells (xs.map (Value.int .u8)).toArray e fr) := by
    show (w.heap.push _)[w.heap.size]? = _
    simp
  cases i with
  | succ i => simp at hu
  | zero =>
    have hu' : u = .int .u8 p := by simpa using hu.symm
    subst hu'
    have hz : (Kd.int IntKind.u8).sz = 1 := rfl
    rw [hz, Nat.mul_one, Nat.add_zero, add_plain]
    unfold World.cell?
    simp only [hb]
    simp [hj]
def diwanlaw3_begun.f : Option Bool := some true
set_option maxHeartbeats 4000000 in
set_option maxRecDepth 100000 in
theorem diwanlaw3_begun.calls (r : Bool) (w : World) (h : diwanlaw3_begun.f = some r) :
    Calls Try.prog 46 #[] w fun e w' => e = .returned (.bool r) ∧ Below w.heap.size w w' := by
  obtain rfl : true = r := Option.some.inj h
  clear h
  have s1 : Aside0 (frame_Put.f 64 [97, 98] = some ([0, 2, 253, 154, 81, 224, 97, 98], true)) := ⟨by decide +kernel⟩
  have s2 : Aside0 (frame_Take.f 64 [0, 2, 253, 154, 81, 224, 97, 98] = some ([97, 98], 8, true)) := ⟨by decide +kernel⟩
  have s3 : Aside0 (frame_All.f 64 ([] ++ [0, 2, 253, 154, 81, 224, 97, 98] ++ [0, 2, 253, 154, 81, 224, 97, 98]) = some ([[97, 98], [97, 98]], 16)) := ⟨by decide +kernel⟩
  have s4 : Aside0 (frame_Take.f 64 [] = some ([], 0, false)) := ⟨by decide +kernel⟩
  have kc := fun (w : World) (C : Array Value) (n c : Nat) => Lib.run_convert_bytes_const (P := Try.prog) w 22 5 C n c Try.underlying22 Try.underlying5
  go_enter Try.func46, Try.ntmps46
  go_wp2_with fail
  refine (frame_Put.calls 64 _ _ [97, 98] _ _ _ (C_laid w [97, 98] 5 (2, 3) (by decide)) (by decide) s1.out).mono ?_
  rintro e w1 ⟨v1, rfl, hR, hB⟩
  obtain ⟨A1, c1, rfl, hle1, hC1⟩ := Kd.R_reads hR
  have B1 := Aside0.mk (below_step (below_alloc (Below.refl _ w) (.cells ([97, 98].map (Value.int .u8)).toArray 5 (2, 3))) hB)
  have C1 := Aside0.mk hC1
  have L1 := Aside0.mk hle1
  clear hR hB hle1 hC1
  go_wp2_with fail
  refine (frame_Take.calls 64 A1 c1 [0, 2, 253, 154, 81, 224, 97, 98] _ _ _ w1 C1.out L1.out s2.out).mono ?_
  rintro e w2 ⟨v2, rfl, hR, hB⟩
  obtain ⟨A2, c2, rfl, hle2, hC2⟩ := Kd.Q_reads hR
  have B2 := Aside0.mk (below_step B1.out hB)
  have C12 := Aside0.mk (Kd.C_below C1.out hB)
  have C2 := Aside0.mk hC2
  clear hR hB hle2 hC2 C1
  go_wp2_with (first
    | ((with_reducible refine gate_dst (N := 24) rfl ?_); (try (refine gate_guard (by rfl) ?_; dsimp only)); refine Kd.R_lit (Kd.int .u8) _ 5 ?hg (N := 24) ?hd (xs := ([] : List Int)) (inner := []) (ok := fun _ => True) (okp := fun _ => True) ?hr ?hp (fun _ hk => hk) trivial (Below.refl _ _) (Nat.le_refl _) (by simp) ?_; (case hd => rfl); (case hg => rfl); (case hr => first | (go_simp; done) | (go_simp; rfl)); (case hp => exact (Reps.none _ _)); intro v3 w3 ho hb hg_ hnew_; clear hg_ hnew_; have HO3 := Aside0.mk ho; have HB3 := Aside0.mk hb; have C13 := Aside0.mk (Kd.C_below C12.out hb); clear ho hb)
    | ((with_reducible refine gate_builtin (b := .append) (xs := #[.tmp 24, .tmp 25]) rfl ?_); (try (refine gate_guard (by rfl) ?_; dsimp only)); at_builtin; refine Kd.R_append_rows (Kd.int .u8) (w0 := w2) w2.heap.size rfl (.tmp 24) (.tmp 25) 22 5 (.int .u8 0) 1 rfl Try.underlying22 info5 rfl (by decide) (by omega) v3 [] [0, 2, 253, 154, 81, 224, 97, 98] _ _ _ (fun _ => True) (fun _ => False) rfl rfl HO3.out C13.out (fun _ _ h => h) (fun _ h => h.elim) (fun _ _ => trivial) HB3.out (below_size HB3.out) (by decide) ?_; intro v4 w4 ho hb hg hat; have HO4 := Aside0.mk ho; have HB4 := Aside0.mk hb; have C14 := Aside0.mk (Kd.C_below C12.out hb); clear ho hb hg hat)
    | ((with_reducible refine gate_builtin (b := .append) (xs := #[.tmp 26, .tmp 27]) rfl ?_); (try (refine gate_guard (by rfl) ?_; dsimp only)); at_builtin; refine Kd.R_append_rows (Kd.int .u8) (w0 := w2) w2.heap.size rfl (.tmp 26) (.tmp 27) 22 5 (.int .u8 0) 1 rfl Try.underlying22 info5 rfl (by decide) (by omega) v4 ([] ++ [0, 2, 253, 154, 81, 224, 97, 98]) [0, 2, 253, 154, 81, 224, 97, 98] _ _ _ (fun _ => True) (fun _ => False) rfl rfl HO4.out C14.out (fun _ _ h => h) (fun _ h => h.elim) (fun _ _ => trivial) HB4.out (below_size HB4.out) (by decide) ?_; intro v5 w5 ho hb hg hat; obtain ⟨A5, c5, hv5, hle5, hC5⟩ := Kd.R_reads ho; subst hv5; have C5 := Aside0.mk hC5; have L5 := Aside0.mk hle5; have HB5 := Aside0.mk hb; have C15 := Aside0.mk (Kd.C_below C12.out hb); have C25 := Aside0.mk (Kd.C_below C2.out hb); clear ho hb hg hat hC5 hle5))
  refine (frame_All.calls 64 A5 c5 ([] ++ [0, 2, 253, 154, 81, 224, 97, 98] ++ [0, 2, 253, 154, 81, 224, 97, 98]) _ _ w5 C5.out L5.out s3.out).mono ?_
  rintro e w6 ⟨v6, rfl, hS, hB⟩
  obtain ⟨A6, c6, rfl⟩ := Kd.S_slice hS
  have B6 := Aside0.mk (below_step (below_step B2.out HB5.out) hB)
  have C16 := Aside0.mk (Kd.C_below C15.out hB)
  have C26 := Aside0.mk (Kd.C_below C25.out hB)
  clear hS hB
  go_wp2_with fail
  refine (frame_Take.calls 64 none 0 [] _ _ _ w6 ⟨rfl, by decide, fun h => absurd h (by decide)⟩ (by decide) s4.out).mono ?_
  rintro e w7 ⟨v7, rfl, hR, hB⟩
  have B7 := Aside0.mk (below_step B6.out hB)
  have C17 := Kd.C_below C16.out hB
  have C27 := Kd.C_below C26.out hB
  clear hR hB
  obtain ⟨ad, e1, hx⟩ := Kd.at_int C17 1 (by omega) (by decide)
  subst e1
  simp only [show (1 : Int).toNat = 1 from rfl, Nat.reduceMul, Nat.reduceEqDiff, Go.Addr.add, ↓reduceIte] at hx
  have hst : strOfNums [97, 98] = ⟨#[97, 98]⟩ := by decide +kernel
  have k1 : (convert 22 9 (.slice A2 2 c2)).run Try.prog w7 = .ok (.string ⟨#[97, 98]⟩) w7 := hst ▸ Kd.C_string Try.underlying22 Try.underlying5 Try.underlying9 C27
  have k2 : ∀ n, (convert 22 9 (.slice A2 2 c2)).run Try.prog (w7.drewN n) = .ok (.string ⟨#[97, 98]⟩) (w7.drewN n) := fun n => hst ▸ Kd.C_string Try.underlying22 Try.underlying5 Try.underlying9 (Kd.C_drewN C27 n)
  have hrd : rd [0, 2, 253, 154, 81, 224, 97, 98] 1 = 2 := rfl
  clear C17 C27 hst
  go_wp2_with fail
  go_ret
  exact ⟨rfl, B7.out⟩


/-! ### diwanlaw3_FrameTurned: function 17 -/
def diwanlaw3_FrameTurned.f (k : Nat) (l0 : List Int) (a1 : Int) (a2 : Int) : Option (Bool) := (diwanlaw3_begun.f).bind fun t116 => (if t116 = true then (if (l0.length : Int) > 100 then (some true) else ((frame_Put.f k l0).bind fun bt117 => (if bt117.2 = true then (if (bt117.1.length : Int) = (wrap64 (6 + (l0.length : Int))) then (if (wrap64 ((bt117.1.length : Int) - 2)) = 0 then (none) else (if 0 ≤ (wrap64 (2 + (Int.tmod (wrap64 (a1)) (wrap64 ((bt117.1.length : Int) - 2))))) then (if (wrap64 (2 + (Int.tmod (wrap64 (a1)) (wrap64 ((bt117.1.length : Int) - 2))))) < (bt117.1.length : Int) then (if 0 ≤ (Int.tmod a2 8) then ((frame_Take.f k (bt117.1.set ((wrap64 (2 + (Int.tmod (wrap64 (a1)) (wrap64 ((bt117.1.length : Int) - 2))))) : Int).toNat (Go.bits .xor .u8 (rd bt117.1 (wrap64 (2 + (Int.tmod (wrap64 (a1)) (wrap64 ((bt117.1.length : Int) - 2)))))) (shl .u8 1 (Int.tmod a2 8))))).bind fun bt123 => (if bt123.2.2 = true then (some false) else (some (bt123.2.1 == 0)))) else (none)) else (none)) else (none))) else (some false)) else (some false)))) else (some false))
theorem diwanlaw3_FrameTurned.mono : ∀ a0 a1 a2 k, LeO (diwanlaw3_FrameTurned.f k a0 a1 a2) (diwanlaw3_FrameTurned.f (k + 1) a0 a1 a2) := by
  intro a0 a1 a2 k
  unfold diwanlaw3_FrameTurned.f
  repeat' first
      | (with_reducible exact frame_Put.mono _ _)
      | (with_reducible exact frame_Take.mono _ _)
      | (with_reducible exact LeO.refl _)
      | (with_reducible exact LeO.none _)
      | (with_reducible refine LeO.ite ?_ ?_)
      | (with_reducible refine LeO.bind ?_ (fun _ => ?_))
      | exact frame_Put.mono _ _
      | exact frame_Take.mono _ _
      | exact LeO.none _
      | refine LeO.ite ?_ ?_
      | refine LeO.bind ?_ (fun _ => ?_)
set_option maxHeartbeats 8000000 in
set_option maxRecDepth 100000 in
theorem diwanlaw3_FrameTurned.calls (k : Nat) (A0 : Option Addr) (c0 : Nat) (l0 : List Int) (a1 : Int) (a2 : Int) (r : Bool) (w : World) (hr0 : Kd.C (Kd.int .u8) w A0 l0.length l0) (hc0 : l0.length ≤ c0) (h : diwanlaw3_FrameTurned.f k l0 a1 a2 = some r) :
    Calls Try.prog 17 #[.slice A0 l0.length c0, .int .u16 a1, .int .u8 a2] w fun e w' => e = .returned (.bool r) ∧ Below w.heap.size w w' := by
  have HR0 := Aside0.mk hr0
  have HC0 := Aside0.mk hc0
  clear hr0 hc0
  have HB := Aside0.mk (Below.refl w.heap.size w)
  have H : ((diwanlaw3_begun.f).bind fun t116 => (if t116 = true then (if (l0.length : Int) > 100 then (some true) else ((frame_Put.f k l0).bind fun bt117 => (if bt117.2 = true then (if (bt117.1.length : Int) = (wrap64 (6 + (l0.length : Int))) then (if (wrap64 ((bt117.1.length : Int) - 2)) = 0 then (none) else (if 0 ≤ (wrap64 (2 + (Int.tmod (wrap64 (a1)) (wrap64 ((bt117.1.length : Int) - 2))))) then (if (wrap64 (2 + (Int.tmod (wrap64 (a1)) (wrap64 ((bt117.1.length : Int) - 2))))) < (bt117.1.length : Int) then (if 0 ≤ (Int.tmod a2 8) then ((frame_Take.f k (bt117.1.set ((wrap64 (2 + (Int.tmod (wrap64 (a1)) (wrap64 ((bt117.1.length : Int) - 2))))) : Int).toNat (Go.bits .xor .u8 (rd bt117.1 (wrap64 (2 + (Int.tmod (wrap64 (a1)) (wrap64 ((bt117.1.length : Int) - 2)))))) (shl .u8 1 (Int.tmod a2 8))))).bind fun bt123 => (if bt123.2.2 = true then (some false) else (some (bt123.2.1 == 0)))) else (none)) else (none)) else (none))) else (some false)) else (some false)))) else (some false))) = some r := h
  clear h
  replace H := Option.bind_eq_some_iff.mp H
  obtain ⟨t116, A40, H⟩ := H
  replace H : (if t116 = true then (if (l0.length : Int) > 100 then (some true) else ((frame_Put.f k l0).bind fun bt117 => (if bt117.2 = true then (if (bt117.1.length : Int) = (wrap64 (6 + (l0.length : Int))) then (if (wrap64 ((bt117.1.length : Int) - 2)) = 0 then (none) else (if 0 ≤ (wrap64 (2 + (Int.tmod (wrap64 (a1)) (wrap64 ((bt117.1.length : Int) - 2))))) then (if (wrap64 (2 + (Int.tmod (wrap64 (a1)) (wrap64 ((bt117.1.length : Int) - 2))))) < (bt117.1.length : Int) then (if 0 ≤ (Int.tmod a2 8) then ((frame_Take.f k (bt117.1.set ((wrap64 (2 + (Int.tmod (wrap64 (a1)) (wrap64 ((bt117.1.length : Int) - 2))))) : Int).toNat (Go.bits .xor .u8 (rd bt117.1 (wrap64 (2 + (Int.tmod (wrap64 (a1)) (wrap64 ((bt117.1.length : Int) - 2)))))) (shl .u8 1 (Int.tmod a2 8))))).bind fun bt123 => (if bt123.2.2 = true then (some false) else (some (bt123.2.1 == 0)))) else (none)) else (none)) else (none))) else (some false)) else (some false)))) else (some false)) = some r := H
  have A4 := Aside0.mk A40
  clear A40
  by_cases c5 : t116 = true
  · subst c5
    have H1 : (if (l0.length : Int) > 100 then (some true) else ((frame_Put.f k l0).bind fun bt117 => (if bt117.2 = true then (if (bt117.1.length : Int) = (wrap64 (6 + (l0.length : Int))) then (if (wrap64 ((bt117.1.length : Int) - 2)) = 0 then (none) else (if 0 ≤ (wrap64 (2 + (Int.tmod (wrap64 (a1)) (wrap64 ((bt117.1.length : Int) - 2))))) then (if (wrap64 (2 + (Int.tmod (wrap64 (a1)) (wrap64 ((bt117.1.length : Int) - 2))))) < (bt117.1.length : Int) then (if 0 ≤ (Int.tmod a2 8) then ((frame_Take.f k (bt117.1.set ((wrap64 (2 + (Int.tmod (wrap64 (a1)) (wrap64 ((bt117.1.length : Int) - 2))))) : Int).toNat (Go.bits .xor .u8 (rd bt117.1 (wrap64 (2 + (Int.tmod (wrap64 (a1)) (wrap64 ((bt117.1.length : Int) - 2)))))) (shl .u8 1 (Int.tmod a2 8))))).bind fun bt123 => (if bt123.2.2 = true then (some false) else (some (bt123.2.1 == 0)))) else (none)) else (none)) else (none))) else (some false)) else (some false)))) = some r := by rw [if_pos rfl] at H; exact H
    clear H
    have H := H1
    clear H1
    by_cases c6 : (l0.length : Int) > 100
    · rw [if_pos c6] at H
      have c6b0 : decide (100 < (l0.length : Int)) = true := decide_eq_true c6
      have c6b1 : decide (100 < l0.length) = true := decide_eq_true (by omega)
      clear c6
      obtain rfl := Option.some.inj H
      go_enter Try.func17, Try.ntmps17
      go_wp2_with (first | ((with_reducible refine gate_callee (f := 46) rfl ?_); refine goesL_ (some 12) rfl rfl Try.func46 (by kernel_rfl) rfl #[] rfl (by (try simp only [List.map_toArray, List.map_cons, List.map_nil]); first | done | rfl | (simp only [List.length_drop, List.length_take]; rfl)) ?_; (with_reducible refine (diwanlaw3_begun.calls  true _ A4.out).mono ?_); rintro e w7 ⟨rfl, hb⟩; refine ⟨_, rfl, ?_⟩; have n0_ := Aside0.mk (below_step (by repeat (first | (with_reducible first | exact HB.out | apply below_alloc | apply pw_below_drewN | apply below_drew1) | exact HB.out)) hb); clear HB; have HB := n0_; clear n0_; (try clear hb); (try clear hb2); (try clear hk); (try clear hi)))
      go_ret
      exact ⟨by first | rfl | (simp [errW_none, errW_some] <;> rfl) | (simp [*, errW_none, errW_some] <;> rfl), by repeat (first | (with_reducible first | exact HB.out | apply below_alloc | apply pw_below_drewN | apply below_drew1) | exact HB.out)⟩
    · rw [if_neg c6] at H
      have c6b0 : decide (100 < (l0.length : Int)) = false := decide_eq_false c6
      have c6b1 : decide (100 < l0.length) = false := decide_eq_false (by omega)
      clear c6
      replace H := Option.bind_eq_some_iff.mp H
      obtain ⟨⟨t117, t118⟩, A80, H⟩ := H
      replace H : (if t118 = true then (if (t117.length : Int) = (wrap64 (6 + (l0.length : Int))) then (if (wrap64 ((t117.length : Int) - 2)) = 0 then (none) else (if 0 ≤ (wrap64 (2 + (Int.tmod (wrap64 (a1)) (wrap64 ((t117.length : Int) - 2))))) then (if (wrap64 (2 + (Int.tmod (wrap64 (a1)) (wrap64 ((t117.length : Int) - 2))))) < (t117.length : Int) then (if 0 ≤ (Int.tmod a2 8) then ((frame_Take.f k (t117.set ((wrap64 (2 + (Int.tmod (wrap64 (a1)) (wrap64 ((t117.length : Int) - 2))))) : Int).toNat (Go.bits .xor .u8 (rd t117 (wrap64 (2 + (Int.tmod (wrap64 (a1)) (wrap64 ((t117.length : Int) - 2)))))) (shl .u8 1 (Int.tmod a2 8))))).bind fun bt123 => (if bt123.2.2 = true then (some false) else (some (bt123.2.1 == 0)))) else (none)) else (none)) else (none))) else (some false)) else (some false)) = some r := H
      have A8 := Aside0.mk A80
      clear A80
      by_cases c9 : t118 = true
      · subst c9
        have H1 : (if (t117.length : Int) = (wrap64 (6 + (l0.length : Int))) then (if (wrap64 ((t117.length : Int) - 2)) = 0 then (none) else (if 0 ≤ (wrap64 (2 + (Int.tmod (wrap64 (a1)) (wrap64 ((t117.length : Int) - 2))))) then (if (wrap64 (2 + (Int.tmod (wrap64 (a1)) (wrap64 ((t117.length : Int) - 2))))) < (t117.length : Int) then (if 0 ≤ (Int.tmod a2 8) then ((frame_Take.f k (t117.set ((wrap64 (2 + (Int.tmod (wrap64 (a1)) (wrap64 ((t117.length : Int) - 2))))) : Int).toNat (Go.bits .xor .u8 (rd t117 (wrap64 (2 + (Int.tmod (wrap64 (a1)) (wrap64 ((t117.length : Int) - 2)))))) (shl .u8 1 (Int.tmod a2 8))))).bind fun bt123 => (if bt123.2.2 = true then (some false) else (some (bt123.2.1 == 0)))) else (none)) else (none)) else (none))) else (some false)) = some r := by rw [if_pos rfl] at H; exact H
        clear H
        have H := H1
        clear H1
        by_cases c10 : (t117.length : Int) = (wrap64 (6 + (l0.length : Int)))
        · rw [if_pos c10] at H
          have c10b0 : ((t117.length : Int) == (wrap64 (6 + (l0.length : Int)))) = true := beq_iff_eq.mpr c10
          have c10b1 : ((t117.length : Int) != (wrap64 (6 + (l0.length : Int)))) = false := bne_eq_false_iff_eq.mpr c10
          clear c10
          by_cases c11 : (wrap64 ((t117.length : Int) - 2)) = 0
          · rw [if_pos c11] at H
            exact absurd H (by simp)
          · rw [if_neg c11] at H
            have c11b0 : ((wrap64 ((t117.length : Int) - 2)) == 0) = false := beq_eq_false_iff_ne.mpr c11
            have c11b1 : ((wrap64 ((t117.length : Int) - 2)) != 0) = true := bne_iff_ne.mpr c11
            obtain ⟨ji12, hji12⟩ : ∃ j_ : Int, (wrap64 (2 + (Int.tmod (wrap64 (a1)) (wrap64 ((t117.length : Int) - 2))))) = j_ := ⟨_, rfl⟩
            replace H : (if 0 ≤ (ji12) then (if (ji12) < (t117.length : Int) then (if 0 ≤ (Int.tmod a2 8) then ((frame_Take.f k (t117.set ((ji12) : Int).toNat (Go.bits .xor .u8 (rd t117 (ji12)) (shl .u8 1 (Int.tmod a2 8))))).bind fun bt123 => (if bt123.2.2 = true then (some false) else (some (bt123.2.1 == 0)))) else (none)) else (none)) else (none)) = some r := by first | (rw [hji12] at H; exact H) | (simp only [hji12] at H ⊢; exact H)
            (try rw [hji12] at A4)
            (try rw [hji12] at A8)
            have hji12w : (IntKind.i64.wrap (2 + (Int.tmod (wrap64 (a1)) (wrap64 ((t117.length : Int) - 2))))) = ji12 := (i64_w _).trans hji12
            by_cases c13 : 0 ≤ (ji12)
            · rw [if_pos c13] at H
              have c13b0 : decide (0 ≤ (ji12)) = true := decide_eq_true c13
              clear c13
              by_cases c14 : (ji12) < (t117.length : Int)
              · rw [if_pos c14] at H
                have c14b0 : decide ((ji12) < (t117.length : Int)) = true := decide_eq_true c14
                clear c14
                obtain ⟨ji15, hji15⟩ : ∃ j_ : Int, (Int.tmod a2 8) = j_ := ⟨_, rfl⟩
                replace H : (if 0 ≤ (ji15) then ((frame_Take.f k (t117.set ((ji12) : Int).toNat (Go.bits .xor .u8 (rd t117 (ji12)) (shl .u8 1 (ji15))))).bind fun bt123 => (if bt123.2.2 = true then (some false) else (some (bt123.2.1 == 0)))) else (none)) = some r := by first | (rw [hji15] at H; exact H) | (simp only [hji15] at H ⊢; exact H)
                (try rw [hji15] at A4)
                (try rw [hji15] at A8)
                by_cases c16 : 0 ≤ (ji15)
                · rw [if_pos c16] at H
                  have c16b0 := eq_true c16
                  have c16b1 : decide (0 ≤ (ji15)) = true := decide_eq_true c16
                  clear c16
                  obtain ⟨ji17, hji17⟩ : ∃ j_ : Int, (shl .u8 1 (ji15)) = j_ := ⟨_, rfl⟩
                  replace H : ((frame_Take.f k (t117.set ((ji12) : Int).toNat (Go.bits .xor .u8 (rd t117 (ji12)) (ji17)))).bind fun bt123 => (if bt123.2.2 = true then (some false) else (some (bt123.2.1 == 0)))) = some r := by first | (rw [hji17] at H; exact H) | (simp only [hji17] at H ⊢; exact H)
                  (try rw [hji17] at A4)
                  (try rw [hji17] at A8)
                  have hji17_ : (IntKind.u8.wrap (1 * 2 ^ min (ji15).toNat 8)) = ji17 := hji17
                  have hji17z : (ji15) ≤ 8 → (IntKind.u8.wrap (1 * 2 ^ (ji15).toNat)) = ji17 := shl_small hji17
                  have hji17u : (IntKind.u8.wrap (2 ^ min (ji15).toNat 8)) = ji17 := by have h_ := hji17_; rw [Int.one_mul] at h_; exact h_
                  have hji17v : (ji15) ≤ 8 → (IntKind.u8.wrap (2 ^ (ji15).toNat)) = ji17 := fun hle_ => by have h_ := hji17z hle_; rw [Int.one_mul] at h_; exact h_
                  obtain ⟨y122, hy122⟩ : ∃ y_ : List Int, y_ = (t117.set ((ji12) : Int).toNat (Go.bits .xor .u8 (rd t117 (ji12)) (ji17))) := ⟨_, rfl⟩
                  replace H : ((frame_Take.f k y122).bind fun bt123 => (if bt123.2.2 = true then (some false) else (some (bt123.2.1 == 0)))) = some r := by first | (rw [hy122]; with_reducible exact H) | (have H2_ := (Option.bind_some _ _).symm.trans H; rw [hy122]; with_reducible exact H2_) | (have H2_ := (Option.bind_some _ _).symm.trans H; with_reducible exact H2_) | with_reducible exact H | (rw [hy122]; exact H) | exact H
                  have Ny122 := Aside0.mk hy122
                  clear hy122
                  replace H := Option.bind_eq_some_iff.mp H
                  obtain ⟨⟨t123, t124, t125⟩, A190, H⟩ := H
                  replace H : (if t125 = true then (some false) else (some (t124 == 0))) = some r := H
                  have A19 := Aside0.mk A190
                  clear A190
                  by_cases c20 : t125 = true
                  · subst c20
                    have H1 : (some false) = some r := by rw [if_pos rfl] at H; exact H
                    clear H
                    have H := H1
                    clear H1
                    obtain rfl := Option.some.inj H
                    go_enter Try.func17, Try.ntmps17
                    go_wp2_with (first | ((with_reducible refine gate_callee (f := 46) rfl ?_); refine goesL_ (some 12) rfl rfl Try.func46 (by kernel_rfl) rfl #[] rfl (by (try simp only [List.map_toArray, List.map_cons, List.map_nil]); first | done | rfl | (simp only [List.length_drop, List.length_take]; rfl)) ?_; (with_reducible refine (diwanlaw3_begun.calls  true _ A4.out).mono ?_); rintro e w21 ⟨rfl, hb⟩; refine ⟨_, rfl, ?_⟩; have n0_ := Aside0.mk (below_step (by repeat (first | (with_reducible first | exact HB.out | apply below_alloc | apply pw_below_drewN | apply below_drew1) | exact HB.out)) hb); clear HB; have HB := n0_; clear n0_; (try clear hb); (try clear hb2); (try clear hk); (try clear hi)) | ((with_reducible refine gate_callee (f := 47) rfl ?_); refine goesL_ (some 19) rfl rfl Try.func47 (by kernel_rfl) rfl #[.slice A0 l0.length c0] rfl (by (try simp only [List.map_toArray, List.map_cons, List.map_nil]); first | done | rfl | (simp only [List.length_drop, List.length_take]; rfl)) ?_; (with_reducible refine (frame_Put.calls k _ _ l0 t117 true _ ?side1 ?side2 A8.out).mono ?_); (case side1 => repeat (first | exact (Kd.C_below HR0.out HB.out) | (with_reducible refine Kd.C_alloc ?_ _) | (with_reducible refine Kd.C_drewN ?_ _) | (with_reducible refine Kd.C_drew ?_))); (case side2 => exact HC0.out); rintro e w22 ⟨v119, rfl, ho0, hb⟩; refine ⟨_, rfl, ?_⟩; have n0_ := Aside0.mk (Kd.R_lower ho0 (below_size (by repeat (first | (with_reducible first | exact HB.out | apply below_alloc | apply pw_below_drewN | apply below_drew1) | exact HB.out)))); have n1_ := Aside0.mk (below_step (by repeat (first | (with_reducible first | exact HB.out | apply below_alloc | apply pw_below_drewN | apply below_drew1) | exact HB.out)) hb); clear HB; have HO120 := n0_; have HB := n1_; clear n0_ n1_; (try clear hb); (try clear hb2); (try clear hk); (try clear hi); (try clear ho0); obtain ⟨Ao23, co23, eo23⟩ := Kd.R_slice HO120.out; subst eo23; have p121 : 0 ≤ ((ji12) : Int) := of_decide_eq_true (by first | (with_reducible assumption) | assumption); have q121 : (ji12) < (t117.length : Int) := of_decide_eq_true (by first | (with_reducible assumption) | assumption); obtain ⟨ad121, e121, hx121_0⟩ := Kd.at_int (Kd.R_reads' HO120.out).2.2 (ji12) p121 q121; cases e121; replace p121 := eq_true p121; replace q121 := eq_true q121; have p18 : 0 ≤ ((ji12) : Int) := of_decide_eq_true (by first | (with_reducible assumption) | assumption); have q18 : ((ji12) : Int) < ((t117.length : Int) : Int) := of_decide_eq_true (by first | (with_reducible assumption) | assumption); obtain ⟨go18, co18, eo18, gb18, gl18, cl18, HG18⟩ := Kd.R_form HO120.out (by omega); (first | cases eo18 | (injection eo18 with ea_ en_ ec_; (first | subst ea_ | (injection ea_ with ea_; subst ea_)); subst ec_; clear en_)); have GB18 := Aside0.mk gb18; have GG18 := Aside0.mk HG18; clear gb18 gl18 HG18; (first | simp only [add_plain] at hx121_0 | skip); obtain ⟨hx18_0, hf18_0⟩ := Kd.R_celln 0 HO120.out ((ji12) : Int) p18 q18; replace p18 := eq_true p18; replace q18 := eq_true q18; obtain ⟨hy24_, hz24_⟩ := Kd.R_celln 0 HO120.out ((ji12) : Int) (of_decide_eq_true (by first | (with_reducible assumption) | assumption)) (of_decide_eq_true (by first | (with_reducible assumption) | assumption)); have HP24 := Kd.R_putg HO120.out ((ji12) : Int) (Go.bits .xor .u8 (rd t117 (ji12)) (ji17))) | ((with_reducible refine gate_store (t := 5) (p := 46) rfl ?_); refine store_event (t := 5) (p := 46) (v := ?vo_w25) (w1 := (w22.setCell ⟨go18, ((ji12) : Int).toNat, none⟩ (.int .u8 (Go.bits .xor .u8 (rd t117 (ji12)) (ji17))))) ?hg ?ho ?hn ?hr ?_; (case ho => rfl); (case hg => rfl); (case hn => rfl); (case hr => first | (go_simp; done) | (go_simp; rfl)); intro w25 hw; have hg : w22.grownBy w25 (some go18) := (by rw [hw]; exact HP24.2); have hp_ : Kd.R (Kd.int .u8) 5 w25 w.heap.size (fun _ => True) (.slice (some ⟨go18, 0, none⟩) t117.length co23) y122 := (by rw [hw, Ny122.out]; exact HP24.1); clear HP24; have n0_ := Aside0.mk (hp_); have n1_ := Aside0.mk ((by rw [hw]; exact below_set (HB.out) GB18.out : Below w.heap.size w w25)); clear HO120; clear HB; have HO120 := n0_; have HB := n1_; clear n0_ n1_; clear hg hw hp_) | ((with_reducible refine gate_callee (f := 49) rfl ?_); refine goesL_ (some 49) rfl rfl Try.func49 (by kernel_rfl) rfl #[.slice (some ⟨go18, 0, none⟩) y122.length co23] rfl (by (try simp only [List.map_toArray, List.map_cons, List.map_nil]); first | done | (rw [show y122.length = t117.length from (Kd.R_reads' HO120.out).1.symm] <;> rfl) | rfl | (simp only [List.length_drop, List.length_take]; rfl)) ?_; (with_reducible refine (frame_Take.calls k _ _ y122 t123 t124 true _ ?side1 ?side2 A19.out).mono ?_); (case side1 => repeat (first | exact (Kd.R_reads' HO120.out).2.2 | (with_reducible refine Kd.C_alloc ?_ _) | (with_reducible refine Kd.C_drewN ?_ _) | (with_reducible refine Kd.C_drew ?_))); (case side2 => rw [show y122.length = t117.length from (Kd.R_reads' HO120.out).1.symm]; exact (Kd.R_reads' HO120.out).2.1); rintro e w26 ⟨v126, rfl, ho0, hb⟩; refine ⟨_, rfl, ?_⟩; have n0_ := Aside0.mk (Kd.R_elder' (by (with_reducible repeat (first | apply Kd.R_alloc | apply Kd.R_drewN | apply Kd.R_drew)); exact HO120.out) (Kd.Q_base ho0) hb); have n1_ := Aside0.mk (Kd.Q_lower (Kd.Q_new' ho0 (Kd.R_lt (by (with_reducible repeat (first | apply Kd.R_alloc | apply Kd.R_drewN | apply Kd.R_drew)); exact HO120.out))) (below_size (by repeat (first | (with_reducible first | exact HB.out | apply below_alloc | apply pw_below_drewN | apply below_drew1) | exact HB.out)))); have n2_ := Aside0.mk (below_step (by repeat (first | (with_reducible first | exact HB.out | apply below_alloc | apply pw_below_drewN | apply below_drew1) | exact HB.out)) hb); clear HO120; clear HB; have HO120 := n0_; have HO127 := n1_; have HB := n2_; clear n0_ n1_ n2_; (try clear hb); (try clear hb2); (try clear hk); (try clear hi); (try clear ho0)))
                    go_ret
                    exact ⟨by first | rfl | (simp [errW_none, errW_some] <;> rfl) | (simp only [← hji12, ← hji15, ← hji17]; first | rfl | (simp [errW_none, errW_some] <;> rfl)) | (simp [*, errW_none, errW_some] <;> rfl), by repeat (first | (with_reducible first | exact HB.out | apply below_alloc | apply pw_below_drewN | apply below_drew1) | exact HB.out)⟩
                  · replace c20 := Bool.eq_false_iff.mpr c20
                    subst c20
                    have H1 : (some (t124 == 0)) = some r := by rw [if_neg (show ¬ (false = true) by decide)] at H; exact H
                    clear H
                    have H := H1
                    clear H1
                    obtain rfl := Option.some.inj H
                    go_enter Try.func17, Try.ntmps17
                    go_wp2_with (first | ((with_reducible refine gate_callee (f := 46) rfl ?_); refine goesL_ (some 12) rfl rfl Try.func46 (by kernel_rfl) rfl #[] rfl (by (try simp only [List.map_toArray, List.map_cons, List.map_nil]); first | done | rfl | (simp only [List.length_drop, List.length_take]; rfl)) ?_; (with_reducible refine (diwanlaw3_begun.calls  true _ A4.out).mono ?_); rintro e w27 ⟨rfl, hb⟩; refine ⟨_, rfl, ?_⟩; have n0_ := Aside0.mk (below_step (by repeat (first | (with_reducible first | exact HB.out | apply below_alloc | apply pw_below_drewN | apply below_drew1) | exact HB.out)) hb); clear HB; have HB := n0_; clear n0_; (try clear hb); (try clear hb2); (try clear hk); (try clear hi)) | ((with_reducible refine gate_callee (f := 47) rfl ?_); refine goesL_ (some 19) rfl rfl Try.func47 (by kernel_rfl) rfl #[.slice A0 l0.length c0] rfl (by (try simp only [List.map_toArray, List.map_cons, List.map_nil]); first | done | rfl | (simp only [List.length_drop, List.length_take]; rfl)) ?_; (with_reducible refine (frame_Put.calls k _ _ l0 t117 true _ ?side1 ?side2 A8.out).mono ?_); (case side1 => repeat (first | exact (Kd.C_below HR0.out HB.out) | (with_reducible refine Kd.C_alloc ?_ _) | (with_reducible refine Kd.C_drewN ?_ _) | (with_reducible refine Kd.C_drew ?_))); (case side2 => exact HC0.out); rintro e w28 ⟨v119, rfl, ho0, hb⟩; refine ⟨_, rfl, ?_⟩; have n0_ := Aside0.mk (Kd.R_lower ho0 (below_size (by repeat (first | (with_reducible first | exact HB.out | apply below_alloc | apply pw_below_drewN | apply below_drew1) | exact HB.out)))); have n1_ := Aside0.mk (below_step (by repeat (first | (with_reducible first | exact HB.out | apply below_alloc | apply pw_below_drewN | apply below_drew1) | exact HB.out)) hb); clear HB; have HO120 := n0_; have HB := n1_; clear n0_ n1_; (try clear hb); (try clear hb2); (try clear hk); (try clear hi); (try clear ho0); obtain ⟨Ao29, co29, eo29⟩ := Kd.R_slice HO120.out; subst eo29; have p121 : 0 ≤ ((ji12) : Int) := of_decide_eq_true (by first | (with_reducible assumption) | assumption); have q121 : (ji12) < (t117.length : Int) := of_decide_eq_true (by first | (with_reducible assumption) | assumption); obtain ⟨ad121, e121, hx121_0⟩ := Kd.at_int (Kd.R_reads' HO120.out).2.2 (ji12) p121 q121; cases e121; replace p121 := eq_true p121; replace q121 := eq_true q121; have p18 : 0 ≤ ((ji12) : Int) := of_decide_eq_true (by first | (with_reducible assumption) | assumption); have q18 : ((ji12) : Int) < ((t117.length : Int) : Int) := of_decide_eq_true (by first | (with_reducible assumption) | assumption); obtain ⟨go18, co18, eo18, gb18, gl18, cl18, HG18⟩ := Kd.R_form HO120.out (by omega); (first | cases eo18 | (injection eo18 with ea_ en_ ec_; (first | subst ea_ | (injection ea_ with ea_; subst ea_)); subst ec_; clear en_)); have GB18 := Aside0.mk gb18; have GG18 := Aside0.mk HG18; clear gb18 gl18 HG18; (first | simp only [add_plain] at hx121_0 | skip); obtain ⟨hx18_0, hf18_0⟩ := Kd.R_celln 0 HO120.out ((ji12) : Int) p18 q18; replace p18 := eq_true p18; replace q18 := eq_true q18; obtain ⟨hy30_, hz30_⟩ := Kd.R_celln 0 HO120.out ((ji12) : Int) (of_decide_eq_true (by first | (with_reducible assumption) | assumption)) (of_decide_eq_true (by first | (with_reducible assumption) | assumption)); have HP30 := Kd.R_putg HO120.out ((ji12) : Int) (Go.bits .xor .u8 (rd t117 (ji12)) (ji17))) | ((with_reducible refine gate_store (t := 5) (p := 46) rfl ?_); refine store_event (t := 5) (p := 46) (v := ?vo_w31) (w1 := (w28.setCell ⟨go18, ((ji12) : Int).toNat, none⟩ (.int .u8 (Go.bits .xor .u8 (rd t117 (ji12)) (ji17))))) ?hg ?ho ?hn ?hr ?_; (case ho => rfl); (case hg => rfl); (case hn => rfl); (case hr => first | (go_simp; done) | (go_simp; rfl)); intro w31 hw; have hg : w28.grownBy w31 (some go18) := (by rw [hw]; exact HP30.2); have hp_ : Kd.R (Kd.int .u8) 5 w31 w.heap.size (fun _ => True) (.slice (some ⟨go18, 0, none⟩) t117.length co29) y122 := (by rw [hw, Ny122.out]; exact HP30.1); clear HP30; have n0_ := Aside0.mk (hp_); have n1_ := Aside0.mk ((by rw [hw]; exact below_set (HB.out) GB18.out : Below w.heap.size w w31)); clear HO120; clear HB; have HO120 := n0_; have HB := n1_; clear n0_ n1_; clear hg hw hp_) | ((with_reducible refine gate_callee (f := 49) rfl ?_); refine goesL_ (some 49) rfl rfl Try.func49 (by kernel_rfl) rfl #[.slice (some ⟨go18, 0, none⟩) y122.length co29] rfl (by (try simp only [List.map_toArray, List.map_cons, List.map_nil]); first | done | (rw [show y122.length = t117.length from (Kd.R_reads' HO120.out).1.symm] <;> rfl) | rfl | (simp only [List.length_drop, List.length_take]; rfl)) ?_; (with_reducible refine (frame_Take.calls k _ _ y122 t123 t124 false _ ?side1 ?side2 A19.out).mono ?_); (case side1 => repeat (first | exact (Kd.R_reads' HO120.out).2.2 | (with_reducible refine Kd.C_alloc ?_ _) | (with_reducible refine Kd.C_drewN ?_ _) | (with_reducible refine Kd.C_drew ?_))); (case side2 => rw [show y122.length = t117.length from (Kd.R_reads' HO120.out).1.symm]; exact (Kd.R_reads' HO120.out).2.1); rintro e w32 ⟨v126, rfl, ho0, hb⟩; refine ⟨_, rfl, ?_⟩; have n0_ := Aside0.mk (Kd.R_elder' (by (with_reducible repeat (first | apply Kd.R_alloc | apply Kd.R_drewN | apply Kd.R_drew)); exact HO120.out) (Kd.Q_base ho0) hb); have n1_ := Aside0.mk (Kd.Q_lower (Kd.Q_new' ho0 (Kd.R_lt (by (with_reducible repeat (first | apply Kd.R_alloc | apply Kd.R_drewN | apply Kd.R_drew)); exact HO120.out))) (below_size (by repeat (first | (with_reducible first | exact HB.out | apply below_alloc | apply pw_below_drewN | apply below_drew1) | exact HB.out)))); have n2_ := Aside0.mk (below_step (by repeat (first | (with_reducible first | exact HB.out | apply below_alloc | apply pw_below_drewN | apply below_drew1) | exact HB.out)) hb); clear HO120; clear HB; have HO120 := n0_; have HO127 := n1_; have HB := n2_; clear n0_ n1_ n2_; (try clear hb); (try clear hb2); (try clear hk); (try clear hi); (try clear ho0)))
                    go_ret
                    exact ⟨by first | rfl | (simp [errW_none, errW_some] <;> rfl) | (simp only [← hji12, ← hji15, ← hji17]; first | rfl | (simp [errW_none, errW_some] <;> rfl)) | (simp [*, errW_none, errW_some] <;> rfl), by repeat (first | (with_reducible first | exact HB.out | apply below_alloc | apply pw_below_drewN | apply below_drew1) | exact HB.out)⟩
                · rw [if_neg c16] at H
                  exact absurd H (by simp)
              · rw [if_neg c14] at H
                exact absurd H (by simp)
            · rw [if_neg c13] at H
              exact absurd H (by simp)
        · rw [if_neg c10] at H
          have c10b0 : ((t117.length : Int) == (wrap64 (6 + (l0.length : Int)))) = false := beq_eq_false_iff_ne.mpr c10
          have c10b1 : ((t117.length : Int) != (wrap64 (6 + (l0.length : Int)))) = true := bne_iff_ne.mpr c10
          obtain rfl := Option.some.inj H
          go_enter Try.func17, Try.ntmps17
          go_wp2_with (first | ((with_reducible refine gate_callee (f := 46) rfl ?_); refine goesL_ (some 12) rfl rfl Try.func46 (by kernel_rfl) rfl #[] rfl (by (try simp only [List.map_toArray, List.map_cons, List.map_nil]); first | done | rfl | (simp only [List.length_drop, List.length_take]; rfl)) ?_; (with_reducible refine (diwanlaw3_begun.calls  true _ A4.out).mono ?_); rintro e w33 ⟨rfl, hb⟩; refine ⟨_, rfl, ?_⟩; have n0_ := Aside0.mk (below_step (by repeat (first | (with_reducible first | exact HB.out | apply below_alloc | apply pw_below_drewN | apply below_drew1) | exact HB.out)) hb); clear HB; have HB := n0_; clear n0_; (try clear hb); (try clear hb2); (try clear hk); (try clear hi)) | ((with_reducible refine gate_callee (f := 47) rfl ?_); refine goesL_ (some 19) rfl rfl Try.func47 (by kernel_rfl) rfl #[.slice A0 l0.length c0] rfl (by (try simp only [List.map_toArray, List.map_cons, List.map_nil]); first | done | rfl | (simp only [List.length_drop, List.length_take]; rfl)) ?_; (with_reducible refine (frame_Put.calls k _ _ l0 t117 true _ ?side1 ?side2 A8.out).mono ?_); (case side1 => repeat (first | exact (Kd.C_below HR0.out HB.out) | (with_reducible refine Kd.C_alloc ?_ _) | (with_reducible refine Kd.C_drewN ?_ _) | (with_reducible refine Kd.C_drew ?_))); (case side2 => exact HC0.out); rintro e w34 ⟨v119, rfl, ho0, hb⟩; refine ⟨_, rfl, ?_⟩; have n0_ := Aside0.mk (Kd.R_lower ho0 (below_size (by repeat (first | (with_reducible first | exact HB.out | apply below_alloc | apply pw_below_drewN | apply below_drew1) | exact HB.out)))); have n1_ := Aside0.mk (below_step (by repeat (first | (with_reducible first | exact HB.out | apply below_alloc | apply pw_below_drewN | apply below_drew1) | exact HB.out)) hb); clear HB; have HO120 := n0_; have HB := n1_; clear n0_ n1_; (try clear hb); (try clear hb2); (try clear hk); (try clear hi); (try clear ho0); obtain ⟨Ao35, co35, eo35⟩ := Kd.R_slice HO120.out; subst eo35))
          go_ret
          exact ⟨by first | rfl | (simp [errW_none, errW_some] <;> rfl) | (simp [*, errW_none, errW_some] <;> rfl), by repeat (first | (with_reducible first | exact HB.out | apply below_alloc | apply pw_below_drewN | apply below_drew1) | exact HB.out)⟩
      · replace c9 := Bool.eq_false_iff.mpr c9
        subst c9
        have H1 : (some false) = some r := by rw [if_neg (show ¬ (false = true) by decide)] at H; exact H
        clear H
        have H := H1
        clear H1
        obtain rfl := Option.some.inj H
        go_enter Try.func17, Try.ntmps17
        go_wp2_with (first | ((with_reducible refine gate_callee (f := 46) rfl ?_); refine goesL_ (some 12) rfl rfl Try.func46 (by kernel_rfl) rfl #[] rfl (by (try simp only [List.map_toArray, List.map_cons, List.map_nil]); first | done | rfl | (simp only [List.length_drop, List.length_take]; rfl)) ?_; (with_reducible refine (diwanlaw3_begun.calls  true _ A4.out).mono ?_); rintro e w36 ⟨rfl, hb⟩; refine ⟨_, rfl, ?_⟩; have n0_ := Aside0.mk (below_step (by repeat (first | (with_reducible first | exact HB.out | apply below_alloc | apply pw_below_drewN | apply below_drew1) | exact HB.out)) hb); clear HB; have HB := n0_; clear n0_; (try clear hb); (try clear hb2); (try clear hk); (try clear hi)) | ((with_reducible refine gate_callee (f := 47) rfl ?_); refine goesL_ (some 19) rfl rfl Try.func47 (by kernel_rfl) rfl #[.slice A0 l0.length c0] rfl (by (try simp only [List.map_toArray, List.map_cons, List.map_nil]); first | done | rfl | (simp only [List.length_drop, List.length_take]; rfl)) ?_; (with_reducible refine (frame_Put.calls k _ _ l0 t117 false _ ?side1 ?side2 A8.out).mono ?_); (case side1 => repeat (first | exact (Kd.C_below HR0.out HB.out) | (with_reducible refine Kd.C_alloc ?_ _) | (with_reducible refine Kd.C_drewN ?_ _) | (with_reducible refine Kd.C_drew ?_))); (case side2 => exact HC0.out); rintro e w37 ⟨v119, rfl, ho0, hb⟩; refine ⟨_, rfl, ?_⟩; have n0_ := Aside0.mk (Kd.R_lower ho0 (below_size (by repeat (first | (with_reducible first | exact HB.out | apply below_alloc | apply pw_below_drewN | apply below_drew1) | exact HB.out)))); have n1_ := Aside0.mk (below_step (by repeat (first | (with_reducible first | exact HB.out | apply below_alloc | apply pw_below_drewN | apply below_drew1) | exact HB.out)) hb); clear HB; have HO120 := n0_; have HB := n1_; clear n0_ n1_; (try clear hb); (try clear hb2); (try clear hk); (try clear hi); (try clear ho0)))
        go_ret
        exact ⟨by first | rfl | (simp [errW_none, errW_some] <;> rfl) | (simp [*, errW_none, errW_some] <;> rfl), by repeat (first | (with_reducible first | exact HB.out | apply below_alloc | apply pw_below_drewN | apply below_drew1) | exact HB.out)⟩
  · replace c5 := Bool.eq_false_iff.mpr c5
    subst c5
    have H1 : (some false) = some r := by rw [if_neg (show ¬ (false = true) by decide)] at H; exact H
    clear H
    have H := H1
    clear H1
    obtain rfl := Option.some.inj H
    go_enter Try.func17, Try.ntmps17
    go_wp2_with (first | ((with_reducible refine gate_callee (f := 46) rfl ?_); refine goesL_ (some 12) rfl rfl Try.func46 (by kernel_rfl) rfl #[] rfl (by (try simp only [List.map_toArray, List.map_cons, List.map_nil]); first | done | rfl | (simp only [List.length_drop, List.length_take]; rfl)) ?_; (with_reducible refine (diwanlaw3_begun.calls  false _ A4.out).mono ?_); rintro e w38 ⟨rfl, hb⟩; refine ⟨_, rfl, ?_⟩; have n0_ := Aside0.mk (below_step (by repeat (first | (with_reducible first | exact HB.out | apply below_alloc | apply pw_below_drewN | apply below_drew1) | exact HB.out)) hb); clear HB; have HB := n0_; clear n0_; (try clear hb); (try clear hb2); (try clear hk); (try clear hi)))
    go_ret
    exact ⟨by first | rfl | (simp [errW_none, errW_some] <;> rfl) | (simp [*, errW_none, errW_some] <;> rfl), by repeat (first | (with_reducible first | exact HB.out | apply below_alloc | apply pw_below_drewN | apply below_drew1) | exact HB.out)⟩

/-- THE ONE PURE STATEMENT of diwanlaw3_FrameTurned: yours. -/
def diwanlaw3_FrameTurned.Pure : Prop := ∀ (l0 : List Int) (a1 : Int) (a2 : Int), l0.length ≤ maxLen → l0.length * 1 ≤ 140737488351232 → (∀ x ∈ l0, (Lit.int .u8 x).wf = true) → (Lit.int .u16 a1).wf = true → (Lit.int .u8 a2).wf = true → ∃ k, diwanlaw3_FrameTurned.f k l0 a1 a2 = some true
theorem diwanlaw3_FrameTurned.walk (P : diwanlaw3_FrameTurned.Pure) (a0 : Option Addr) (len0 cap0 : Nat) (z0 : List Int) (a1 : Int) (a2 : Int) (w : World) (w0 : (a0 = none ∧ len0 = 0 ∧ cap0 = 0 ∧ z0 = []) ∨ ∃ x, a0 = some x ∧ len0 ≤ cap0 ∧ cap0 ≤ maxLen ∧ z0.length = cap0 ∧ (∀ i, i < z0.length → w.cell? (x.add i) = some (.int .u8 (z0.getD i 0))) ∧ ∀ n ∈ z0, (Lit.int .u8 n).wf = true) (y0 : len0 * 1 ≤ 140737488351232) (w1 : (Lit.int .u16 a1).wf = true) (w2 : (Lit.int .u8 a2).wf = true) :
    Calls Try.prog 17 #[.slice a0 len0 cap0, .int .u16 a1, .int .u8 a2] w fun e w' => e = .returned (.bool true) ∧ Below w.heap.size w w' := by
  obtain ⟨l0, rfl, hr0, hm0, hw0, hc0⟩ := ReadsInt.ofRowC w0
  obtain ⟨k, h⟩ := P l0 a1 a2 hm0 y0 hw0 w1 w2
  refine (diwanlaw3_FrameTurned.calls k _ _ l0 a1 a2 true w (Kd.C_of_reads (d := (0 : Int)) (h1 := fun _ => rfl) hr0) hc0 h).mono ?_
  rintro e w' ⟨rfl, hd⟩
  exact ⟨rfl, hd⟩

/-! ### diwanlaw3_FrameForms: function 18 (by hand) -/
def diwanlaw3_FrameForms.Pure : Prop := ∃ k r, frame_Put.f k (List.replicate (60000 : Int).toNat 0) = some (r, true) ∧ r.length = 60006
set_option maxHeartbeats 4000000 in
set_option maxRecDepth 100000 in
theorem diwanlaw3_FrameForms.walk (P : diwanlaw3_FrameForms.Pure) (w : World) : Calls Try.prog 18 #[] w fun e w' => e = .returned (.bool true) ∧ Below w.heap.size w w' := by
  obtain ⟨K, rr, hP, hL⟩ := P
  have s1 : Aside0 (frame_Put.f 64 [] = some ([0, 0, 65, 217, 18, 255], true)) := ⟨by decide +kernel⟩
  have s2 : frame_Put.f 64 (List.replicate (60001 : Int).toNat 0) = some ([], false) := by unfold frame_Put.f; rw [if_pos (by rw [List.length_replicate]; decide)]
  obtain ⟨Z1, hZ1⟩ : ∃ Z, List.replicate (60001 : Int).toNat (0 : Int) = Z := ⟨_, rfl⟩
  obtain ⟨Z2, hZ2⟩ : ∃ Z, List.replicate (60000 : Int).toNat (0 : Int) = Z := ⟨_, rfl⟩
  rw [hZ1] at s2
  rw [hZ2] at hP
  have S2 := Aside0.mk s2
  have S3 := Aside0.mk hP
  have SL := Aside0.mk hL
  have Q1 := Aside0.mk hZ1
  have Q2 := Aside0.mk hZ2
  clear hP hL s2 hZ1 hZ2
  have s4 : Aside0 (frame_Take.f 64 [0, 0, 65, 217, 18] = some ([], 0, false)) := ⟨by decide +kernel⟩
  have s5 : Aside0 (frame_All.f 64 ([] ++ [0, 0, 65, 217, 18, 255] ++ [7]) = some ([[]], 6)) := ⟨by decide +kernel⟩
  have kc := fun (w : World) (C : Array Value) (n c : Nat) => Lib.run_convert_bytes_const (P := Try.prog) w 22 5 C n c Try.underlying22 Try.underlying5
  go_enter Try.func18, Try.ntmps18
  go_wp2_with fail
  refine (diwanlaw3_begun.calls true _ rfl).mono ?_
  rintro e w1 ⟨rfl, hb⟩
  have B1 := Aside0.mk hb
  clear hb
  go_wp2_with fail
  refine (frame_Put.calls 64 none 0 [] _ _ w1 ⟨rfl, by decide, fun h => absurd h (by decide)⟩ (by decide) s1.out).mono ?_
  rintro e w2 ⟨v2, rfl, hR, hB⟩
  obtain ⟨A2, c2, rfl, hle2, hC2⟩ := Kd.R_reads hR
  have B2 := Aside0.mk (below_step B1.out hB)
  have C2 := Aside0.mk hC2
  have L2 := Aside0.mk hle2
  clear hR hB hle2 hC2
  go_wp2_with (first | ((with_reducible refine gate_dst (N := 19) rfl ?_); refine Kd.R_make (Kd.int .u8) _ 5 rfl (N := 19) rfl 22 _ _ rfl 60001 rfl rfl Try.underlying22 (.int .u8 0) 1 info5 rfl (by decide) (by omega) 0 (ok := fun _ => True) (okp := fun _ => True) rfl (fun _ hk => hk) trivial (by decide) (by decide) (Below.refl _ _) (Nat.le_refl _) ?_; intro v3 w3 ho hb hg_ hnew_; clear hg_ hnew_; rw [Q1.out] at ho; obtain ⟨A3, c3, hv3, hle3, hC3⟩ := Kd.R_reads ho; subst hv3; have C3 := Aside0.mk hC3; have L3 := Aside0.mk hle3; have B3 := Aside0.mk (below_step B2.out hb); have C23 := Aside0.mk (Kd.C_below C2.out hb); clear ho hb hle3 hC3))
  refine (frame_Put.calls 64 A3 c3 Z1 _ _ w3 C3.out L3.out S2.out).mono ?_
  rintro e w4 ⟨v4, rfl, hR, hB⟩
  have B4 := Aside0.mk (below_step B3.out hB)
  have C24 := Aside0.mk (Kd.C_below C23.out hB)
  clear hR hB C3 L3 B3 C23
  go_wp2_with (first | ((with_reducible refine gate_dst (N := 24) rfl ?_); refine Kd.R_make (Kd.int .u8) _ 5 rfl (N := 24) rfl 22 _ _ rfl 60000 rfl rfl Try.underlying22 (.int .u8 0) 1 info5 rfl (by decide) (by omega) 0 (ok := fun _ => True) (okp := fun _ => True) rfl (fun _ hk => hk) trivial (by decide) (by decide) (Below.refl _ _) (Nat.le_refl _) ?_; intro v5 w5 ho hb hg_ hnew_; clear hg_ hnew_; rw [Q2.out] at ho; obtain ⟨A5, c5, hv5, hle5, hC5⟩ := Kd.R_reads ho; subst hv5; have C5 := Aside0.mk hC5; have L5 := Aside0.mk hle5; have B5 := Aside0.mk (below_step B4.out hb); have C25 := Aside0.mk (Kd.C_below C24.out hb); clear ho hb hle5 hC5))
  refine (frame_Put.calls K A5 c5 Z2 rr true w5 C5.out L5.out S3.out).mono ?_
  rintro e w6 ⟨v6, rfl, hR, hB⟩
  obtain ⟨A6, c6, hv6, hle6, hC6⟩ := Kd.R_reads hR
  rw [SL.out] at hv6
  subst hv6
  have B6 := Aside0.mk (below_step B5.out hB)
  have C26 := Aside0.mk (Kd.C_below C25.out hB)
  clear hR hB hle6 hC6 C5 L5 B5 C25 S2 S3 SL Q1 Q2
  go_wp2_with fail
  refine (frame_Take.calls 64 _ _ [0, 0, 65, 217, 18] _ _ _ _ (C_laid w6 [0, 0, 65, 217, 18] 5 (5, 6) (by decide)) (by decide) s4.out).mono ?_
  rintro e w7 ⟨v7, rfl, hR, hB⟩
  have hB7 := below_step (below_alloc (Below.refl _ w6) (.cells ([0, 0, 65, 217, 18].map (Value.int .u8)).toArray 5 (5, 6))) hB
  have B7 := Aside0.mk (below_step B6.out hB7)
  have C27 := Aside0.mk (Kd.C_below C26.out hB7)
  clear hR hB hB7
  go_wp2_with (first
    | ((with_reducible refine gate_dst (N := 36) rfl ?_); (try (refine gate_guard (by rfl) ?_; dsimp only)); refine Kd.R_lit (Kd.int .u8) _ 5 ?hg (N := 36) ?hd (xs := ([] : List Int)) (inner := []) (ok := fun _ => True) (okp := fun _ => True) ?hr ?hp (fun _ hk => hk) trivial (Below.refl _ _) (Nat.le_refl _) (by simp) ?_; (case hd => rfl); (case hg => rfl); (case hr => first | (go_simp; done) | (go_simp; rfl)); (case hp => exact (Reps.none _ _)); intro v8 w8 ho hb hg_ hnew_; clear hg_ hnew_; have HO8 := Aside0.mk ho; have HB8 := Aside0.mk hb; have C28 := Aside0.mk (Kd.C_below C27.out hb); clear ho hb)
    | ((with_reducible refine gate_builtin (b := .append) (xs := #[.tmp 36, .tmp 37]) rfl ?_); (try (refine gate_guard (by rfl) ?_; dsimp only)); at_builtin; refine Kd.R_append_rows (Kd.int .u8) (w0 := w7) w7.heap.size rfl (.tmp 36) (.tmp 37) 22 5 (.int .u8 0) 1 rfl Try.underlying22 info5 rfl (by decide) (by omega) v8 [] [0, 0, 65, 217, 18, 255] _ _ _ (fun _ => True) (fun _ => False) rfl rfl HO8.out C28.out (fun _ _ h => h) (fun _ h => h.elim) (fun _ _ => trivial) HB8.out (below_size HB8.out) (by decide) ?_; intro v9 w9 ho hb hg hat; have HO9 := Aside0.mk ho; have HB9 := Aside0.mk hb; clear ho hb hg hat)
    | ((with_reducible refine gate_builtin (b := .append) (xs := #[.tmp 38, .tmp 39]) rfl ?_); (try (refine gate_guard (by rfl) ?_; dsimp only)); at_builtin; refine Kd.R_append (Kd.int .u8) (w0 := w7) w7.heap.size rfl (.tmp 38) (.tmp 39) 22 5 (.int .u8 0) 1 rfl Try.underlying22 info5 rfl (by decide) (by omega) v9 ([] ++ [0, 0, 65, 217, 18, 255]) 7 [.int .u8 7] (fun _ => True) (fun _ => False) rfl rfl (show Kd.M (Kd.int .u8) _ _ _ (7 : Int) [.int .u8 7] from rfl) (fun _ h => h.elim) (fun _ _ => trivial) HO9.out HB9.out (below_size HB9.out) (by decide) ?_; intro v10 w10 ho hb hg hat; obtain ⟨A10, c10, hv10, hle10, hC10⟩ := Kd.R_reads ho; subst hv10; have C10 := Aside0.mk hC10; have L10 := Aside0.mk hle10; have HB10 := Aside0.mk hb; have C210 := Aside0.mk (Kd.C_below C27.out hb); clear ho hb hg hat hC10 hle10))
  refine (frame_All.calls 64 A10 c10 ([] ++ [0, 0, 65, 217, 18, 255] ++ [7]) _ _ w10 C10.out L10.out s5.out).mono ?_
  rintro e w11 ⟨v11, rfl, hS, hB⟩
  obtain ⟨A11, c11, rfl, hle11, hC11⟩ := Kd.R_reads (Kd.S_R hS)
  have B11 := Aside0.mk (below_step (below_step B7.out HB10.out) hB)
  have C211 := Aside0.mk (Kd.C_below C210.out hB)
  clear hS hB
  obtain ⟨ad11, e11, hel⟩ := hC11.2.2 (by decide)
  subst e11
  obtain ⟨cs, hlen, hK, hcell⟩ := hel 0 [] rfl
  obtain ⟨Ax, cx, rfl, hxl, hxC⟩ := hK
  have hl0 := hcell 0 _ rfl
  clear hel hlen hcell hxl hxC hle11 hC11
  obtain ⟨ad2, e2, hx0⟩ := Kd.at_int C211.out 0 (by omega) (by decide)
  subst e2
  obtain ⟨ad3, e3, hx1⟩ := Kd.at_int C211.out 1 (by omega) (by decide)
  obtain rfl : ad2 = ad3 := by injection e3
  clear e3
  simp only [show (0 : Int).toNat = 0 from rfl, show (1 : Int).toNat = 1 from rfl, Nat.reduceMul, Nat.zero_mul, Nat.add_zero, Nat.reduceEqDiff, Go.Addr.add, ↓reduceIte] at hx0 hx1 hl0
  have hrd0 : rd [0, 0, 65, 217, 18, 255] 0 = 0 := rfl
  have hrd1 : rd [0, 0, 65, 217, 18, 255] 1 = 0 := rfl
  rw [hrd0] at hx0
  rw [hrd1] at hx1
  obtain ⟨i0, hi0, _, hsz, _⟩ := info_parts info5
  obtain ⟨Ad, hcut, hA, hCd⟩ := print_drop_of (P := Try.prog) (Value.int .u8) 0 22 5 .i64 Try.underlying22 hi0 hsz (some ad2) c2 [0, 0, 65, 217, 18, 255] 2 (by decide) (by decide) L2.out
  have hR := Kd.C_of_reads (h1 := fun _ => rfl) (hA _ (Kd.reads_of_C C211.out))
  have hcut2 : ∀ W : World, (Instr.slice 22 (.slice (some ad2) 6 c2) (some (.int .i64 2)) none none).run Try.prog W = .ok (.slice Ad 4 (c2 - 2)) W := hcut
  have hst : strOfNums [65, 217, 18, 255] = ⟨#[65, 217, 18, 255]⟩ := by decide +kernel
  have k1 : (convert 22 9 (.slice Ad 4 (c2 - 2))).run Try.prog w11 = .ok (.string ⟨#[65, 217, 18, 255]⟩) w11 := hst ▸ Kd.C_string (xs := [65, 217, 18, 255]) Try.underlying22 Try.underlying5 Try.underlying9 hR
  have k2 : ∀ n, (convert 22 9 (.slice Ad 4 (c2 - 2))).run Try.prog (w11.drewN n) = .ok (.string ⟨#[65, 217, 18, 255]⟩) (w11.drewN n) := fun n => hst ▸ Kd.C_string (xs := [65, 217, 18, 255]) Try.underlying22 Try.underlying5 Try.underlying9 (Kd.C_drewN hR n)
  have hle6 : 6 ≤ c2 := L2.out
  have hle2 : ((2 : Int) ≤ 6) = True := eq_true (by decide)
  clear hcut hA hCd hR hst hi0 hsz hrd0 hrd1
  go_wp2_with fail
  go_ret
  exact ⟨rfl, B11.out⟩


end Go.Proofs.Ytkipbilnhpeacaa.PFrame
