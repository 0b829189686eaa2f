/- Written by a program of this session (pp.py over the kit's print.py): functions as they are printed, the walks, the rows. No condition beyond those that each theorem states. -/
import Derived.Test.YtggffmcfkcjeaaaPCrcx0
import Derived.Test.YtggffmcfkcjeaaaPCrcx1
namespace Go.Proofs.Ytggffmcfkcjeaaa.PCrc
open Go.RowKit Go.Proofs.YtggffmcfkcjeaaaW.PrintWords Go.Proofs.YtggffmcfkcjeaaaW.PrintLast Go.Proofs.YtggffmcfkcjeaaaW.PrintMore
attribute [local go_sem] max2_int min2_int max_two min_two max_three min_three max_four min_four   -- for this text's walks alone
set_option linter.unusedVariables false
set_option linter.unusedSimpArgs false

/-! ### diwanlaw2_CrcTurned: function 4 -/
mutual
def diwanlaw2_CrcTurned.j0 : Nat → List Int → Int → Int → Bool → Option (Bool)
  | 0, _, _, _, _ => none
  | k + 1, x0, x1, x2, x23 => if x23 = true then (some true) else (if (wrap64 ((wrap64 (8 * (x0.length : Int))) - 31)) = 0 then (none) else ((some (([] : List Int) : List Int)).bind fun y106 => (if y106.length + x0.length < 140737488355328 then (diwanlaw2_CrcTurned.l0 k x0 x2 (Int.tmod (wrap64 (x1)) (wrap64 ((wrap64 (8 * (x0.length : Int))) - 31))) (y106 ++ x0) 0) else (none))))
def diwanlaw2_CrcTurned.l0 : Nat → List Int → Int → Int → List Int → Int → Option (Bool)
  | 0, _, _, _, _, _ => none
  | k + 1, x0, x2, x7, x8, x9 => if x9 < 32 then (if 0 ≤ x9 then (if (Go.bits .and .u32 (shr .u32 x2 x9) 1) = 1 then (if 0 ≤ (wrap64 (Int.tdiv (wrap64 (x7 + x9)) 8)) then (if (wrap64 (Int.tdiv (wrap64 (x7 + x9)) 8)) < (x8.length : Int) then (if 0 ≤ (Int.tmod (wrap64 (x7 + x9)) 8) then (diwanlaw2_CrcTurned.l0 k x0 x2 x7 (x8.set ((wrap64 (Int.tdiv (wrap64 (x7 + x9)) 8)) : Int).toNat (Go.bits .xor .u8 (rd x8 (wrap64 (Int.tdiv (wrap64 (x7 + x9)) 8))) (shl .u8 1 (Int.tmod (wrap64 (x7 + x9)) 8)))) (wrap64 (x9 + 1))) else (none)) else (none)) else (none)) else (diwanlaw2_CrcTurned.l0 k x0 x2 x7 x8 (wrap64 (x9 + 1)))) else (none)) else ((crc_Sum.f k x8).bind fun t114 => ((crc_Sum.f k x0).bind fun t115 => (some (t114 != t115))))
end
def diwanlaw2_CrcTurned.f (k : Nat) (l0 : List Int) (a1 : Int) (a2 : Int) : Option (Bool) := (diwanlaw2_begun.f).bind fun t105 => (if t105 = true then (if (l0.length : Int) < 5 then (diwanlaw2_CrcTurned.j0 k l0 a1 a2 true) else (if (l0.length : Int) > 300 then (diwanlaw2_CrcTurned.j0 k l0 a1 a2 true) else (diwanlaw2_CrcTurned.j0 k l0 a1 a2 (a2 == 0)))) else (some false))
theorem diwanlaw2_CrcTurned.mono_l : ∀ k, (∀ y0 y1 y2 y3, LeO (diwanlaw2_CrcTurned.j0 k y0 y1 y2 y3) (diwanlaw2_CrcTurned.j0 (k + 1) y0 y1 y2 y3)) ∧ (∀ y0 y1 y2 y3 y4, LeO (diwanlaw2_CrcTurned.l0 k y0 y1 y2 y3 y4) (diwanlaw2_CrcTurned.l0 (k + 1) y0 y1 y2 y3 y4))
  | 0 => ⟨fun _ _ _ _ r h => by simp [diwanlaw2_CrcTurned.j0] at h, fun _ _ _ _ _ r h => by simp [diwanlaw2_CrcTurned.l0] at h⟩
  | k + 1 => by
    obtain ⟨ih0, ih1⟩ := diwanlaw2_CrcTurned.mono_l k
    refine ⟨?_, ?_⟩
    · intro y0 y1 y2 y3
      unfold diwanlaw2_CrcTurned.j0
      repeat' first
      | (with_reducible exact ih0 _ _ _ _)
      | (with_reducible exact ih1 _ _ _ _ _)
      | (with_reducible exact crc_Sum.mono _ _)
      | (with_reducible exact LeO.refl _)
      | (with_reducible exact LeO.none _)
      | (with_reducible refine LeO.ite ?_ ?_)
      | (with_reducible refine LeO.bind ?_ (fun _ => ?_))
      | exact ih0 _ _ _ _
      | exact ih1 _ _ _ _ _
      | exact crc_Sum.mono _ _
      | exact LeO.none _
      | refine LeO.ite ?_ ?_
      | refine LeO.bind ?_ (fun _ => ?_)
    · intro y0 y1 y2 y3 y4
      unfold diwanlaw2_CrcTurned.l0
      repeat' first
      | (with_reducible exact ih0 _ _ _ _)
      | (with_reducible exact ih1 _ _ _ _ _)
      | (with_reducible exact crc_Sum.mono _ _)
      | (with_reducible exact LeO.refl _)
      | (with_reducible exact LeO.none _)
      | (with_reducible refine LeO.ite ?_ ?_)
      | (with_reducible refine LeO.bind ?_ (fun _ => ?_))
      | exact ih0 _ _ _ _
      | exact ih1 _ _ _ _ _
      | exact crc_Sum.mono _ _
      | exact LeO.none _
      | refine LeO.ite ?_ ?_
      | refine LeO.bind ?_ (fun _ => ?_)
theorem diwanlaw2_CrcTurned.mono : ∀ a0 a1 a2 k, LeO (diwanlaw2_CrcTurned.f k a0 a1 a2) (diwanlaw2_CrcTurned.f (k + 1) a0 a1 a2) := by
  intro a0 a1 a2 k
  obtain ⟨ih0, ih1⟩ := diwanlaw2_CrcTurned.mono_l k
  unfold diwanlaw2_CrcTurned.f
  repeat' first
      | (with_reducible exact ih0 _ _ _ _)
      | (with_reducible exact ih1 _ _ _ _ _)
      | (with_reducible exact crc_Sum.mono _ _)
      | (with_reducible exact LeO.refl _)
      | (with_reducible exact LeO.none _)
      | (with_reducible refine LeO.ite ?_ ?_)
      | (with_reducible refine LeO.bind ?_ (fun _ => ?_))
      | exact ih0 _ _ _ _
      | exact ih1 _ _ _ _ _
      | exact crc_Sum.mono _ _
      | exact LeO.none _
      | refine LeO.ite ?_ ?_
      | refine LeO.bind ?_ (fun _ => ?_)
def diwanlaw2_CrcTurned.T11 : Bool × List (List Nat × List Nat) := (true, [([], []), ([], []), ([], []), ([1, 2], [1, 2]), ([3], [3]), ([0, 4], [0, 4]), ([5], [5]), ([], []), ([], []), ([7, 8], [7, 8]), ([9], [9]), ([10], [10]), ([6, 11], [6, 11]), ([0, 4, 0, 1, 2, 3, 4, 5, 6, 7, 8, 9, 10, 11, 12], [0, 4]), ([13, 12, 0, 1, 2, 3, 4, 5, 6, 7, 8, 9, 10, 11, 12], [12, 13])])
def diwanlaw2_CrcTurned.B11 : List Nat := [0, 0, 0, 6, 14, 31, 63, 0, 0, 384, 896, 1920, 4095, 8191, 16383]
theorem diwanlaw2_CrcTurned.tab11 : rtab .any (opsOf Try.f4 11) = diwanlaw2_CrcTurned.T11 := by kernel_rfl
theorem diwanlaw2_CrcTurned.bits11 : waitsOk diwanlaw2_CrcTurned.T11.2 diwanlaw2_CrcTurned.B11 = true := by kernel_rfl
set_option maxHeartbeats 8000000 in
set_option maxRecDepth 100000 in
theorem diwanlaw2_CrcTurned.calls (k : Nat) (A0 : Option Addr) (c0 : Nat) (l0 : List Int) (a1 : Int) (a2 : Int) (r : Bool) (w : World) (hr0 : Kd.C (Kd.int .u8) w A0 l0.length l0) (hc0 : l0.length ≤ c0) (h : diwanlaw2_CrcTurned.f k l0 a1 a2 = some r) :
    Calls Try.prog 4 #[.slice A0 l0.length c0, .int .u16 a1, .int .u32 a2] w fun e w' => e = .returned (.bool r) ∧ Below w.heap.size w w' := by
  have HR0 := Aside0.mk hr0
  have HC0 := Aside0.mk hc0
  clear hr0 hc0
  have HB := Aside0.mk (Below.refl w.heap.size w)
  have H : ((diwanlaw2_begun.f).bind fun t105 => (if t105 = true then (if (l0.length : Int) < 5 then (diwanlaw2_CrcTurned.j0 k l0 a1 a2 true) else (if (l0.length : Int) > 300 then (diwanlaw2_CrcTurned.j0 k l0 a1 a2 true) else (diwanlaw2_CrcTurned.j0 k l0 a1 a2 (a2 == 0)))) else (some false))) = some r := h
  clear h
  replace H := Option.bind_eq_some_iff.mp H
  obtain ⟨t105, A40, H⟩ := H
  replace H : (if t105 = true then (if (l0.length : Int) < 5 then (diwanlaw2_CrcTurned.j0 k l0 a1 a2 true) else (if (l0.length : Int) > 300 then (diwanlaw2_CrcTurned.j0 k l0 a1 a2 true) else (diwanlaw2_CrcTurned.j0 k l0 a1 a2 (a2 == 0)))) else (some false)) = some r := H
  have A4 := Aside0.mk A40
  clear A40
  by_cases c5 : t105 = true
  · subst c5
    have H1 : (if (l0.length : Int) < 5 then (diwanlaw2_CrcTurned.j0 k l0 a1 a2 true) else (if (l0.length : Int) > 300 then (diwanlaw2_CrcTurned.j0 k l0 a1 a2 true) else (diwanlaw2_CrcTurned.j0 k l0 a1 a2 (a2 == 0)))) = some r := by rw [if_pos rfl] at H; exact H
    clear H
    have H := H1
    clear H1
    have HC6 := Aside0.mk H
    clear H
    go_enter Try.func4, Try.ntmps4
    go_upto_region 3 with (first | ((with_reducible refine gate_callee (f := 15) rfl ?_); refine goesL_ (some 10) rfl rfl Try.func15 (by kernel_rfl) rfl #[] rfl (by (try simp only [List.map_toArray, List.map_cons, List.map_nil]); first | done | rfl | (simp only [List.length_drop, List.length_take]; rfl)) ?_; (with_reducible refine (diwanlaw2_begun.calls  true _ A4.out).mono ?_); rintro e w7 ⟨rfl, hb⟩; refine ⟨_, rfl, ?_⟩; have n0_ := Aside0.mk (below_step (by repeat (first | (with_reducible first | exact HB.out | apply below_alloc | apply pw_below_drewN | apply below_drew1) | exact HB.out)) hb); clear HB; have HB := n0_; clear n0_; (try clear hb); (try clear hb2); (try clear hk); (try clear hi)))
    (try simp only [Act.put, List.setIfInBounds_toArray, List.set_cons_zero, List.set_cons_succ])
    go_cut [23] (fun v23 wc => ∃ (kq : Nat) (x23_5 : Bool), v23 = .bool x23_5 ∧ Aside0 (diwanlaw2_CrcTurned.j0 kq l0 a1 a2 x23_5 = some r) ∧ Aside0 (kq ≤ k) ∧ Aside0 (Below w.heap.size w wc))
    case first =>
      have H := HC6.out
      clear HC6
      by_cases c8 : (l0.length : Int) < 5
      · rw [if_pos c8] at H
        have c8b0 : decide ((l0.length : Int) < 5) = true := decide_eq_true c8
        have c8b1 : decide (l0.length < 5) = true := decide_eq_true (by omega)
        clear c8
        (first | rw [c8b0] | (simp only [i64_w, i32_w]; rw [c8b0]) | skip)
        have H' := Aside0.mk H
        clear H
        go_wp2
        go_meet
        case rel => exact ⟨_, (true), (by first | rfl | (simp; done) | (simp [*]; done)), H', ⟨by first | omega | exact Nat.le_refl _⟩, ⟨by repeat (first | (with_reducible first | exact HB.out | apply below_alloc | apply pw_below_drewN | apply below_drew1) | exact HB.out)⟩⟩
      · rw [if_neg c8] at H
        have c8b0 : decide ((l0.length : Int) < 5) = false := decide_eq_false c8
        have c8b1 : decide (l0.length < 5) = false := decide_eq_false (by omega)
        clear c8
        (first | rw [c8b0] | (simp only [i64_w, i32_w]; rw [c8b0]) | skip)
        by_cases c9 : (l0.length : Int) > 300
        · rw [if_pos c9] at H
          have c9b0 : decide (300 < (l0.length : Int)) = true := decide_eq_true c9
          have c9b1 : decide (300 < l0.length) = true := decide_eq_true (by omega)
          clear c9
          have H' := Aside0.mk H
          clear H
          go_wp2
          go_meet
          case rel => exact ⟨_, (true), (by first | rfl | (simp; done) | (simp [*]; done)), H', ⟨by first | omega | exact Nat.le_refl _⟩, ⟨by repeat (first | (with_reducible first | exact HB.out | apply below_alloc | apply pw_below_drewN | apply below_drew1) | exact HB.out)⟩⟩
        · rw [if_neg c9] at H
          have c9b0 : decide (300 < (l0.length : Int)) = false := decide_eq_false c9
          have c9b1 : decide (300 < l0.length) = false := decide_eq_false (by omega)
          clear c9
          have H' := Aside0.mk H
          clear H
          go_wp2
          go_meet
          case rel => exact ⟨_, ((a2 == 0)), (by first | rfl | (simp; done) | (simp [*]; done)), H', ⟨by first | omega | exact Nat.le_refl _⟩, ⟨by repeat (first | (with_reducible first | exact HB.out | apply below_alloc | apply pw_below_drewN | apply below_drew1) | exact HB.out)⟩⟩
    case rest =>
      clear HC6
      try clear c1
      try clear p2
      try clear c4
      try clear c5
      try clear c8
      try clear c8b0
      try clear c8b1
      try clear c9
      try clear c9b0
      try clear c9b1
      obtain ⟨kq, x23_5, rfl, HA, HJ5, HB⟩ := hcut
      cases kq with
      | zero => exact absurd HA.out (by simp [diwanlaw2_CrcTurned.j0])
      | succ kj5 =>
        have H := HA.out
        clear HA
        simp only [diwanlaw2_CrcTurned.j0] at H
        by_cases c10 : x23_5 = true
        · subst c10
          have H1 : (some true) = some r := by rw [if_pos rfl] at H; exact H
          clear H
          have H := H1
          clear H1
          obtain rfl := Option.some.inj H
          go_wp2
          go_ret
          exact ⟨by first | rfl | (simp [errW_none, errW_some] <;> rfl) | (simp [*, errW_none, errW_some] <;> rfl), by repeat (first | (with_reducible first | exact HB.out | apply below_alloc | apply pw_below_drewN | apply below_drew1) | exact HB.out)⟩
        · replace c10 := Bool.eq_false_iff.mpr c10
          subst c10
          have H1 : (if (wrap64 ((wrap64 (8 * (l0.length : Int))) - 31)) = 0 then (none) else ((some (([] : List Int) : List Int)).bind fun y106 => (if y106.length + l0.length < 140737488355328 then (diwanlaw2_CrcTurned.l0 kj5 l0 a2 (Int.tmod (wrap64 (a1)) (wrap64 ((wrap64 (8 * (l0.length : Int))) - 31))) (y106 ++ l0) 0) else (none)))) = some r := by rw [if_neg (show ¬ (false = true) by decide)] at H; exact H
          clear H
          have H := H1
          clear H1
          by_cases c11 : (wrap64 ((wrap64 (8 * (l0.length : Int))) - 31)) = 0
          · rw [if_pos c11] at H
            exact absurd H (by simp)
          · rw [if_neg c11] at H
            have c11b0 : ((wrap64 ((wrap64 (8 * (l0.length : Int))) - 31)) == 0) = false := beq_eq_false_iff_ne.mpr c11
            have c11b1 : ((wrap64 ((wrap64 (8 * (l0.length : Int))) - 31)) != 0) = true := bne_iff_ne.mpr c11
            obtain ⟨y106, hy106⟩ : ∃ y_ : List Int, y_ = (([] : List Int)) := ⟨_, rfl⟩
            replace H : (if y106.length + l0.length < 140737488355328 then (diwanlaw2_CrcTurned.l0 kj5 l0 a2 (Int.tmod (wrap64 (a1)) (wrap64 ((wrap64 (8 * (l0.length : Int))) - 31))) (y106 ++ l0) 0) else (none)) = some r := by first | (rw [hy106]; with_reducible exact H) | (have H2_ := (Option.bind_some _ _).symm.trans H; rw [hy106]; with_reducible exact H2_) | (have H2_ := (Option.bind_some _ _).symm.trans H; with_reducible exact H2_) | with_reducible exact H | (rw [hy106]; exact H) | exact H
            have Ny106 := Aside0.mk hy106
            clear hy106
            by_cases c12 : y106.length + l0.length < 140737488355328
            · rw [if_pos c12] at H
              have LMc12 := Aside0.mk c12
              clear c12
              obtain ⟨y109, hy109⟩ : ∃ y_ : List Int, y_ = (y106 ++ l0) := ⟨_, rfl⟩
              replace H : (diwanlaw2_CrcTurned.l0 kj5 l0 a2 (Int.tmod (wrap64 (a1)) (wrap64 ((wrap64 (8 * (l0.length : Int))) - 31))) y109 0) = some r := by first | (rw [hy109]; with_reducible exact H) | (have H2_ := (Option.bind_some _ _).symm.trans H; rw [hy109]; with_reducible exact H2_) | (have H2_ := (Option.bind_some _ _).symm.trans H; with_reducible exact H2_) | with_reducible exact H | (rw [hy109]; exact H) | exact H
              have Ny109 := Aside0.mk hy109
              clear hy109
              have H' := Aside0.mk H
              clear H
              go_wp2_with (first | ((with_reducible refine gate_dst (N := 31) rfl ?_); (try (refine gate_guard (by rfl) ?_; dsimp only)); refine Kd.R_lit (Kd.int .u8) _ 5 ?hg (N := 31) ?hd (xs := ([] : List Int)) (inner := []) (ok := fun _ => True) (okp := fun _ => True) ?hr ?hp (fun _ hk => hk) trivial (Below.refl _ _) (Nat.le_refl _) (by simp) ?_; (case hd => rfl); (case hg => rfl); (case hr => first | (go_simp; done) | (go_simp; rfl)); (case hp => exact (Reps.none _ _)); intro v107 w13 ho14 hb hg_ hnew_; clear hg_ hnew_; (first | rw [← Ny106.out] at ho14 | (simp only [Int.reduceToNat] at ho14; rw [← Ny106.out] at ho14)); have n0_ := Aside0.mk (Kd.R_lower ho14 (below_size (by repeat (first | (with_reducible first | exact HB.out | apply below_alloc | apply pw_below_drewN | apply below_drew1) | exact HB.out)))); have n1_ := Aside0.mk (below_step (by repeat (first | (with_reducible first | exact HB.out | apply below_alloc | apply pw_below_drewN | apply below_drew1) | exact HB.out)) hb); clear HB; have HO108 := n0_; have HB := n1_; clear n0_ n1_; clear hb ho14) | ((with_reducible refine gate_builtin (b := .append) (xs := #[.tmp 31, .tmp 32]) rfl ?_); (try (refine gate_guard (by rfl) ?_; dsimp only)); at_builtin; refine Kd.R_append_rows (Kd.int .u8) (w0 := w) w.heap.size rfl (.tmp 31) (.tmp 32) 22 5 (.int .u8 0) 1 rfl Try.underlying22 info5 rfl (by decide) (by omega) v107 y106 l0 _ _ _ (fun _ => True) (fun _ => False) rfl rfl ?aO ?aR (fun _ _ h => h) (fun _ h => h.elim) ?aF ?aB ?aS ?aL ?_; (case aR => repeat (first | exact (Kd.C_below HR0.out HB.out) | (with_reducible refine Kd.C_alloc ?_ _) | (with_reducible refine Kd.C_drewN ?_ _) | (with_reducible refine Kd.C_drew ?_))); (case aB => exact (by repeat (first | (with_reducible first | exact HB.out | apply below_alloc | apply pw_below_drewN | apply below_drew1) | exact HB.out))); (case aF => exact (fun _ _ => trivial)); (case aO => exact (by (with_reducible repeat (first | apply Kd.R_alloc | apply Kd.R_drewN | apply Kd.R_drew)); exact HO108.out)); (case aS => exact (below_size (by repeat (first | (with_reducible first | exact HB.out | apply below_alloc | apply pw_below_drewN | apply below_drew1) | exact HB.out)))); (case aL => have := LMc12.out; omega); intro v110 w15 ho hb hg hat; rw [← Ny109.out] at ho; have n0_ := Aside0.mk (hb); have n1_ := Aside0.mk (ho); clear HB; clear HO108; have HB := n0_; have HO111 := n1_; clear n0_ n1_; clear ho hb hg hat))
              go_loopg [9] kj5 (fun kq v9 w' => ∃ (x8_2 : List Int) (x9_2 : Int), v9 = .int .i64 x9_2 ∧ Aside0 (diwanlaw2_CrcTurned.l0 kq l0 a2 (Int.tmod (wrap64 (a1)) (wrap64 ((wrap64 (8 * (l0.length : Int))) - 31))) x8_2 x9_2 = some r) ∧ Aside0 (kq ≤ kj5) ∧ Aside0 (Kd.R (Kd.int .u8) 5 w' w.heap.size (fun _ => True) v110 x8_2) ∧ Aside0 (Below w.heap.size w w'))
              case atStart => exact ⟨(y109), (0), (by first | rfl | (simp; done) | (simp [*]; done)), H', ⟨Nat.le_refl _⟩, ⟨by (with_reducible repeat (first | apply Kd.R_alloc | apply Kd.R_drewN | apply Kd.R_drew)); exact HO111.out⟩, ⟨by repeat (first | (with_reducible first | exact HB.out | apply below_alloc | apply pw_below_drewN | apply below_drew1) | exact HB.out)⟩⟩
              case round =>
                clear H'
                try clear c1
                try clear p2
                try clear c4
                try clear c5
                try clear p6
                try clear c8
                try clear c8b0
                try clear c8b1
                try clear c9
                try clear c9b0
                try clear c9b1
                try clear c10
                try clear c11
                try clear c11b0
                try clear c11b1
                try clear c12
                try clear c15
                try clear p2
                obtain ⟨x8_2, x9_2, rfl, HA, HK2, HO_8, HB⟩ := hrel
                cases gk with
                | zero => exact absurd HA.out (by simp [diwanlaw2_CrcTurned.l0])
                | succ k2 =>
                  have H := HA.out
                  clear HA
                  simp only [diwanlaw2_CrcTurned.l0] at H
                  by_cases c16 : x9_2 < 32
                  · rw [if_pos c16] at H
                    have c16b0 : decide (x9_2 < 32) = true := decide_eq_true c16
                    clear c16
                    by_cases c17 : 0 ≤ x9_2
                    · rw [if_pos c17] at H
                      have c17b0 := eq_true c17
                      have c17b1 : decide (0 ≤ x9_2) = true := decide_eq_true c17
                      clear c17
                      obtain ⟨ji18, hji18⟩ : ∃ j_ : Int, (shr .u32 a2 x9_2) = j_ := ⟨_, rfl⟩
                      replace H : (if (Go.bits .and .u32 (ji18) 1) = 1 then (if 0 ≤ (wrap64 (Int.tdiv (wrap64 ((Int.tmod (wrap64 (a1)) (wrap64 ((wrap64 (8 * (l0.length : Int))) - 31))) + x9_2)) 8)) then (if (wrap64 (Int.tdiv (wrap64 ((Int.tmod (wrap64 (a1)) (wrap64 ((wrap64 (8 * (l0.length : Int))) - 31))) + x9_2)) 8)) < (x8_2.length : Int) then (if 0 ≤ (Int.tmod (wrap64 ((Int.tmod (wrap64 (a1)) (wrap64 ((wrap64 (8 * (l0.length : Int))) - 31))) + x9_2)) 8) then (diwanlaw2_CrcTurned.l0 k2 l0 a2 (Int.tmod (wrap64 (a1)) (wrap64 ((wrap64 (8 * (l0.length : Int))) - 31))) (x8_2.set ((wrap64 (Int.tdiv (wrap64 ((Int.tmod (wrap64 (a1)) (wrap64 ((wrap64 (8 * (l0.length : Int))) - 31))) + x9_2)) 8)) : Int).toNat (Go.bits .xor .u8 (rd x8_2 (wrap64 (Int.tdiv (wrap64 ((Int.tmod (wrap64 (a1)) (wrap64 ((wrap64 (8 * (l0.length : Int))) - 31))) + x9_2)) 8))) (shl .u8 1 (Int.tmod (wrap64 ((Int.tmod (wrap64 (a1)) (wrap64 ((wrap64 (8 * (l0.length : Int))) - 31))) + x9_2)) 8)))) (wrap64 (x9_2 + 1))) else (none)) else (none)) else (none)) else (diwanlaw2_CrcTurned.l0 k2 l0 a2 (Int.tmod (wrap64 (a1)) (wrap64 ((wrap64 (8 * (l0.length : Int))) - 31))) x8_2 (wrap64 (x9_2 + 1)))) = some r := by first | (rw [hji18] at H; exact H) | (simp only [hji18] at H ⊢; exact H)
                      have hji18_ : (a2 / 2 ^ min x9_2.toNat 32) = ji18 := hji18
                      have hji18z : x9_2 ≤ 32 → (a2 / 2 ^ x9_2.toNat) = ji18 := shr_small hji18
                      by_cases c19 : (Go.bits .and .u32 (ji18) 1) = 1
                      · rw [if_pos c19] at H
                        have c19b0 : ((Go.bits .and .u32 (ji18) 1) == 1) = true := beq_iff_eq.mpr c19
                        have c19b1 : ((Go.bits .and .u32 (ji18) 1) != 1) = false := bne_eq_false_iff_eq.mpr c19
                        clear c19
                        obtain ⟨ji20, hji20⟩ : ∃ j_ : Int, (wrap64 (Int.tdiv (wrap64 ((Int.tmod (wrap64 (a1)) (wrap64 ((wrap64 (8 * (l0.length : Int))) - 31))) + x9_2)) 8)) = j_ := ⟨_, rfl⟩
                        replace H : (if 0 ≤ (ji20) then (if (ji20) < (x8_2.length : Int) then (if 0 ≤ (Int.tmod (wrap64 ((Int.tmod (wrap64 (a1)) (wrap64 ((wrap64 (8 * (l0.length : Int))) - 31))) + x9_2)) 8) then (diwanlaw2_CrcTurned.l0 k2 l0 a2 (Int.tmod (wrap64 (a1)) (wrap64 ((wrap64 (8 * (l0.length : Int))) - 31))) (x8_2.set ((ji20) : Int).toNat (Go.bits .xor .u8 (rd x8_2 (ji20)) (shl .u8 1 (Int.tmod (wrap64 ((Int.tmod (wrap64 (a1)) (wrap64 ((wrap64 (8 * (l0.length : Int))) - 31))) + x9_2)) 8)))) (wrap64 (x9_2 + 1))) else (none)) else (none)) else (none)) = some r := by first | (rw [hji20] at H; exact H) | (simp only [hji20] at H ⊢; exact H)
                        have hji20w : (IntKind.i64.wrap (Int.tdiv (wrap64 ((Int.tmod (wrap64 (a1)) (wrap64 ((wrap64 (8 * (l0.length : Int))) - 31))) + x9_2)) 8)) = ji20 := (i64_w _).trans hji20
                        by_cases c21 : 0 ≤ (ji20)
                        · rw [if_pos c21] at H
                          have c21b0 : decide (0 ≤ (ji20)) = true := decide_eq_true c21
                          clear c21
                          by_cases c22 : (ji20) < (x8_2.length : Int)
                          · rw [if_pos c22] at H
                            have c22b0 : decide ((ji20) < (x8_2.length : Int)) = true := decide_eq_true c22
                            clear c22
                            obtain ⟨ji23, hji23⟩ : ∃ j_ : Int, (Int.tmod (wrap64 ((Int.tmod (wrap64 (a1)) (wrap64 ((wrap64 (8 * (l0.length : Int))) - 31))) + x9_2)) 8) = j_ := ⟨_, rfl⟩
                            replace H : (if 0 ≤ (ji23) then (diwanlaw2_CrcTurned.l0 k2 l0 a2 (Int.tmod (wrap64 (a1)) (wrap64 ((wrap64 (8 * (l0.length : Int))) - 31))) (x8_2.set ((ji20) : Int).toNat (Go.bits .xor .u8 (rd x8_2 (ji20)) (shl .u8 1 (ji23)))) (wrap64 (x9_2 + 1))) else (none)) = some r := by first | (rw [hji23] at H; exact H) | (simp only [hji23] at H ⊢; exact H)
                            by_cases c24 : 0 ≤ (ji23)
                            · rw [if_pos c24] at H
                              have c24b0 := eq_true c24
                              have c24b1 : decide (0 ≤ (ji23)) = true := decide_eq_true c24
                              clear c24
                              obtain ⟨ji25, hji25⟩ : ∃ j_ : Int, (shl .u8 1 (ji23)) = j_ := ⟨_, rfl⟩
                              replace H : (diwanlaw2_CrcTurned.l0 k2 l0 a2 (Int.tmod (wrap64 (a1)) (wrap64 ((wrap64 (8 * (l0.length : Int))) - 31))) (x8_2.set ((ji20) : Int).toNat (Go.bits .xor .u8 (rd x8_2 (ji20)) (ji25))) (wrap64 (x9_2 + 1))) = some r := by first | (rw [hji25] at H; exact H) | (simp only [hji25] at H ⊢; exact H)
                              have hji25_ : (IntKind.u8.wrap (1 * 2 ^ min (ji23).toNat 8)) = ji25 := hji25
                              have hji25z : (ji23) ≤ 8 → (IntKind.u8.wrap (1 * 2 ^ (ji23).toNat)) = ji25 := shl_small hji25
                              have hji25u : (IntKind.u8.wrap (2 ^ min (ji23).toNat 8)) = ji25 := by have h_ := hji25_; rw [Int.one_mul] at h_; exact h_
                              have hji25v : (ji23) ≤ 8 → (IntKind.u8.wrap (2 ^ (ji23).toNat)) = ji25 := fun hle_ => by have h_ := hji25z hle_; rw [Int.one_mul] at h_; exact h_
                              obtain ⟨y113, hy113⟩ : ∃ y_ : List Int, y_ = (x8_2.set ((ji20) : Int).toNat (Go.bits .xor .u8 (rd x8_2 (ji20)) (ji25))) := ⟨_, rfl⟩
                              replace H : (diwanlaw2_CrcTurned.l0 k2 l0 a2 (Int.tmod (wrap64 (a1)) (wrap64 ((wrap64 (8 * (l0.length : Int))) - 31))) y113 (wrap64 (x9_2 + 1))) = some r := by first | (rw [hy113]; with_reducible exact H) | (have H2_ := (Option.bind_some _ _).symm.trans H; rw [hy113]; with_reducible exact H2_) | (have H2_ := (Option.bind_some _ _).symm.trans H; with_reducible exact H2_) | with_reducible exact H | (rw [hy113]; exact H) | exact H
                              have Ny113 := Aside0.mk hy113
                              clear hy113
                              have H' := Aside0.mk H
                              clear H
                              try go_wp2
                              have n0_ := Aside0.mk (Kd.R_drew HO_8.out)
                              have n1_ := Aside0.mk (below_drew1 HB.out)
                              clear HO_8
                              clear HB
                              have HO_8 := n0_
                              have HB := n1_
                              clear n0_ n1_
                              obtain ⟨Ao28, co28, eo28⟩ := Kd.R_slice HO_8.out
                              (first | subst eo28 | (injection eo28 with f1_ f2_ f3_; have f4_ := f1_.symm; have f5_ := f3_.symm; clear f1_ f2_ f3_; subst f4_; subst f5_))
                              have p112 : 0 ≤ ((ji20) : Int) := of_decide_eq_true (by first | (with_reducible assumption) | assumption)
                              have q112 : (ji20) < (x8_2.length : Int) := of_decide_eq_true (by first | (with_reducible assumption) | assumption)
                              obtain ⟨ad112, e112, hx112_0⟩ := Kd.at_int (Kd.R_reads' HO_8.out).2.2 (ji20) p112 q112
                              cases e112
                              replace p112 := eq_true p112
                              replace q112 := eq_true q112
                              have p26 : 0 ≤ ((ji20) : Int) := of_decide_eq_true (by first | (with_reducible assumption) | assumption)
                              have q26 : ((ji20) : Int) < ((x8_2.length : Int) : Int) := of_decide_eq_true (by first | (with_reducible assumption) | assumption)
                              obtain ⟨go26, co26, eo26, gb26, gl26, cl26, HG26⟩ := Kd.R_form HO_8.out (by omega)
                              (first | cases eo26 | (injection eo26 with ea_ en_ ec_; (first | subst ea_ | (injection ea_ with ea_; subst ea_)); subst ec_; clear en_))
                              have GB26 := Aside0.mk gb26
                              have GG26 := Aside0.mk HG26
                              clear gb26 gl26 HG26
                              (first | simp only [add_plain] at hx112_0 | skip)
                              obtain ⟨hx26_0, hf26_0⟩ := Kd.R_celln 0 HO_8.out ((ji20) : Int) p26 q26
                              replace p26 := eq_true p26
                              replace q26 := eq_true q26
                              have HP29 := Kd.R_putn HO_8.out ((ji20) : Int) (Go.bits .xor .u8 (rd x8_2 (ji20)) (ji25))
                              rw [← Ny113.out] at HP29
                              have HQ29 := Aside0.mk HP29
                              clear HP29
                              refine start_ (n := 15) (S := fun w' => w'.cell? ⟨go26, ((ji20)).toNat, none⟩ = some (.int .u8 (rd x8_2 (ji20)))) (ds := [14]) #[false, false, false, false, false, false, false, false, false, false, false, false, false, false, false] (by kernel_rfl) rfl rfl (hx112_0) (fun hHeld => ?_); refine with_tabW diwanlaw2_CrcTurned.tab11 diwanlaw2_CrcTurned.bits11 (fun HT_ HW_ => ?_)
                              generalize wr.drew = w27 at HO_8 HB GG26 HQ29 hf26_0 hx112_0 hx26_0 hHeld ⊢
                              refine pure_ (i := 0) (N := some 43) (v := ?_) (a' := ?_) #[true, false, false, false, false, false, false, false, false, false, false, false, false, false, false] rfl rfl (any_of HT_.out (by kernel_rfl)) (fun _ _ _ h => h) (Or.inl ⟨by rfl, ?_⟩) ?_ ?_
                              rotate_left
                              · intro w'
                                go_simp
                                with_reducible rfl
                              rotate_left
                              · simp only [Act.put, List.setIfInBounds_toArray, List.set_cons_zero, List.set_cons_succ, i64_w, i32_w]
                                rfl
                              refine pure_ (i := 1) (N := some 44) (v := ?_) (a' := ?_) #[true, true, false, false, false, false, false, false, false, false, false, false, false, false, false] rfl rfl (any_of HT_.out (by kernel_rfl)) (fun _ _ _ h => h) (Or.inl ⟨by rfl, ?_⟩) ?_ ?_
                              rotate_left
                              · intro w'
                                go_simp
                                with_reducible rfl
                              rotate_left
                              · simp only [Act.put, List.setIfInBounds_toArray, List.set_cons_zero, List.set_cons_succ, i64_w, i32_w]
                                rfl
                              refine pure_ (i := 2) (N := some 45) (v := ?_) (a' := ?_) #[true, true, true, false, false, false, false, false, false, false, false, false, false, false, false] rfl rfl (any_of HT_.out (by kernel_rfl)) (fun _ _ _ h => h) (Or.inl ⟨by rfl, ?_⟩) ?_ ?_
                              rotate_left
                              · intro w'
                                go_simp
                                with_reducible rfl
                              rotate_left
                              · simp only [Act.put, List.setIfInBounds_toArray, List.set_cons_zero, List.set_cons_succ, i64_w, i32_w]
                                rfl
                              refine pure_ (i := 3) (N := some 46) (v := ?_) (a' := ?_) #[true, true, true, true, false, false, false, false, false, false, false, false, false, false, false] rfl rfl (any_of HT_.out (by kernel_rfl)) (fun _ _ _ h => h) (Or.inl ⟨by rfl, ?_⟩) ?_ ?_
                              rotate_left
                              · intro w'
                                go_simp
                                with_reducible rfl
                              rotate_left
                              · simp only [Act.put, List.setIfInBounds_toArray, List.set_cons_zero, List.set_cons_succ, i64_w, i32_w]
                                rfl
                              refine pure_ (i := 4) (N := some 47) (v := ?_) (a' := ?_) #[true, true, true, true, true, false, false, false, false, false, false, false, false, false, false] rfl rfl (any_of HT_.out (by kernel_rfl)) (fun _ _ _ h => h) (Or.inl ⟨by rfl, ?_⟩) ?_ ?_
                              rotate_left
                              · intro w'
                                go_simp
                                with_reducible rfl
                              rotate_left
                              · simp only [Act.put, List.setIfInBounds_toArray, List.set_cons_zero, List.set_cons_succ, i64_w, i32_w]
                                rfl
                              refine pure_ (i := 5) (N := some 48) (v := ?_) (a' := ?_) #[true, true, true, true, true, true, false, false, false, false, false, false, false, false, false] rfl rfl (any_of HT_.out (by kernel_rfl)) (fun _ _ _ h => h) (Or.inl ⟨by rfl, ?_⟩) ?_ ?_
                              rotate_left
                              · intro w'
                                go_simp
                                with_reducible rfl
                              rotate_left
                              · simp only [Act.put, List.setIfInBounds_toArray, List.set_cons_zero, List.set_cons_succ, i64_w, i32_w]
                                rfl
                              refine pure_ (i := 7) (N := some 50) (v := ?_) (a' := ?_) #[true, true, true, true, true, true, false, true, false, false, false, false, false, false, false] rfl rfl (any_of HT_.out (by kernel_rfl)) (fun _ _ _ h => h) (Or.inl ⟨by rfl, ?_⟩) ?_ ?_
                              rotate_left
                              · intro w'
                                go_simp
                                with_reducible rfl
                              rotate_left
                              · simp only [Act.put, List.setIfInBounds_toArray, List.set_cons_zero, List.set_cons_succ, i64_w, i32_w]
                                rfl
                              refine pure_ (i := 8) (N := some 51) (v := ?_) (a' := ?_) #[true, true, true, true, true, true, false, true, true, false, false, false, false, false, false] rfl rfl (any_of HT_.out (by kernel_rfl)) (fun _ _ _ h => h) (Or.inl ⟨by rfl, ?_⟩) ?_ ?_
                              rotate_left
                              · intro w'
                                go_simp
                                with_reducible rfl
                              rotate_left
                              · simp only [Act.put, List.setIfInBounds_toArray, List.set_cons_zero, List.set_cons_succ, i64_w, i32_w]
                                rfl
                              refine pure_ (i := 9) (N := some 52) (v := ?_) (a' := ?_) #[true, true, true, true, true, true, false, true, true, true, false, false, false, false, false] rfl rfl (any_of HT_.out (by kernel_rfl)) (fun _ _ _ h => h) (Or.inl ⟨by rfl, ?_⟩) ?_ ?_
                              rotate_left
                              · intro w'
                                go_simp
                                with_reducible rfl
                              rotate_left
                              · simp only [Act.put, List.setIfInBounds_toArray, List.set_cons_zero, List.set_cons_succ, i64_w, i32_w]
                                rfl
                              refine pure_ (i := 10) (N := some 53) (v := ?_) (a' := ?_) #[true, true, true, true, true, true, false, true, true, true, true, false, false, false, false] rfl rfl (any_of HT_.out (by kernel_rfl)) (fun _ _ _ h => h) (Or.inl ⟨by rfl, ?_⟩) ?_ ?_
                              rotate_left
                              · intro w'
                                go_simp
                                with_reducible rfl
                              rotate_left
                              · simp only [Act.put, List.setIfInBounds_toArray, List.set_cons_zero, List.set_cons_succ, i64_w, i32_w]
                                rfl
                              refine pure_ (i := 11) (N := some 54) (v := ?_) (a' := ?_) #[true, true, true, true, true, true, false, true, true, true, true, true, false, false, false] rfl rfl (any_of HT_.out (by kernel_rfl)) (fun _ _ _ h => h) (Or.inl ⟨by rfl, ?_⟩) ?_ ?_
                              rotate_left
                              · intro w'
                                go_simp
                                with_reducible rfl
                              rotate_left
                              · simp only [Act.put, List.setIfInBounds_toArray, List.set_cons_zero, List.set_cons_succ, i64_w, i32_w]
                                rfl
                              refine take_ (i := 6) (N := some 49) (v := ?_) (a' := ?_) #[true, true, true, true, true, true, true, true, true, true, true, true, false, false, false] rfl rfl (take_ofW HT_.out HW_.out (by kernel_rfl)) (fun _ _ _ h => h) (Or.inl ⟨by rfl, ?_⟩) hHeld ?_ ?_
                              rotate_left
                              · intro w' s0
                                go_simp
                                with_reducible rfl
                              rotate_left
                              · simp only [Act.put, List.setIfInBounds_toArray, List.set_cons_zero, List.set_cons_succ, i64_w, i32_w]
                                rfl
                              refine pure_ (i := 12) (N := some 55) (v := ?_) (a' := ?_) #[true, true, true, true, true, true, true, true, true, true, true, true, true, false, false] rfl rfl (any_of HT_.out (by kernel_rfl)) (fun _ _ _ h => h) (Or.inl ⟨by rfl, ?_⟩) ?_ ?_
                              rotate_left
                              · intro w'
                                go_simp
                                with_reducible rfl
                              rotate_left
                              · simp only [Act.put, List.setIfInBounds_toArray, List.set_cons_zero, List.set_cons_succ, i64_w, i32_w]
                                rfl
                              refine pure_ (i := 13) (N := some 56) (v := ?_) (a' := ?_) #[true, true, true, true, true, true, true, true, true, true, true, true, true, true, false] rfl rfl (any_of HT_.out (by kernel_rfl)) (fun _ _ _ h => h) (Or.inl ⟨by rfl, ?_⟩) ?_ ?_
                              rotate_left
                              · intro w'
                                go_simp
                                with_reducible rfl
                              rotate_left
                              · simp only [Act.put, List.setIfInBounds_toArray, List.set_cons_zero, List.set_cons_succ, i64_w, i32_w]
                                rfl
                              refine last_ (i := 14) (N := none) #[true, true, true, true, true, true, true, true, true, true, true, true, true, true, true] rfl rfl (one_of HT_.out (by kernel_rfl)) (by decide) (fun K hK => ?_)
                              refine skip_ (w1 := ?_) (by rfl) rfl ?_ ?_
                              rotate_left
                              · go_simp
                                rfl
                              refine hK.out _ _ ?_
                              clear hK K
                              refine done_ (done_of HT_.out (by kernel_rfl)) ?_
                              try go_wp2
                              go_roundg k2
                              case measure => have := HJ5.out; have := HK2.out; omega
                              case rel => exact ⟨(y113), (wrap64 (x9_2 + 1)), (by first | rfl | (simp; done) | (simp [*]; done)), H', ⟨by have := HJ5.out; have := HK2.out; omega⟩, ⟨by (with_reducible repeat (first | apply Kd.R_alloc | apply Kd.R_drewN | apply Kd.R_drew)); exact HQ29.out⟩, ⟨by repeat (first | (with_reducible first | exact HB.out | apply below_alloc | apply pw_below_drewN | apply below_drew1 | refine below_set ?_ GB26.out) | exact HB.out)⟩⟩
                            · rw [if_neg c24] at H
                              exact absurd H (by simp)
                          · rw [if_neg c22] at H
                            exact absurd H (by simp)
                        · rw [if_neg c21] at H
                          exact absurd H (by simp)
                      · rw [if_neg c19] at H
                        have c19b0 : ((Go.bits .and .u32 (ji18) 1) == 1) = false := beq_eq_false_iff_ne.mpr c19
                        have c19b1 : ((Go.bits .and .u32 (ji18) 1) != 1) = true := bne_iff_ne.mpr c19
                        have H' := Aside0.mk H
                        clear H
                        go_wp2
                        go_roundg k2
                        case measure => have := HJ5.out; have := HK2.out; omega
                        case rel => exact ⟨(x8_2), (wrap64 (x9_2 + 1)), (by first | rfl | (simp; done) | (simp [*]; done)), H', ⟨by have := HJ5.out; have := HK2.out; omega⟩, ⟨by (with_reducible repeat (first | apply Kd.R_alloc | apply Kd.R_drewN | apply Kd.R_drew)); exact HO_8.out⟩, ⟨by repeat (first | (with_reducible first | exact HB.out | apply below_alloc | apply pw_below_drewN | apply below_drew1) | exact HB.out)⟩⟩
                    · rw [if_neg c17] at H
                      exact absurd H (by simp)
                  · rw [if_neg c16] at H
                    have c16b0 : decide (x9_2 < 32) = false := decide_eq_false c16
                    clear c16
                    replace H := Option.bind_eq_some_iff.mp H
                    obtain ⟨t114, A300, H⟩ := H
                    replace H : ((crc_Sum.f k2 l0).bind fun t115 => (some (t114 != t115))) = some r := H
                    have A30 := Aside0.mk A300
                    clear A300
                    replace H := Option.bind_eq_some_iff.mp H
                    obtain ⟨t115, A310, H⟩ := H
                    replace H : (some (t114 != t115)) = some r := H
                    have A31 := Aside0.mk A310
                    clear A310
                    obtain rfl := Option.some.inj H
                    obtain ⟨Ao32, co32, eo32⟩ := Kd.R_slice HO_8.out
                    subst eo32
                    go_wp2_with (first | ((with_reducible refine gate_callee (f := 17) rfl ?_); refine goesL_ (some 58) rfl rfl Try.func17 (by kernel_rfl) rfl #[.slice Ao32 x8_2.length co32] rfl (by (try simp only [List.map_toArray, List.map_cons, List.map_nil]); first | done | rfl | (simp only [List.length_drop, List.length_take]; rfl)) ?_; (with_reducible refine (crc_Sum.calls k2 _ _ x8_2 t114 _ ?side1 ?side2 A30.out).mono ?_); (case side1 => repeat (first | exact (Kd.R_reads' HO_8.out).2.2 | (with_reducible refine Kd.C_alloc ?_ _) | (with_reducible refine Kd.C_drewN ?_ _) | (with_reducible refine Kd.C_drew ?_))); (case side2 => exact (Kd.R_reads' HO_8.out).2.1); rintro e w' ⟨rfl, ⟨nd, rfl⟩⟩; refine ⟨_, rfl, ?_⟩) | ((with_reducible refine gate_callee (f := 17) rfl ?_); refine goesL_ (some 60) rfl rfl Try.func17 (by kernel_rfl) rfl #[.slice A0 l0.length c0] rfl (by (try simp only [List.map_toArray, List.map_cons, List.map_nil]); first | done | rfl | (simp only [List.length_drop, List.length_take]; rfl)) ?_; (with_reducible refine (crc_Sum.calls k2 _ _ l0 t115 _ ?side1 ?side2 A31.out).mono ?_); (case side1 => repeat (first | exact (Kd.C_below HR0.out (by repeat (first | (with_reducible first | exact HB.out | apply below_alloc | apply pw_below_drewN | apply below_drew1) | exact HB.out))) | (with_reducible refine Kd.C_alloc ?_ _) | (with_reducible refine Kd.C_drewN ?_ _) | (with_reducible refine Kd.C_drew ?_))); (case side2 => exact HC0.out); rintro e w' ⟨rfl, ⟨nd, rfl⟩⟩; refine ⟨_, rfl, ?_⟩))
                    go_ret
                    exact ⟨by first | rfl | (simp [errW_none, errW_some] <;> rfl) | (simp [*, errW_none, errW_some] <;> rfl), by repeat (first | (with_reducible first | exact HB.out | apply below_alloc | apply pw_below_drewN | apply below_drew1) | exact HB.out)⟩
            · rw [if_neg c12] at H
              exact absurd H (by simp)
  · replace c5 := Bool.eq_false_iff.mpr c5
    subst c5
    have H1 : (some false) = some r := by rw [if_neg (show ¬ (false = true) by decide)] at H; exact H
    clear H
    have H := H1
    clear H1
    obtain rfl := Option.some.inj H
    go_enter Try.func4, Try.ntmps4
    go_wp2_with (first | ((with_reducible refine gate_callee (f := 15) rfl ?_); refine goesL_ (some 10) rfl rfl Try.func15 (by kernel_rfl) rfl #[] rfl (by (try simp only [List.map_toArray, List.map_cons, List.map_nil]); first | done | rfl | (simp only [List.length_drop, List.length_take]; rfl)) ?_; (with_reducible refine (diwanlaw2_begun.calls  false _ A4.out).mono ?_); rintro e w33 ⟨rfl, hb⟩; refine ⟨_, rfl, ?_⟩; have n0_ := Aside0.mk (below_step (by repeat (first | (with_reducible first | exact HB.out | apply below_alloc | apply pw_below_drewN | apply below_drew1) | exact HB.out)) hb); clear HB; have HB := n0_; clear n0_; (try clear hb); (try clear hb2); (try clear hk); (try clear hi)))
    go_ret
    exact ⟨by first | rfl | (simp [errW_none, errW_some] <;> rfl) | (simp [*, errW_none, errW_some] <;> rfl), by repeat (first | (with_reducible first | exact HB.out | apply below_alloc | apply pw_below_drewN | apply below_drew1) | exact HB.out)⟩

/-- THE ONE PURE STATEMENT of diwanlaw2_CrcTurned: yours. -/
def diwanlaw2_CrcTurned.Pure : Prop := ∀ (l0 : List Int) (a1 : Int) (a2 : Int), l0.length ≤ maxLen → l0.length * 1 ≤ 140737488351232 → (∀ x ∈ l0, (Lit.int .u8 x).wf = true) → (Lit.int .u16 a1).wf = true → (Lit.int .u32 a2).wf = true → ∃ k, diwanlaw2_CrcTurned.f k l0 a1 a2 = some true
theorem diwanlaw2_CrcTurned.walk (P : diwanlaw2_CrcTurned.Pure) (a0 : Option Addr) (len0 cap0 : Nat) (z0 : List Int) (a1 : Int) (a2 : Int) (w : World) (w0 : (a0 = none ∧ len0 = 0 ∧ cap0 = 0 ∧ z0 = []) ∨ ∃ x, a0 = some x ∧ len0 ≤ cap0 ∧ cap0 ≤ maxLen ∧ z0.length = cap0 ∧ (∀ i, i < z0.length → w.cell? (x.add i) = some (.int .u8 (z0.getD i 0))) ∧ ∀ n ∈ z0, (Lit.int .u8 n).wf = true) (y0 : len0 * 1 ≤ 140737488351232) (w1 : (Lit.int .u16 a1).wf = true) (w2 : (Lit.int .u32 a2).wf = true) :
    Calls Try.prog 4 #[.slice a0 len0 cap0, .int .u16 a1, .int .u32 a2] w fun e w' => e = .returned (.bool true) ∧ Below w.heap.size w w' := by
  obtain ⟨l0, rfl, hr0, hm0, hw0, hc0⟩ := ReadsInt.ofRowC w0
  obtain ⟨k, h⟩ := P l0 a1 a2 hm0 y0 hw0 w1 w2
  refine (diwanlaw2_CrcTurned.calls k _ _ l0 a1 a2 true w (Kd.C_of_reads (d := (0 : Int)) (h1 := fun _ => rfl) hr0) hc0 h).mono ?_
  rintro e w' ⟨rfl, hd⟩
  exact ⟨rfl, hd⟩

/-! ### diwanlaw2_CrcLine: function 5 (by hand) -/
/-- Three texts, place by place. -/
def xorThree (a b c : List Int) : List Int := (List.range 20).map fun (i : Nat) => Go.bits .xor .u8 (Go.bits .xor .u8 (rd a (i : Int)) (rd b (i : Int))) (rd c (i : Int))
def xorThreeTo (a b c : List Int) (i : Nat) : List Int := (xorThree a b c).take i ++ List.replicate (20 - i) 0
theorem xorThree_length (a b c : List Int) : (xorThree a b c).length = 20 := by rw [xorThree, List.length_map, List.length_range]
theorem xorThree_get (a b c : List Int) (i : Nat) (h : i < 20) : (xorThree a b c)[i]? = some (Go.bits .xor .u8 (Go.bits .xor .u8 (rd a (i : Int)) (rd b (i : Int))) (rd c (i : Int))) := by
  rw [xorThree, List.getElem?_map, List.getElem?_range h]
  rfl
theorem xorThreeTo_set (a b c : List Int) (i : Nat) (h : i < 20) : (xorThreeTo a b c i).set i (Go.bits .xor .u8 (Go.bits .xor .u8 (rd a (i : Int)) (rd b (i : Int))) (rd c (i : Int))) = xorThreeTo a b c (i + 1) := by
  have hg := xorThree_get a b c i h
  have hl := xorThree_length a b c
  generalize Go.bits .xor .u8 (Go.bits .xor .u8 (rd a (i : Int)) (rd b (i : Int))) (rd c (i : Int)) = v at hg
  unfold xorThreeTo
  generalize xorThree a b c = l at hg hl
  rw [List.take_add_one, hg, show 20 - i = (20 - (i + 1)) + 1 from by omega, List.replicate_succ]
  have ht : (l.take i).length = i := by rw [List.length_take]; omega
  rw [List.set_append_right _ _ (by omega), ht, Nat.sub_self]
  simp
def diwanlaw2_CrcLine.Pure : Prop := ∀ (a b c : List Int), a.length = 20 → b.length = 20 → c.length = 20 → (∀ z ∈ a, (Lit.int .u8 z).wf = true) → (∀ z ∈ b, (Lit.int .u8 z).wf = true) → (∀ z ∈ c, (Lit.int .u8 z).wf = true) →
  ∃ k p q r s, crc_Sum.f k (xorThree a b c) = some s ∧ crc_Sum.f k a = some p ∧ crc_Sum.f k b = some q ∧ crc_Sum.f k c = some r ∧ (s == Go.bits .xor .u32 (Go.bits .xor .u32 p q) r) = true
theorem cells20 (w : World) (xs : List Int) (g : Nat) (t : TypeId) (hb : w.heap[g]? = some (.cells (xs.map (Value.int .u8)).toArray t (0, 0))) (n : Nat) (hn : n < xs.length) : w.cell? ⟨g, n, none⟩ = some (.int .u8 (rd xs (n : Int))) := by
  rw [blk_cell hb]
  unfold rd
  rw [List.getD_eq_getElem?_getD, Int.toNat_natCast, List.getElem?_eq_getElem hn]
  simp [hn]
theorem read20 (w : World) (xs : List Int) (g : Nat) (t : TypeId) (hb : w.heap[g]? = some (.cells (xs.map (Value.int .u8)).toArray t (0, 0))) (hm : xs.length ≤ 1000) : Kd.C (Kd.int .u8) w (some ⟨g, 0, none⟩) xs.length xs := by
  refine ⟨rfl, by omega, fun _ => ⟨_, rfl, fun j p hj => ⟨[.int .u8 p], rfl, rfl, fun i u hu => ?_⟩⟩⟩
  have hjl := (List.getElem?_eq_some_iff.1 hj).1
  cases i with
  | succ i => simp at hu
  | zero =>
    have hu' : u = .int .u8 p := by simpa using hu.symm
    subst hu'
    have hz : (Kd.int IntKind.u8).sz = 1 := rfl
    rw [hz, Nat.mul_one, Nat.add_zero, add_plain, cells20 w xs g t hb j hjl]
    unfold rd
    rw [List.getD_eq_getElem?_getD, Int.toNat_natCast, hj]
    rfl
theorem put20 (w : World) (xs : List Int) (g : Nat) (t : TypeId) (hb : w.heap[g]? = some (.cells (xs.map (Value.int .u8)).toArray t (0, 0))) (n : Nat) (v : Int) : (w.setCell ⟨g, n, none⟩ (.int .u8 v)).heap[g]? = some (.cells ((xs.set n v).map (Value.int .u8)).toArray t (0, 0)) := by
  have := blk_set hb n (.int .u8 v)
  rw [this]
  simp [List.map_set]
theorem size_alloc (w : World) (o : Obj) : (w.alloc o).heap.size = w.heap.size + 1 := Array.size_push _
theorem sum20 (k : Nat) (xs : List Int) (s : Int) (hn : xs.length = 20) (g : Nat) (t : TypeId) {w : World} (hb : w.heap[g]? = some (.cells (xs.map (Value.int .u8)).toArray t (0, 0))) (hf : crc_Sum.f k xs = some s) (W : World) (hW : W.heap = w.heap) :
    Calls Try.prog 17 #[.slice (some ⟨g, 0, none⟩) 20 20] W fun e w' => e = .returned (.int .u32 s) ∧ Drawn0 W w' := by
  have := crc_Sum.calls k (some ⟨g, 0, none⟩) 20 xs s W (read20 W xs g t (by rw [hW]; exact hb) (by omega)) (by omega) hf
  rw [hn] at this
  exact this
set_option maxHeartbeats 4000000 in
set_option maxRecDepth 100000 in
theorem diwanlaw2_CrcLine.walk (P : diwanlaw2_CrcLine.Pure) (xs0 xs1 xs2 : List Int) (w : World) (hn0 : xs0.length = 20) (hg0 : (∀ z ∈ xs0, (Lit.int .u8 z).wf = true)) (hn1 : xs1.length = 20) (hg1 : (∀ z ∈ xs1, (Lit.int .u8 z).wf = true)) (hn2 : xs2.length = 20) (hg2 : (∀ z ∈ xs2, (Lit.int .u8 z).wf = true)) :
    Calls Try.prog 5 #[.agg (xs0.map (Value.int .u8)).toArray, .agg (xs1.map (Value.int .u8)).toArray, .agg (xs2.map (Value.int .u8)).toArray] w fun e w' => e = .returned (.bool true) ∧ Below w.heap.size w w' := by
  obtain ⟨k, p, q, r, s, e0, e1, e2, e3, e4⟩ := P xs0 xs1 xs2 hn0 hn1 hn2 hg0 hg1 hg2
  have E0 := Aside0.mk e0
  have E1 := Aside0.mk e1
  have E2 := Aside0.mk e2
  have E3 := Aside0.mk e3
  have N0 := Aside0.mk hn0
  have N1 := Aside0.mk hn1
  have N2 := Aside0.mk hn2
  clear e0 e1 e2 e3 hn0 hn1 hn2 hg0 hg1 hg2
  obtain ⟨c0, hc0⟩ : ∃ c0, (xs0.map (Value.int .u8)).toArray = c0 := ⟨_, rfl⟩
  obtain ⟨c1, hc1⟩ : ∃ c1, (xs1.map (Value.int .u8)).toArray = c1 := ⟨_, rfl⟩
  obtain ⟨c2, hc2⟩ : ∃ c2, (xs2.map (Value.int .u8)).toArray = c2 := ⟨_, rfl⟩
  rw [hc0, hc1, hc2]
  have HC0 := Aside0.mk hc0
  have HC1 := Aside0.mk hc1
  have HC2 := Aside0.mk hc2
  clear hc0 hc1 hc2
  go_enter Try.func5, Try.ntmps5
  go_wp2_with fail
  refine (diwanlaw2_begun.calls true _ rfl).mono ?_
  rintro e w1 ⟨rfl, hb1⟩
  have X0 := Aside0.mk (blk_below (blk_alloc (blk_alloc (blk_new w (.cells c0 31)) (.cells c1 31)) (.cells c2 31)) hb1)
  have X1 := Aside0.mk (blk_below (blk_alloc (blk_new (w.alloc (.cells c0 31)) (.cells c1 31)) (.cells c2 31)) hb1)
  have X2 := Aside0.mk (blk_below (blk_new ((w.alloc (.cells c0 31)).alloc (.cells c1 31)) (.cells c2 31)) hb1)
  rw [size_alloc] at X1 X2
  rw [size_alloc] at X2
  have BB := Aside0.mk (below_step (below_alloc (below_alloc (below_alloc (Below.refl _ w) (.cells c0 31)) (.cells c1 31)) (.cells c2 31)) hb1)
  clear hb1
  have zcells : ((xorThreeTo xs0 xs1 xs2 0).map (Value.int .u8)).toArray = #[Value.int IntKind.u8 0, Value.int IntKind.u8 0, Value.int IntKind.u8 0, Value.int IntKind.u8 0, Value.int IntKind.u8 0, Value.int IntKind.u8 0, Value.int IntKind.u8 0, Value.int IntKind.u8 0, Value.int IntKind.u8 0, Value.int IntKind.u8 0, Value.int IntKind.u8 0, Value.int IntKind.u8 0, Value.int IntKind.u8 0, Value.int IntKind.u8 0, Value.int IntKind.u8 0, Value.int IntKind.u8 0, Value.int IntKind.u8 0, Value.int IntKind.u8 0, Value.int IntKind.u8 0, Value.int IntKind.u8 0] := rfl
  have ZC := Aside0.mk zcells
  clear zcells
  have L0 : Aside0 (w.heap.size < w1.heap.size) := ⟨blk_lt X0.out⟩
  have L1 : Aside0 (w.heap.size + 1 < w1.heap.size) := ⟨blk_lt X1.out⟩
  have L2 : Aside0 (w.heap.size + 1 + 1 < w1.heap.size) := ⟨blk_lt X2.out⟩
  rw [← HC0.out] at X0
  rw [← HC1.out] at X1
  rw [← HC2.out] at X2
  go_wp2_with fail
  rw [← ZC.out]
  go_loopg [8] 21 (fun kq v8 w' => ∃ i : Nat, v8 = .int .i64 (i : Int) ∧ Aside0 (kq + i = 21 ∧ i ≤ 20) ∧ Aside0 (w'.heap[w1.heap.size]? = some (.cells ((xorThreeTo xs0 xs1 xs2 i).map (Value.int .u8)).toArray 31 (0, 0))) ∧ Aside0 (w'.heap[w.heap.size]? = some (.cells (xs0.map (Value.int .u8)).toArray 31 (0, 0))) ∧ Aside0 (w'.heap[w.heap.size + 1]? = some (.cells (xs1.map (Value.int .u8)).toArray 31 (0, 0))) ∧ Aside0 (w'.heap[w.heap.size + 1 + 1]? = some (.cells (xs2.map (Value.int .u8)).toArray 31 (0, 0))) ∧ Aside0 (Below w.heap.size w w'))
  case atStart => exact ⟨0, rfl, ⟨rfl, by omega⟩, ⟨blk_new _ _⟩, ⟨blk_alloc X0.out _⟩, ⟨blk_alloc X1.out _⟩, ⟨blk_alloc X2.out _⟩, ⟨below_alloc BB.out _⟩⟩
  case round =>
    clear X0 X1 X2 BB
    obtain ⟨i, rfl, HI, Z, X0, X1, X2, BB⟩ := hrel
    by_cases hi : i < 20
    · have c1 : decide ((i : Int) < 20) = true := decide_eq_true (by omega)
      have c2 : decide (i < 20) = true := decide_eq_true (by omega)
      go_wp2_with fail
      have q0 := cells20 wr xs0 _ 31 X0.out i (by have := N0.out; omega)
      have q1 := cells20 wr xs1 _ 31 X1.out i (by have := N1.out; omega)
      have q2 := cells20 wr xs2 _ 31 X2.out i (by have := N2.out; omega)
      have f0 := blk_frozen X0.out i
      have f1 := blk_frozen X1.out i
      have f2 := blk_frozen X2.out i
      have f3 := blk_frozen Z.out i
      have p0 : (0 ≤ (i : Int)) = True := eq_true (by omega)
      have p1 : ((i : Int) < 20) = True := eq_true (by omega)
      have p2 : (i < 20) = True := eq_true hi
      obtain ⟨u3, q3⟩ : ∃ u, wr.cell? ⟨w1.heap.size, i, none⟩ = some u := ⟨_, cells20 wr _ _ 31 Z.out i (by simp [xorThreeTo, xorThree_length]; omega)⟩
      have S := Aside0.mk (put20 wr _ _ 31 Z.out i (Go.bits .xor .u8 (Go.bits .xor .u8 (rd xs0 (i : Int)) (rd xs1 (i : Int))) (rd xs2 (i : Int))))
      have SB := Aside0.mk (below_set (j := i) (v := .int .u8 (Go.bits .xor .u8 (Go.bits .xor .u8 (rd xs0 (i : Int)) (rd xs1 (i : Int))) (rd xs2 (i : Int)))) BB.out (show w.heap.size ≤ w1.heap.size from by have := L0.out; omega))
      have S0 := Aside0.mk (blk_far X0.out (p := ⟨w1.heap.size, i, none⟩) (Nat.ne_of_lt L0.out) (.int .u8 (Go.bits .xor .u8 (Go.bits .xor .u8 (rd xs0 (i : Int)) (rd xs1 (i : Int))) (rd xs2 (i : Int)))))
      have S1 := Aside0.mk (blk_far X1.out (p := ⟨w1.heap.size, i, none⟩) (Nat.ne_of_lt L1.out) (.int .u8 (Go.bits .xor .u8 (Go.bits .xor .u8 (rd xs0 (i : Int)) (rd xs1 (i : Int))) (rd xs2 (i : Int)))))
      have S2 := Aside0.mk (blk_far X2.out (p := ⟨w1.heap.size, i, none⟩) (Nat.ne_of_lt L2.out) (.int .u8 (Go.bits .xor .u8 (Go.bits .xor .u8 (rd xs0 (i : Int)) (rd xs1 (i : Int))) (rd xs2 (i : Int)))))
      rw [xorThreeTo_set _ _ _ i hi] at S
      go_region
      go_wp2_with fail
      go_roundg (gk - 1)
      case measure => have := HI.out; omega
      case rel => exact ⟨i + 1, rfl, ⟨by have := HI.out; omega⟩, S, S0, S1, S2, ⟨below_drew SB.out⟩⟩
    · have c1 : decide ((i : Int) < 20) = false := decide_eq_false (by omega)
      have c2 : decide (i < 20) = false := decide_eq_false (by omega)
      have hi20 : i = 20 := by have := HI.out; omega
      subst hi20
      have hx : xorThreeTo xs0 xs1 xs2 20 = xorThree xs0 xs1 xs2 := by
        rw [xorThreeTo, show (20 : Nat) - 20 = 0 from rfl, List.replicate_zero, List.append_nil, List.take_of_length_le (by rw [xorThree_length]; omega)]
      rw [hx] at Z
      clear hx
      have hq0 := xorThree_length xs0 xs1 xs2
      have R0 := fun n => sum20 k _ s hq0 _ 31 Z.out E0.out (wr.drewN n) rfl
      have R1 := fun n => sum20 k _ p N0.out _ 31 X0.out E1.out (wr.drewN n) rfl
      have R2 := fun n => sum20 k _ q N1.out _ 31 X1.out E2.out (wr.drewN n) rfl
      have R3 := fun n => sum20 k _ r N2.out _ 31 X2.out E3.out (wr.drewN n) rfl
      clear hq0
      go_wp2_with fail
      repeat (go_quiet (first
        | (go_at_call 17; (with_reducible refine (R0 _).mono ?_); rintro e w' ⟨rfl, ⟨nd, rfl⟩⟩; (try first | exact ⟨rfl, _, World.drewN_drewN _ _ _⟩ | exact ⟨rfl, _, Eq.trans (World.drewN_drewN _ _ _) (congrArg (World.drewN _) (Nat.add_assoc _ _ _))⟩))
        | (go_at_call 17; (with_reducible refine (R1 _).mono ?_); rintro e w' ⟨rfl, ⟨nd, rfl⟩⟩; (try first | exact ⟨rfl, _, World.drewN_drewN _ _ _⟩ | exact ⟨rfl, _, Eq.trans (World.drewN_drewN _ _ _) (congrArg (World.drewN _) (Nat.add_assoc _ _ _))⟩))
        | (go_at_call 17; (with_reducible refine (R2 _).mono ?_); rintro e w' ⟨rfl, ⟨nd, rfl⟩⟩; (try first | exact ⟨rfl, _, World.drewN_drewN _ _ _⟩ | exact ⟨rfl, _, Eq.trans (World.drewN_drewN _ _ _) (congrArg (World.drewN _) (Nat.add_assoc _ _ _))⟩))
        | (go_at_call 17; (with_reducible refine (R3 _).mono ?_); rintro e w' ⟨rfl, ⟨nd, rfl⟩⟩; (try first | exact ⟨rfl, _, World.drewN_drewN _ _ _⟩ | exact ⟨rfl, _, Eq.trans (World.drewN_drewN _ _ _) (congrArg (World.drewN _) (Nat.add_assoc _ _ _))⟩))); try go_wp2)
      go_wp2_with fail
      go_ret
      exact ⟨rfl, pw_below_drewN BB.out _⟩


/-! ### diwanlaw2_CrcForms: function 6 (by hand) -/
def diwanlaw2_CrcForms.f : Option Bool := some true
set_option maxHeartbeats 2000000 in
set_option maxRecDepth 100000 in
theorem diwanlaw2_CrcForms.calls (r : Bool) (w : World) (h : diwanlaw2_CrcForms.f = some r) :
    Calls Try.prog 6 #[] w fun e w' => e = .returned (.bool r) ∧ Below w.heap.size w w' := by
  obtain rfl : true = r := Option.some.inj h
  clear h
  have s1 : Aside0 (crc_Sum.f 64 [0] = some 3523407757) := ⟨by decide +kernel⟩
  have s2 : Aside0 (crc_Sum.f 64 [97] = some 3904355907) := ⟨by decide +kernel⟩
  have s3 : Aside0 (crc_Sum.f 64 [97, 98, 99] = some 891568578) := ⟨by decide +kernel⟩
  have s4 : Aside0 (crc_Sum.f 64 [0, 0, 0, 0] = some 558161692) := ⟨by decide +kernel⟩
  have s5 : Aside0 (crc_Sum.f 64 [255, 255, 255, 255] = some 4294967295) := ⟨by decide +kernel⟩
  have kc := fun (w : World) (C : Array Value) (n c : Nat) => Lib.run_convert_bytes_const (P := Try.prog) w 22 5 C n c Try.underlying22 Try.underlying5
  have hmk : ∀ w, (Instr.makeSlice 22 (.int .i64 4) (.int .i64 4)).run Try.prog w = .ok (.slice (some ⟨w.heap.size, 0, none⟩) 4 4) (w.alloc (.cells #[.int .u8 0, .int .u8 0, .int .u8 0, .int .u8 0] 5)) := fun _ => by kernel_rfl
  go_enter Try.func6, Try.ntmps6
  go_wp2_with fail
  refine (diwanlaw2_begun.calls true _ rfl).mono ?_
  rintro e w1 ⟨rfl, hb1⟩
  go_wp2_with fail
  refine (crc_Sum.calls 64 _ _ _ _ _ (C_laid w1 [0] 5 (0, 0) (by decide)) (by decide) s1.out).mono ?_
  rintro e w2 ⟨rfl, hd2⟩
  have hb2 := below_step hb1 (below_step (below_alloc (Below.refl _ _) _) hd2.below)
  clear hd2
  go_wp2_with fail
  refine (crc_Sum.calls 64 _ _ _ _ _ (C_laid w2 [97] 5 (1, 2) (by decide)) (by decide) s2.out).mono ?_
  rintro e w3 ⟨rfl, hd2⟩
  have hb3 := below_step hb2 (below_step (below_alloc (Below.refl _ _) _) hd2.below)
  clear hd2
  go_wp2_with fail
  refine (crc_Sum.calls 64 _ _ _ _ _ (C_laid w3 [97, 98, 99] 5 (3, 4) (by decide)) (by decide) s3.out).mono ?_
  rintro e w4 ⟨rfl, hd2⟩
  have hb4 := below_step hb3 (below_step (below_alloc (Below.refl _ _) _) hd2.below)
  clear hd2
  go_wp2_with fail
  refine (crc_Sum.calls 64 _ _ _ _ _ (C_laid w4 [0, 0, 0, 0] 5 (0, 0) (by decide)) (by decide) s4.out).mono ?_
  rintro e w5 ⟨rfl, hd2⟩
  have hb5 := below_step hb4 (below_step (below_alloc (Below.refl _ _) _) hd2.below)
  clear hd2
  go_wp2_with fail
  refine (crc_Sum.calls 64 _ _ _ _ _ (C_laid w5 [255, 255, 255, 255] 5 (0, 0) (by decide)) (by decide) s5.out).mono ?_
  rintro e w6 ⟨rfl, hd2⟩
  have hb6 := below_step hb5 (below_step (below_alloc (Below.refl _ _) _) hd2.below)
  clear hd2
  go_wp2_with fail
  go_ret
  exact ⟨rfl, hb6⟩
def diwanlaw2_CrcForms.Pure : Prop := True
theorem diwanlaw2_CrcForms.walk (_P : diwanlaw2_CrcForms.Pure) (w : World) : Calls Try.prog 6 #[] w fun e w' => e = .returned (.bool true) ∧ Below w.heap.size w w' := diwanlaw2_CrcForms.calls true w rfl


/-! ### diwanlaw2_CrcRest: function 7 -/
def diwanlaw2_CrcRest.f (k : Nat) (l0 : List Int) : Option (Bool) := (diwanlaw2_begun.f).bind fun t116 => (if t116 = true then (if (l0.length : Int) > 300 then (some true) else ((crc_Sum.f k l0).bind fun t117 => ((some (([] : List Int) : List Int)).bind fun y118 => (if y118.length + l0.length < 140737488355328 then ((some (y118 ++ l0 : List Int)).bind fun y121 => ((some (([(t117) % 256, (t117 / 256) % 256, (t117 / 65536) % 256, (t117 / 16777216) % 256] : List Int) : List Int)).bind fun y124 => (if y121.length + y124.length < 140737488355328 then ((crc_Sum.f k (y121 ++ y124)).bind fun t130 => (some (t130 == 558161692))) else (none)))) else (none))))) else (some false))
theorem diwanlaw2_CrcRest.mono : ∀ a0 k, LeO (diwanlaw2_CrcRest.f k a0) (diwanlaw2_CrcRest.f (k + 1) a0) := by
  intro a0 k
  unfold diwanlaw2_CrcRest.f
  repeat' first
      | (with_reducible exact crc_Sum.mono _ _)
      | (with_reducible exact LeO.refl _)
      | (with_reducible exact LeO.none _)
      | (with_reducible refine LeO.ite ?_ ?_)
      | (with_reducible refine LeO.bind ?_ (fun _ => ?_))
      | exact crc_Sum.mono _ _
      | exact LeO.none _
      | refine LeO.ite ?_ ?_
      | refine LeO.bind ?_ (fun _ => ?_)
set_option maxHeartbeats 8000000 in
set_option maxRecDepth 100000 in
theorem diwanlaw2_CrcRest.calls (k : Nat) (A0 : Option Addr) (c0 : Nat) (l0 : List Int) (r : Bool) (w : World) (hr0 : Kd.C (Kd.int .u8) w A0 l0.length l0) (hc0 : l0.length ≤ c0) (h : diwanlaw2_CrcRest.f k l0 = some r) :
    Calls Try.prog 7 #[.slice A0 l0.length c0] w fun e w' => e = .returned (.bool r) ∧ Below w.heap.size w w' := by
  have HR0 := Aside0.mk hr0
  have HC0 := Aside0.mk hc0
  clear hr0 hc0
  have HB := Aside0.mk (Below.refl w.heap.size w)
  have H : ((diwanlaw2_begun.f).bind fun t116 => (if t116 = true then (if (l0.length : Int) > 300 then (some true) else ((crc_Sum.f k l0).bind fun t117 => ((some (([] : List Int) : List Int)).bind fun y118 => (if y118.length + l0.length < 140737488355328 then ((some (y118 ++ l0 : List Int)).bind fun y121 => ((some (([(t117) % 256, (t117 / 256) % 256, (t117 / 65536) % 256, (t117 / 16777216) % 256] : List Int) : List Int)).bind fun y124 => (if y121.length + y124.length < 140737488355328 then ((crc_Sum.f k (y121 ++ y124)).bind fun t130 => (some (t130 == 558161692))) else (none)))) else (none))))) else (some false))) = some r := h
  clear h
  replace H := Option.bind_eq_some_iff.mp H
  obtain ⟨t116, A20, H⟩ := H
  replace H : (if t116 = true then (if (l0.length : Int) > 300 then (some true) else ((crc_Sum.f k l0).bind fun t117 => ((some (([] : List Int) : List Int)).bind fun y118 => (if y118.length + l0.length < 140737488355328 then ((some (y118 ++ l0 : List Int)).bind fun y121 => ((some (([(t117) % 256, (t117 / 256) % 256, (t117 / 65536) % 256, (t117 / 16777216) % 256] : List Int) : List Int)).bind fun y124 => (if y121.length + y124.length < 140737488355328 then ((crc_Sum.f k (y121 ++ y124)).bind fun t130 => (some (t130 == 558161692))) else (none)))) else (none))))) else (some false)) = some r := H
  have A2 := Aside0.mk A20
  clear A20
  by_cases c3 : t116 = true
  · subst c3
    have H1 : (if (l0.length : Int) > 300 then (some true) else ((crc_Sum.f k l0).bind fun t117 => ((some (([] : List Int) : List Int)).bind fun y118 => (if y118.length + l0.length < 140737488355328 then ((some (y118 ++ l0 : List Int)).bind fun y121 => ((some (([(t117) % 256, (t117 / 256) % 256, (t117 / 65536) % 256, (t117 / 16777216) % 256] : List Int) : List Int)).bind fun y124 => (if y121.length + y124.length < 140737488355328 then ((crc_Sum.f k (y121 ++ y124)).bind fun t130 => (some (t130 == 558161692))) else (none)))) else (none))))) = some r := by rw [if_pos rfl] at H; exact H
    clear H
    have H := H1
    clear H1
    by_cases c4 : (l0.length : Int) > 300
    · rw [if_pos c4] at H
      have c4b0 : decide (300 < (l0.length : Int)) = true := decide_eq_true c4
      have c4b1 : decide (300 < l0.length) = true := decide_eq_true (by omega)
      clear c4
      obtain rfl := Option.some.inj H
      go_enter Try.func7, Try.ntmps7
      go_wp2_with (first | ((with_reducible refine gate_callee (f := 15) rfl ?_); refine goesL_ (some 5) rfl rfl Try.func15 (by kernel_rfl) rfl #[] rfl (by (try simp only [List.map_toArray, List.map_cons, List.map_nil]); first | done | rfl | (simp only [List.length_drop, List.length_take]; rfl)) ?_; (with_reducible refine (diwanlaw2_begun.calls  true _ A2.out).mono ?_); rintro e w5 ⟨rfl, hb⟩; refine ⟨_, rfl, ?_⟩; have n0_ := Aside0.mk (below_step (by repeat (first | (with_reducible first | exact HB.out | apply below_alloc | apply pw_below_drewN | apply below_drew1) | exact HB.out)) hb); clear HB; have HB := n0_; clear n0_; (try clear hb); (try clear hb2); (try clear hk); (try clear hi)))
      go_ret
      exact ⟨by first | rfl | (simp [errW_none, errW_some] <;> rfl) | (simp [*, errW_none, errW_some] <;> rfl), by repeat (first | (with_reducible first | exact HB.out | apply below_alloc | apply pw_below_drewN | apply below_drew1) | exact HB.out)⟩
    · rw [if_neg c4] at H
      have c4b0 : decide (300 < (l0.length : Int)) = false := decide_eq_false c4
      have c4b1 : decide (300 < l0.length) = false := decide_eq_false (by omega)
      clear c4
      replace H := Option.bind_eq_some_iff.mp H
      obtain ⟨t117, A60, H⟩ := H
      replace H : ((some (([] : List Int) : List Int)).bind fun y118 => (if y118.length + l0.length < 140737488355328 then ((some (y118 ++ l0 : List Int)).bind fun y121 => ((some (([(t117) % 256, (t117 / 256) % 256, (t117 / 65536) % 256, (t117 / 16777216) % 256] : List Int) : List Int)).bind fun y124 => (if y121.length + y124.length < 140737488355328 then ((crc_Sum.f k (y121 ++ y124)).bind fun t130 => (some (t130 == 558161692))) else (none)))) else (none))) = some r := H
      have A6 := Aside0.mk A60
      clear A60
      obtain ⟨y118, hy118⟩ : ∃ y_ : List Int, y_ = (([] : List Int)) := ⟨_, rfl⟩
      replace H : (if y118.length + l0.length < 140737488355328 then ((some (y118 ++ l0 : List Int)).bind fun y121 => ((some (([(t117) % 256, (t117 / 256) % 256, (t117 / 65536) % 256, (t117 / 16777216) % 256] : List Int) : List Int)).bind fun y124 => (if y121.length + y124.length < 140737488355328 then ((crc_Sum.f k (y121 ++ y124)).bind fun t130 => (some (t130 == 558161692))) else (none)))) else (none)) = some r := by first | (rw [hy118]; with_reducible exact H) | (have H2_ := (Option.bind_some _ _).symm.trans H; rw [hy118]; with_reducible exact H2_) | (have H2_ := (Option.bind_some _ _).symm.trans H; with_reducible exact H2_) | with_reducible exact H | (rw [hy118]; exact H) | exact H
      have Ny118 := Aside0.mk hy118
      clear hy118
      by_cases c7 : y118.length + l0.length < 140737488355328
      · rw [if_pos c7] at H
        have LMc7 := Aside0.mk c7
        clear c7
        obtain ⟨y121, hy121⟩ : ∃ y_ : List Int, y_ = (y118 ++ l0) := ⟨_, rfl⟩
        replace H : ((some (([(t117) % 256, (t117 / 256) % 256, (t117 / 65536) % 256, (t117 / 16777216) % 256] : List Int) : List Int)).bind fun y124 => (if y121.length + y124.length < 140737488355328 then ((crc_Sum.f k (y121 ++ y124)).bind fun t130 => (some (t130 == 558161692))) else (none))) = some r := by first | (rw [hy121]; with_reducible exact H) | (have H2_ := (Option.bind_some _ _).symm.trans H; rw [hy121]; with_reducible exact H2_) | (have H2_ := (Option.bind_some _ _).symm.trans H; with_reducible exact H2_) | with_reducible exact H | (rw [hy121]; exact H) | exact H
        have Ny121 := Aside0.mk hy121
        clear hy121
        obtain ⟨y124, hy124⟩ : ∃ y_ : List Int, y_ = (([(t117) % 256, (t117 / 256) % 256, (t117 / 65536) % 256, (t117 / 16777216) % 256] : List Int)) := ⟨_, rfl⟩
        replace H : (if y121.length + y124.length < 140737488355328 then ((crc_Sum.f k (y121 ++ y124)).bind fun t130 => (some (t130 == 558161692))) else (none)) = some r := by first | (rw [hy124]; with_reducible exact H) | (have H2_ := (Option.bind_some _ _).symm.trans H; rw [hy124]; with_reducible exact H2_) | (have H2_ := (Option.bind_some _ _).symm.trans H; with_reducible exact H2_) | with_reducible exact H | (rw [hy124]; exact H) | exact H
        have Ny124 := Aside0.mk hy124
        clear hy124
        by_cases c8 : y121.length + y124.length < 140737488355328
        · rw [if_pos c8] at H
          have LMc8 := Aside0.mk c8
          clear c8
          obtain ⟨y127, hy127⟩ : ∃ y_ : List Int, y_ = (y121 ++ y124) := ⟨_, rfl⟩
          replace H : ((crc_Sum.f k y127).bind fun t130 => (some (t130 == 558161692))) = some r := by first | (rw [hy127]; with_reducible exact H) | (have H2_ := (Option.bind_some _ _).symm.trans H; rw [hy127]; with_reducible exact H2_) | (have H2_ := (Option.bind_some _ _).symm.trans H; with_reducible exact H2_) | with_reducible exact H | (rw [hy127]; exact H) | exact H
          have Ny127 := Aside0.mk hy127
          clear hy127
          replace H := Option.bind_eq_some_iff.mp H
          obtain ⟨t130, A90, H⟩ := H
          replace H : (some (t130 == 558161692)) = some r := H
          have A9 := Aside0.mk A90
          clear A90
          obtain rfl := Option.some.inj H
          go_enter Try.func7, Try.ntmps7
          go_wp2_with (first | ((with_reducible refine gate_callee (f := 15) rfl ?_); refine goesL_ (some 5) rfl rfl Try.func15 (by kernel_rfl) rfl #[] rfl (by (try simp only [List.map_toArray, List.map_cons, List.map_nil]); first | done | rfl | (simp only [List.length_drop, List.length_take]; rfl)) ?_; (with_reducible refine (diwanlaw2_begun.calls  true _ A2.out).mono ?_); rintro e w10 ⟨rfl, hb⟩; refine ⟨_, rfl, ?_⟩; have n0_ := Aside0.mk (below_step (by repeat (first | (with_reducible first | exact HB.out | apply below_alloc | apply pw_below_drewN | apply below_drew1) | exact HB.out)) hb); clear HB; have HB := n0_; clear n0_; (try clear hb); (try clear hb2); (try clear hk); (try clear hi)) | ((with_reducible refine gate_callee (f := 17) rfl ?_); refine goesL_ (some 11) rfl rfl Try.func17 (by kernel_rfl) rfl #[.slice A0 l0.length c0] rfl (by (try simp only [List.map_toArray, List.map_cons, List.map_nil]); first | done | rfl | (simp only [List.length_drop, List.length_take]; rfl)) ?_; (with_reducible refine (crc_Sum.calls k _ _ l0 t117 _ ?side1 ?side2 A6.out).mono ?_); (case side1 => repeat (first | exact (Kd.C_below HR0.out HB.out) | (with_reducible refine Kd.C_alloc ?_ _) | (with_reducible refine Kd.C_drewN ?_ _) | (with_reducible refine Kd.C_drew ?_))); (case side2 => exact HC0.out); rintro e w' ⟨rfl, ⟨nd, rfl⟩⟩; refine ⟨_, rfl, ?_⟩) | ((with_reducible refine gate_dst (N := 12) rfl ?_); refine Kd.R_lit (Kd.int .u8) _ 5 ?hg (N := 12) ?hd (xs := ([] : List Int)) (inner := []) (ok := fun _ => True) (okp := fun _ => True) ?hr ?hp (fun _ hk => hk) trivial (Below.refl _ _) (Nat.le_refl _) (by simp) ?_; (case hd => rfl); (case hg => rfl); (case hr => first | (go_simp; done) | (go_simp; rfl)); (case hp => exact (Reps.none _ _)); intro v119 w11 ho12 hb hg_ hnew_; clear hg_ hnew_; (first | rw [← Ny118.out] at ho12 | (simp only [Int.reduceToNat] at ho12; rw [← Ny118.out] at ho12)); have n0_ := Aside0.mk (Kd.R_lower ho12 (below_size (by repeat (first | (with_reducible first | exact HB.out | apply below_alloc | apply pw_below_drewN | apply below_drew1) | exact HB.out)))); have n1_ := Aside0.mk (below_step (by repeat (first | (with_reducible first | exact HB.out | apply below_alloc | apply pw_below_drewN | apply below_drew1) | exact HB.out)) hb); clear HB; have HO120 := n0_; have HB := n1_; clear n0_ n1_; clear hb ho12) | ((with_reducible refine gate_builtin (b := .append) (xs := #[.tmp 12, .tmp 13]) rfl ?_); at_builtin; refine Kd.R_append_rows (Kd.int .u8) (w0 := w) w.heap.size rfl (.tmp 12) (.tmp 13) 22 5 (.int .u8 0) 1 rfl Try.underlying22 info5 rfl (by decide) (by omega) v119 y118 l0 _ _ _ (fun _ => True) (fun _ => False) rfl rfl ?aO ?aR (fun _ _ h => h) (fun _ h => h.elim) ?aF ?aB ?aS ?aL ?_; (case aR => repeat (first | exact (Kd.C_below HR0.out HB.out) | (with_reducible refine Kd.C_alloc ?_ _) | (with_reducible refine Kd.C_drewN ?_ _) | (with_reducible refine Kd.C_drew ?_))); (case aB => exact (by repeat (first | (with_reducible first | exact HB.out | apply below_alloc | apply pw_below_drewN | apply below_drew1) | exact HB.out))); (case aF => exact (fun _ _ => trivial)); (case aO => exact (by (with_reducible repeat (first | apply Kd.R_alloc | apply Kd.R_drewN | apply Kd.R_drew)); exact HO120.out)); (case aS => exact (below_size (by repeat (first | (with_reducible first | exact HB.out | apply below_alloc | apply pw_below_drewN | apply below_drew1) | exact HB.out)))); (case aL => have := LMc7.out; omega); intro v122 w13 ho hb hg hat; rw [← Ny121.out] at ho; have n0_ := Aside0.mk (hb); have n1_ := Aside0.mk (ho); clear HB; clear HO120; have HB := n0_; have HO123 := n1_; clear n0_ n1_; clear ho hb hg hat) | ((with_reducible refine gate_dst (N := 26) rfl ?_); refine Kd.R_lit (Kd.int .u8) _ 5 ?hg (N := 26) ?hd (xs := ([(t117) % 256, (t117 / 256) % 256, (t117 / 65536) % 256, (t117 / 16777216) % 256] : List Int)) (inner := [.int .u8 ((t117) % 256), .int .u8 ((t117 / 256) % 256), .int .u8 ((t117 / 65536) % 256), .int .u8 ((t117 / 16777216) % 256)]) (ok := fun _ => True) (okp := fun _ => True) ?hr ?hp (fun _ hk => hk) trivial (Below.refl _ _) (Nat.le_refl _) (by simp) ?_; (case hd => rfl); (case hg => rfl); (case hr => first | (go_simp; done) | (go_simp; rfl)); (case hp => exact (Reps.one (show Kd.M (Kd.int .u8) _ _ _ ((t117) % 256) [.int .u8 ((t117) % 256)] from rfl) (Reps.one (show Kd.M (Kd.int .u8) _ _ _ ((t117 / 256) % 256) [.int .u8 ((t117 / 256) % 256)] from rfl) (Reps.one (show Kd.M (Kd.int .u8) _ _ _ ((t117 / 65536) % 256) [.int .u8 ((t117 / 65536) % 256)] from rfl) (Reps.one (show Kd.M (Kd.int .u8) _ _ _ ((t117 / 16777216) % 256) [.int .u8 ((t117 / 16777216) % 256)] from rfl) (Reps.none _ _)))))); intro v125 w14 ho15 hb hg_ hnew_; clear hg_ hnew_; (first | rw [← Ny124.out] at ho15 | (simp only [Int.reduceToNat] at ho15; rw [← Ny124.out] at ho15)); have n0_ := Aside0.mk (Kd.R_elder' (by (with_reducible repeat (first | apply Kd.R_alloc | apply Kd.R_drewN | apply Kd.R_drew)); exact HO123.out) (Kd.R_base ho15) hb); have n1_ := Aside0.mk (Kd.R_lower (Kd.R_new' ho15 (Kd.R_lt (by (with_reducible repeat (first | apply Kd.R_alloc | apply Kd.R_drewN | apply Kd.R_drew)); exact HO123.out))) (below_size (by repeat (first | (with_reducible first | exact HB.out | apply below_alloc | apply pw_below_drewN | apply below_drew1) | exact HB.out)))); have n2_ := Aside0.mk (below_step (by repeat (first | (with_reducible first | exact HB.out | apply below_alloc | apply pw_below_drewN | apply below_drew1) | exact HB.out)) hb); clear HO123; clear HB; have HO123 := n0_; have HO126 := n1_; have HB := n2_; clear n0_ n1_ n2_; clear hb ho15; obtain ⟨Ao17, co17, eo17⟩ := Kd.R_slice HO126.out; subst eo17) | ((with_reducible refine gate_builtin (b := .append) (xs := #[.tmp 14, .tmp 26]) rfl ?_); at_builtin; refine Kd.R_append_rows (Kd.int .u8) (w0 := w) w.heap.size rfl (.tmp 14) (.tmp 26) 22 5 (.int .u8 0) 1 rfl Try.underlying22 info5 rfl (by decide) (by omega) v122 y121 y124 _ _ _ (fun k_ => some k_ ≠ (.slice Ao17 y124.length co17 : Value).ownBlock) (fun _ => False) rfl rfl ?aO ?aR (fun _ _ h => h) (fun _ h => h.elim) ?aF ?aB ?aS ?aL ?_; (case aR => repeat (first | exact (Kd.R_reads' HO126.out).2.2 | (with_reducible refine Kd.C_alloc ?_ _) | (with_reducible refine Kd.C_drewN ?_ _) | (with_reducible refine Kd.C_drew ?_))); (case aB => exact (by repeat (first | (with_reducible first | exact HB.out | apply below_alloc | apply pw_below_drewN | apply below_drew1) | exact HB.out))); (case aF => exact (fun k_ hk => Kd.fresh' (Kd.R_lt (by (with_reducible repeat (first | apply Kd.R_alloc | apply Kd.R_drewN | apply Kd.R_drew)); exact HO126.out)) k_ hk)); (case aO => exact (by (with_reducible repeat (first | apply Kd.R_alloc | apply Kd.R_drewN | apply Kd.R_drew)); exact Kd.R_mono HO123.out (fun _ hk => hk.2))); (case aS => exact (below_size (by repeat (first | (with_reducible first | exact HB.out | apply below_alloc | apply pw_below_drewN | apply below_drew1) | exact HB.out)))); (case aL => have := LMc8.out; omega); intro v128 w16 ho hb hg hat; rw [← Ny127.out] at ho; have n0_ := Aside0.mk (Kd.R_after (ok := (fun _ => True)) (by (with_reducible repeat (first | apply Kd.R_alloc | apply Kd.R_drewN | apply Kd.R_drew)); exact HO126.out) hg hat); have n1_ := Aside0.mk (hb); have n2_ := Aside0.mk (ho); clear HO126; clear HB; clear HO123; have HO126 := n0_; have HB := n1_; have HO129 := n2_; clear n0_ n1_ n2_; clear ho hb hg hat; obtain ⟨Ao18, co18, eo18⟩ := Kd.R_slice HO129.out; subst eo18) | ((with_reducible refine gate_callee (f := 17) rfl ?_); refine goesL_ (some 29) rfl rfl Try.func17 (by kernel_rfl) rfl #[.slice Ao18 y127.length co18] rfl (by (try simp only [List.map_toArray, List.map_cons, List.map_nil]); first | done | rfl | (simp only [List.length_drop, List.length_take]; rfl)) ?_; (with_reducible refine (crc_Sum.calls k _ _ y127 t130 _ ?side1 ?side2 A9.out).mono ?_); (case side1 => repeat (first | exact (Kd.R_reads' HO129.out).2.2 | (with_reducible refine Kd.C_alloc ?_ _) | (with_reducible refine Kd.C_drewN ?_ _) | (with_reducible refine Kd.C_drew ?_))); (case side2 => exact (Kd.R_reads' HO129.out).2.1); rintro e w' ⟨rfl, ⟨nd, rfl⟩⟩; refine ⟨_, rfl, ?_⟩))
          go_ret
          exact ⟨by first | rfl | (simp [errW_none, errW_some] <;> rfl) | (simp [*, errW_none, errW_some] <;> rfl), by repeat (first | (with_reducible first | exact HB.out | apply below_alloc | apply pw_below_drewN | apply below_drew1) | exact HB.out)⟩
        · rw [if_neg c8] at H
          exact absurd H (by simp)
      · rw [if_neg c7] at H
        exact absurd H (by simp)
  · replace c3 := Bool.eq_false_iff.mpr c3
    subst c3
    have H1 : (some false) = some r := by rw [if_neg (show ¬ (false = true) by decide)] at H; exact H
    clear H
    have H := H1
    clear H1
    obtain rfl := Option.some.inj H
    go_enter Try.func7, Try.ntmps7
    go_wp2_with (first | ((with_reducible refine gate_callee (f := 15) rfl ?_); refine goesL_ (some 5) rfl rfl Try.func15 (by kernel_rfl) rfl #[] rfl (by (try simp only [List.map_toArray, List.map_cons, List.map_nil]); first | done | rfl | (simp only [List.length_drop, List.length_take]; rfl)) ?_; (with_reducible refine (diwanlaw2_begun.calls  false _ A2.out).mono ?_); rintro e w19 ⟨rfl, hb⟩; refine ⟨_, rfl, ?_⟩; have n0_ := Aside0.mk (below_step (by repeat (first | (with_reducible first | exact HB.out | apply below_alloc | apply pw_below_drewN | apply below_drew1) | exact HB.out)) hb); clear HB; have HB := n0_; clear n0_; (try clear hb); (try clear hb2); (try clear hk); (try clear hi)))
    go_ret
    exact ⟨by first | rfl | (simp [errW_none, errW_some] <;> rfl) | (simp [*, errW_none, errW_some] <;> rfl), by repeat (first | (with_reducible first | exact HB.out | apply below_alloc | apply pw_below_drewN | apply below_drew1) | exact HB.out)⟩

/-- THE ONE PURE STATEMENT of diwanlaw2_CrcRest: yours. -/
def diwanlaw2_CrcRest.Pure : Prop := ∀ (l0 : List Int), l0.length ≤ maxLen → l0.length * 1 ≤ 140737488351232 → (∀ x ∈ l0, (Lit.int .u8 x).wf = true) → ∃ k, diwanlaw2_CrcRest.f k l0 = some true
theorem diwanlaw2_CrcRest.walk (P : diwanlaw2_CrcRest.Pure) (a0 : Option Addr) (len0 cap0 : Nat) (z0 : List Int) (w : World) (w0 : (a0 = none ∧ len0 = 0 ∧ cap0 = 0 ∧ z0 = []) ∨ ∃ x, a0 = some x ∧ len0 ≤ cap0 ∧ cap0 ≤ maxLen ∧ z0.length = cap0 ∧ (∀ i, i < z0.length → w.cell? (x.add i) = some (.int .u8 (z0.getD i 0))) ∧ ∀ n ∈ z0, (Lit.int .u8 n).wf = true) (y0 : len0 * 1 ≤ 140737488351232) :
    Calls Try.prog 7 #[.slice a0 len0 cap0] w fun e w' => e = .returned (.bool true) ∧ Below w.heap.size w w' := by
  obtain ⟨l0, rfl, hr0, hm0, hw0, hc0⟩ := ReadsInt.ofRowC w0
  obtain ⟨k, h⟩ := P l0 hm0 y0 hw0
  refine (diwanlaw2_CrcRest.calls k _ _ l0 true w (Kd.C_of_reads (d := (0 : Int)) (h1 := fun _ => rfl) hr0) hc0 h).mono ?_
  rintro e w' ⟨rfl, hd⟩
  exact ⟨rfl, hd⟩

end Go.Proofs.Ytggffmcfkcjeaaa.PCrc
