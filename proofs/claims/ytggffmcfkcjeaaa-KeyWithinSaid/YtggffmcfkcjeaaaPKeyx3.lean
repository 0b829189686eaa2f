/- Written by a program of this session (pp.py over the kit's print.py): functions as they are printed, the walks, the rows. No condition beyond those that each theorem states. -/
import Derived.Test.YtggffmcfkcjeaaaPKeyx0
import Derived.Test.YtggffmcfkcjeaaaPKeyx1
namespace Go.Proofs.Ytggffmcfkcjeaaa.PKey
open Go.RowKit Go.Proofs.YtggffmcfkcjeaaaW.PrintWords Go.Proofs.YtggffmcfkcjeaaaW.PrintLast Go.Proofs.YtggffmcfkcjeaaaW.PrintMore
attribute [local go_sem] max2_int min2_int max_two min_two max_three min_three max_four min_four   -- for this text's walks alone
set_option linter.unusedVariables false
set_option linter.unusedSimpArgs false

/-! ### diwanlaw4_KeyWithin: function 11 -/
def diwanlaw4_KeyWithin.j0 : Nat → ByteArray → ByteArray → ByteArray → ByteArray → ByteArray → Bool → Option (Bool)
  | 0, _, _, _, _, _, _ => none
  | k + 1, x0, x1, x2, x3, x4, x11 => if x11 = true then ((key_Within.f x0 x3 x4).bind fun t134 => (if t134 = true then ((key_Within.f x2 x3 x4).bind fun t135 => (if t135 = true then ((key_Within.f x1 x3 x4).bind fun t136 => (if t136 = true then ((key_Within.f x0 x0 (⟨#[]⟩ : ByteArray)).bind fun t137 => (if t137 = true then (if x3.toList = ([] : List UInt8) then (some true) else ((key_Within.f x0 x3 x3).bind fun t138 => (some (!t138)))) else (some false))) else (some false))) else ((key_Within.f x0 x0 (⟨#[]⟩ : ByteArray)).bind fun t139 => (if t139 = true then (if x3.toList = ([] : List UInt8) then (some true) else ((key_Within.f x0 x3 x3).bind fun t140 => (some (!t140)))) else (some false))))) else ((key_Within.f x0 x0 (⟨#[]⟩ : ByteArray)).bind fun t141 => (if t141 = true then (if x3.toList = ([] : List UInt8) then (some true) else ((key_Within.f x0 x3 x3).bind fun t142 => (some (!t142)))) else (some false))))) else ((key_Within.f x0 x0 (⟨#[]⟩ : ByteArray)).bind fun t143 => (if t143 = true then (if x3.toList = ([] : List UInt8) then (some true) else ((key_Within.f x0 x3 x3).bind fun t144 => (some (!t144)))) else (some false)))
def diwanlaw4_KeyWithin.f (k : Nat) (a0 : ByteArray) (a1 : ByteArray) (a2 : ByteArray) (a3 : ByteArray) (a4 : ByteArray) : Option (Bool) := (diwanlaw4_begun.f k).bind fun t133 => (if t133 = true then (if (wrap64 ((wrap64 ((wrap64 ((wrap64 ((a0.size : Int) + (a1.size : Int))) + (a2.size : Int))) + (a3.size : Int))) + (a4.size : Int))) > 100 then (some true) else (if ((Op.bytesLess a1.toList a0.toList) = true) then (diwanlaw4_KeyWithin.j0 k a0 a1 a2 a3 a4 false) else (diwanlaw4_KeyWithin.j0 k a0 a1 a2 a3 a4 (!(Op.bytesLess a2.toList a1.toList))))) else (some false))
theorem diwanlaw4_KeyWithin.mono_l : ∀ k, (∀ y0 y1 y2 y3 y4 y5, LeO (diwanlaw4_KeyWithin.j0 k y0 y1 y2 y3 y4 y5) (diwanlaw4_KeyWithin.j0 (k + 1) y0 y1 y2 y3 y4 y5))
  | 0 => fun _ _ _ _ _ _ r h => by simp [diwanlaw4_KeyWithin.j0] at h
  | k + 1 => by
    have ih0 := diwanlaw4_KeyWithin.mono_l k
    · intro y0 y1 y2 y3 y4 y5
      unfold diwanlaw4_KeyWithin.j0
      repeat' first
      | (with_reducible exact ih0 _ _ _ _ _ _)
      | (with_reducible exact diwanlaw4_begun.mono _)
      | (with_reducible exact LeO.refl _)
      | (with_reducible exact LeO.none _)
      | (with_reducible refine LeO.ite ?_ ?_)
      | (with_reducible refine LeO.bind ?_ (fun _ => ?_))
      | exact ih0 _ _ _ _ _ _
      | exact diwanlaw4_begun.mono _
      | exact LeO.none _
      | refine LeO.ite ?_ ?_
      | refine LeO.bind ?_ (fun _ => ?_)
theorem diwanlaw4_KeyWithin.mono : ∀ a0 a1 a2 a3 a4 k, LeO (diwanlaw4_KeyWithin.f k a0 a1 a2 a3 a4) (diwanlaw4_KeyWithin.f (k + 1) a0 a1 a2 a3 a4) := by
  intro a0 a1 a2 a3 a4 k
  have ih0 := diwanlaw4_KeyWithin.mono_l k
  unfold diwanlaw4_KeyWithin.f
  repeat' first
      | (with_reducible exact ih0 _ _ _ _ _ _)
      | (with_reducible exact diwanlaw4_begun.mono _)
      | (with_reducible exact LeO.refl _)
      | (with_reducible exact LeO.none _)
      | (with_reducible refine LeO.ite ?_ ?_)
      | (with_reducible refine LeO.bind ?_ (fun _ => ?_))
      | exact ih0 _ _ _ _ _ _
      | exact diwanlaw4_begun.mono _
      | exact LeO.none _
      | refine LeO.ite ?_ ?_
      | refine LeO.bind ?_ (fun _ => ?_)
set_option maxHeartbeats 8000000 in
set_option maxRecDepth 100000 in
theorem diwanlaw4_KeyWithin.calls (k : Nat) (a0 : ByteArray) (a1 : ByteArray) (a2 : ByteArray) (a3 : ByteArray) (a4 : ByteArray) (r : Bool) (w : World) (h : diwanlaw4_KeyWithin.f k a0 a1 a2 a3 a4 = some r) :
    Calls Try.prog 11 #[.string a0, .string a1, .string a2, .string a3, .string a4] w fun e w' => e = .returned (.bool r) ∧ Below w.heap.size w w' := by
  have HB := Aside0.mk (Below.refl w.heap.size w)
  have H : ((diwanlaw4_begun.f k).bind fun t133 => (if t133 = true then (if (wrap64 ((wrap64 ((wrap64 ((wrap64 ((a0.size : Int) + (a1.size : Int))) + (a2.size : Int))) + (a3.size : Int))) + (a4.size : Int))) > 100 then (some true) else (if ((Op.bytesLess a1.toList a0.toList) = true) then (diwanlaw4_KeyWithin.j0 k a0 a1 a2 a3 a4 false) else (diwanlaw4_KeyWithin.j0 k a0 a1 a2 a3 a4 (!(Op.bytesLess a2.toList a1.toList))))) else (some false))) = some r := h
  clear h
  replace H := Option.bind_eq_some_iff.mp H
  obtain ⟨t133, A60, H⟩ := H
  replace H : (if t133 = true then (if (wrap64 ((wrap64 ((wrap64 ((wrap64 ((a0.size : Int) + (a1.size : Int))) + (a2.size : Int))) + (a3.size : Int))) + (a4.size : Int))) > 100 then (some true) else (if ((Op.bytesLess a1.toList a0.toList) = true) then (diwanlaw4_KeyWithin.j0 k a0 a1 a2 a3 a4 false) else (diwanlaw4_KeyWithin.j0 k a0 a1 a2 a3 a4 (!(Op.bytesLess a2.toList a1.toList))))) else (some false)) = some r := H
  have A6 := Aside0.mk A60
  clear A60
  by_cases c7 : t133 = true
  · subst c7
    have H1 : (if (wrap64 ((wrap64 ((wrap64 ((wrap64 ((a0.size : Int) + (a1.size : Int))) + (a2.size : Int))) + (a3.size : Int))) + (a4.size : Int))) > 100 then (some true) else (if ((Op.bytesLess a1.toList a0.toList) = true) then (diwanlaw4_KeyWithin.j0 k a0 a1 a2 a3 a4 false) else (diwanlaw4_KeyWithin.j0 k a0 a1 a2 a3 a4 (!(Op.bytesLess a2.toList a1.toList))))) = some r := by rw [if_pos rfl] at H; exact H
    clear H
    have H := H1
    clear H1
    by_cases c8 : (wrap64 ((wrap64 ((wrap64 ((wrap64 ((a0.size : Int) + (a1.size : Int))) + (a2.size : Int))) + (a3.size : Int))) + (a4.size : Int))) > 100
    · rw [if_pos c8] at H
      have c8b0 : decide (100 < (wrap64 ((wrap64 ((wrap64 ((wrap64 ((a0.size : Int) + (a1.size : Int))) + (a2.size : Int))) + (a3.size : Int))) + (a4.size : Int)))) = true := decide_eq_true c8
      clear c8
      obtain rfl := Option.some.inj H
      go_enter Try.func11, Try.ntmps11
      go_wp2_with (first | ((with_reducible refine gate_callee (f := 20) rfl ?_); refine goesL_ (some 12) rfl rfl Try.func20 (by kernel_rfl) rfl #[] rfl (by (try simp only [List.map_toArray, List.map_cons, List.map_nil]); first | done | rfl | (simp only [List.length_drop, List.length_take]; rfl)) ?_; (with_reducible refine (diwanlaw4_begun.calls k  true _ A6.out).mono ?_); rintro e w9 ⟨rfl, hb⟩; refine ⟨_, rfl, ?_⟩; have n0_ := Aside0.mk (below_step (by repeat (first | (with_reducible first | exact HB.out | apply below_alloc | apply pw_below_drewN | apply below_drew1) | exact HB.out)) hb); clear HB; have HB := n0_; clear n0_; (try clear hb); (try clear hb2); (try clear hk); (try clear hi)))
      go_ret
      exact ⟨by first | rfl | (simp [errW_none, errW_some] <;> rfl) | (simp [*, errW_none, errW_some] <;> rfl), by repeat (first | (with_reducible first | exact HB.out | apply below_alloc | apply pw_below_drewN | apply below_drew1) | exact HB.out)⟩
    · rw [if_neg c8] at H
      have c8b0 : decide (100 < (wrap64 ((wrap64 ((wrap64 ((wrap64 ((a0.size : Int) + (a1.size : Int))) + (a2.size : Int))) + (a3.size : Int))) + (a4.size : Int)))) = false := decide_eq_false c8
      clear c8
      have HC10 := Aside0.mk H
      clear H
      go_enter Try.func11, Try.ntmps11
      go_upto_region 5 with (first | ((with_reducible refine gate_callee (f := 20) rfl ?_); refine goesL_ (some 12) rfl rfl Try.func20 (by kernel_rfl) rfl #[] rfl (by (try simp only [List.map_toArray, List.map_cons, List.map_nil]); first | done | rfl | (simp only [List.length_drop, List.length_take]; rfl)) ?_; (with_reducible refine (diwanlaw4_begun.calls k  true _ A6.out).mono ?_); rintro e w11 ⟨rfl, hb⟩; refine ⟨_, rfl, ?_⟩; have n0_ := Aside0.mk (below_step (by repeat (first | (with_reducible first | exact HB.out | apply below_alloc | apply pw_below_drewN | apply below_drew1) | exact HB.out)) hb); clear HB; have HB := n0_; clear n0_; (try clear hb); (try clear hb2); (try clear hk); (try clear hi)))
      (try simp only [Act.put, List.setIfInBounds_toArray, List.set_cons_zero, List.set_cons_succ])
      go_cut [11] (fun v11 wc => ∃ (kq : Nat) (x11_9 : Bool), v11 = .bool x11_9 ∧ Aside0 (diwanlaw4_KeyWithin.j0 kq a0 a1 a2 a3 a4 x11_9 = some r) ∧ Aside0 (kq ≤ k) ∧ Aside0 (Below w.heap.size w wc))
      case first =>
        have H := HC10.out
        clear HC10
        by_cases c12 : ((Op.bytesLess a1.toList a0.toList) = true)
        · rw [if_pos c12] at H
          have c12b0 : (Op.bytesLess a1.toList a0.toList) = true := c12
          clear c12
          (first | rw [c12b0] | (simp only [i64_w, i32_w]; rw [c12b0]) | skip)
          have H' := Aside0.mk H
          clear H
          go_wp2
          go_meet
          case rel => exact ⟨_, (false), (by first | rfl | (simp; done) | (simp [*]; done)), H', ⟨by first | omega | exact Nat.le_refl _⟩, ⟨by repeat (first | (with_reducible first | exact HB.out | apply below_alloc | apply pw_below_drewN | apply below_drew1) | exact HB.out)⟩⟩
        · rw [if_neg c12] at H
          have c12b0 : (Op.bytesLess a1.toList a0.toList) = false := by simpa using c12
          clear c12
          (first | rw [c12b0] | (simp only [i64_w, i32_w]; rw [c12b0]) | skip)
          have H' := Aside0.mk H
          clear H
          go_wp2
          go_meet
          case rel => exact ⟨_, (!(Op.bytesLess a2.toList a1.toList)), (by first | rfl | (simp; done) | (simp [*]; done)), H', ⟨by first | omega | exact Nat.le_refl _⟩, ⟨by repeat (first | (with_reducible first | exact HB.out | apply below_alloc | apply pw_below_drewN | apply below_drew1) | exact HB.out)⟩⟩
      case rest =>
        clear HC10
        try clear c1
        try clear c2
        try clear p2
        try clear p6
        try clear c7
        try clear c8
        try clear c8b0
        try clear c11
        try clear c12
        try clear c12b0
        obtain ⟨kq, x11_9, rfl, HA, HJ9, HB⟩ := hcut
        cases kq with
        | zero => exact absurd HA.out (by simp [diwanlaw4_KeyWithin.j0])
        | succ kj9 =>
          have H := HA.out
          clear HA
          simp only [diwanlaw4_KeyWithin.j0] at H
          by_cases c13 : x11_9 = true
          · subst c13
            have H1 : ((key_Within.f a0 a3 a4).bind fun t134 => (if t134 = true then ((key_Within.f a2 a3 a4).bind fun t135 => (if t135 = true then ((key_Within.f a1 a3 a4).bind fun t136 => (if t136 = true then ((key_Within.f a0 a0 (⟨#[]⟩ : ByteArray)).bind fun t137 => (if t137 = true then (if a3.toList = ([] : List UInt8) then (some true) else ((key_Within.f a0 a3 a3).bind fun t138 => (some (!t138)))) else (some false))) else (some false))) else ((key_Within.f a0 a0 (⟨#[]⟩ : ByteArray)).bind fun t139 => (if t139 = true then (if a3.toList = ([] : List UInt8) then (some true) else ((key_Within.f a0 a3 a3).bind fun t140 => (some (!t140)))) else (some false))))) else ((key_Within.f a0 a0 (⟨#[]⟩ : ByteArray)).bind fun t141 => (if t141 = true then (if a3.toList = ([] : List UInt8) then (some true) else ((key_Within.f a0 a3 a3).bind fun t142 => (some (!t142)))) else (some false))))) = some r := by rw [if_pos rfl] at H; exact H
            clear H
            have H := H1
            clear H1
            replace H := Option.bind_eq_some_iff.mp H
            obtain ⟨t134, A140, H⟩ := H
            replace H : (if t134 = true then ((key_Within.f a2 a3 a4).bind fun t135 => (if t135 = true then ((key_Within.f a1 a3 a4).bind fun t136 => (if t136 = true then ((key_Within.f a0 a0 (⟨#[]⟩ : ByteArray)).bind fun t137 => (if t137 = true then (if a3.toList = ([] : List UInt8) then (some true) else ((key_Within.f a0 a3 a3).bind fun t138 => (some (!t138)))) else (some false))) else (some false))) else ((key_Within.f a0 a0 (⟨#[]⟩ : ByteArray)).bind fun t139 => (if t139 = true then (if a3.toList = ([] : List UInt8) then (some true) else ((key_Within.f a0 a3 a3).bind fun t140 => (some (!t140)))) else (some false))))) else ((key_Within.f a0 a0 (⟨#[]⟩ : ByteArray)).bind fun t141 => (if t141 = true then (if a3.toList = ([] : List UInt8) then (some true) else ((key_Within.f a0 a3 a3).bind fun t142 => (some (!t142)))) else (some false)))) = some r := H
            have A14 := Aside0.mk A140
            clear A140
            by_cases c15 : t134 = true
            · subst c15
              have H1 : ((key_Within.f a2 a3 a4).bind fun t135 => (if t135 = true then ((key_Within.f a1 a3 a4).bind fun t136 => (if t136 = true then ((key_Within.f a0 a0 (⟨#[]⟩ : ByteArray)).bind fun t137 => (if t137 = true then (if a3.toList = ([] : List UInt8) then (some true) else ((key_Within.f a0 a3 a3).bind fun t138 => (some (!t138)))) else (some false))) else (some false))) else ((key_Within.f a0 a0 (⟨#[]⟩ : ByteArray)).bind fun t139 => (if t139 = true then (if a3.toList = ([] : List UInt8) then (some true) else ((key_Within.f a0 a3 a3).bind fun t140 => (some (!t140)))) else (some false))))) = some r := by rw [if_pos rfl] at H; exact H
              clear H
              have H := H1
              clear H1
              replace H := Option.bind_eq_some_iff.mp H
              obtain ⟨t135, A160, H⟩ := H
              replace H : (if t135 = true then ((key_Within.f a1 a3 a4).bind fun t136 => (if t136 = true then ((key_Within.f a0 a0 (⟨#[]⟩ : ByteArray)).bind fun t137 => (if t137 = true then (if a3.toList = ([] : List UInt8) then (some true) else ((key_Within.f a0 a3 a3).bind fun t138 => (some (!t138)))) else (some false))) else (some false))) else ((key_Within.f a0 a0 (⟨#[]⟩ : ByteArray)).bind fun t139 => (if t139 = true then (if a3.toList = ([] : List UInt8) then (some true) else ((key_Within.f a0 a3 a3).bind fun t140 => (some (!t140)))) else (some false)))) = some r := H
              have A16 := Aside0.mk A160
              clear A160
              by_cases c17 : t135 = true
              · subst c17
                have H1 : ((key_Within.f a1 a3 a4).bind fun t136 => (if t136 = true then ((key_Within.f a0 a0 (⟨#[]⟩ : ByteArray)).bind fun t137 => (if t137 = true then (if a3.toList = ([] : List UInt8) then (some true) else ((key_Within.f a0 a3 a3).bind fun t138 => (some (!t138)))) else (some false))) else (some false))) = some r := by rw [if_pos rfl] at H; exact H
                clear H
                have H := H1
                clear H1
                replace H := Option.bind_eq_some_iff.mp H
                obtain ⟨t136, A180, H⟩ := H
                replace H : (if t136 = true then ((key_Within.f a0 a0 (⟨#[]⟩ : ByteArray)).bind fun t137 => (if t137 = true then (if a3.toList = ([] : List UInt8) then (some true) else ((key_Within.f a0 a3 a3).bind fun t138 => (some (!t138)))) else (some false))) else (some false)) = some r := H
                have A18 := Aside0.mk A180
                clear A180
                by_cases c19 : t136 = true
                · subst c19
                  have H1 : ((key_Within.f a0 a0 (⟨#[]⟩ : ByteArray)).bind fun t137 => (if t137 = true then (if a3.toList = ([] : List UInt8) then (some true) else ((key_Within.f a0 a3 a3).bind fun t138 => (some (!t138)))) else (some false))) = some r := by rw [if_pos rfl] at H; exact H
                  clear H
                  have H := H1
                  clear H1
                  replace H := Option.bind_eq_some_iff.mp H
                  obtain ⟨t137, A200, H⟩ := H
                  replace H : (if t137 = true then (if a3.toList = ([] : List UInt8) then (some true) else ((key_Within.f a0 a3 a3).bind fun t138 => (some (!t138)))) else (some false)) = some r := H
                  have A20 := Aside0.mk A200
                  clear A200
                  by_cases c21 : t137 = true
                  · subst c21
                    have H1 : (if a3.toList = ([] : List UInt8) then (some true) else ((key_Within.f a0 a3 a3).bind fun t138 => (some (!t138)))) = some r := by rw [if_pos rfl] at H; exact H
                    clear H
                    have H := H1
                    clear H1
                    by_cases c22 : a3.toList = ([] : List UInt8)
                    · rw [if_pos c22] at H
                      have c22b0 : (a3.toList == ([] : List UInt8)) = true := beq_iff_eq.mpr c22
                      have c22b1 : (a3.toList != ([] : List UInt8)) = false := bne_eq_false_iff_eq.mpr c22
                      clear c22
                      obtain rfl := Option.some.inj H
                      go_wp2_with (first | (go_at_call 25; (with_reducible refine (key_Within.calls a0 a3 a4 true _ A14.out).mono ?_); rintro e w' ⟨rfl, ⟨nd, rfl⟩⟩) | (go_at_call 25; (with_reducible refine (key_Within.calls a2 a3 a4 true _ A16.out).mono ?_); rintro e w' ⟨rfl, ⟨nd, rfl⟩⟩) | (go_at_call 25; (with_reducible refine (key_Within.calls a1 a3 a4 true _ A18.out).mono ?_); rintro e w' ⟨rfl, ⟨nd, rfl⟩⟩) | (go_at_call 25; (with_reducible refine (key_Within.calls a0 a0 (⟨#[]⟩ : ByteArray) true _ A20.out).mono ?_); rintro e w' ⟨rfl, ⟨nd, rfl⟩⟩))
                      go_ret
                      exact ⟨by first | rfl | (simp [errW_none, errW_some] <;> rfl) | (simp [*, errW_none, errW_some] <;> rfl), by repeat (first | (with_reducible first | exact HB.out | apply below_alloc | apply pw_below_drewN | apply below_drew1) | exact HB.out)⟩
                    · rw [if_neg c22] at H
                      have c22b0 : (a3.toList == ([] : List UInt8)) = false := beq_eq_false_iff_ne.mpr c22
                      have c22b1 : (a3.toList != ([] : List UInt8)) = true := bne_iff_ne.mpr c22
                      replace H := Option.bind_eq_some_iff.mp H
                      obtain ⟨t138, A230, H⟩ := H
                      replace H : (some (!t138)) = some r := H
                      have A23 := Aside0.mk A230
                      clear A230
                      obtain rfl := Option.some.inj H
                      go_wp2_with (first | (go_at_call 25; (with_reducible refine (key_Within.calls a0 a3 a4 true _ A14.out).mono ?_); rintro e w' ⟨rfl, ⟨nd, rfl⟩⟩) | (go_at_call 25; (with_reducible refine (key_Within.calls a2 a3 a4 true _ A16.out).mono ?_); rintro e w' ⟨rfl, ⟨nd, rfl⟩⟩) | (go_at_call 25; (with_reducible refine (key_Within.calls a1 a3 a4 true _ A18.out).mono ?_); rintro e w' ⟨rfl, ⟨nd, rfl⟩⟩) | (go_at_call 25; (with_reducible refine (key_Within.calls a0 a0 (⟨#[]⟩ : ByteArray) true _ A20.out).mono ?_); rintro e w' ⟨rfl, ⟨nd, rfl⟩⟩) | (go_at_call 25; (with_reducible refine (key_Within.calls a0 a3 a3 t138 _ A23.out).mono ?_); rintro e w' ⟨rfl, ⟨nd, rfl⟩⟩))
                      go_ret
                      exact ⟨by first | rfl | (simp [errW_none, errW_some] <;> rfl) | (simp [*, errW_none, errW_some] <;> rfl), by repeat (first | (with_reducible first | exact HB.out | apply below_alloc | apply pw_below_drewN | apply below_drew1) | exact HB.out)⟩
                  · replace c21 := Bool.eq_false_iff.mpr c21
                    subst c21
                    have H1 : (some false) = some r := by rw [if_neg (show ¬ (false = true) by decide)] at H; exact H
                    clear H
                    have H := H1
                    clear H1
                    obtain rfl := Option.some.inj H
                    go_wp2_with (first | (go_at_call 25; (with_reducible refine (key_Within.calls a0 a3 a4 true _ A14.out).mono ?_); rintro e w' ⟨rfl, ⟨nd, rfl⟩⟩) | (go_at_call 25; (with_reducible refine (key_Within.calls a2 a3 a4 true _ A16.out).mono ?_); rintro e w' ⟨rfl, ⟨nd, rfl⟩⟩) | (go_at_call 25; (with_reducible refine (key_Within.calls a1 a3 a4 true _ A18.out).mono ?_); rintro e w' ⟨rfl, ⟨nd, rfl⟩⟩) | (go_at_call 25; (with_reducible refine (key_Within.calls a0 a0 (⟨#[]⟩ : ByteArray) false _ A20.out).mono ?_); rintro e w' ⟨rfl, ⟨nd, rfl⟩⟩))
                    go_ret
                    exact ⟨by first | rfl | (simp [errW_none, errW_some] <;> rfl) | (simp [*, errW_none, errW_some] <;> rfl), by repeat (first | (with_reducible first | exact HB.out | apply below_alloc | apply pw_below_drewN | apply below_drew1) | exact HB.out)⟩
                · replace c19 := Bool.eq_false_iff.mpr c19
                  subst c19
                  have H1 : (some false) = some r := by rw [if_neg (show ¬ (false = true) by decide)] at H; exact H
                  clear H
                  have H := H1
                  clear H1
                  obtain rfl := Option.some.inj H
                  go_wp2_with (first | (go_at_call 25; (with_reducible refine (key_Within.calls a0 a3 a4 true _ A14.out).mono ?_); rintro e w' ⟨rfl, ⟨nd, rfl⟩⟩) | (go_at_call 25; (with_reducible refine (key_Within.calls a2 a3 a4 true _ A16.out).mono ?_); rintro e w' ⟨rfl, ⟨nd, rfl⟩⟩) | (go_at_call 25; (with_reducible refine (key_Within.calls a1 a3 a4 false _ A18.out).mono ?_); rintro e w' ⟨rfl, ⟨nd, rfl⟩⟩))
                  go_ret
                  exact ⟨by first | rfl | (simp [errW_none, errW_some] <;> rfl) | (simp [*, errW_none, errW_some] <;> rfl), by repeat (first | (with_reducible first | exact HB.out | apply below_alloc | apply pw_below_drewN | apply below_drew1) | exact HB.out)⟩
              · replace c17 := Bool.eq_false_iff.mpr c17
                subst c17
                have H1 : ((key_Within.f a0 a0 (⟨#[]⟩ : ByteArray)).bind fun t139 => (if t139 = true then (if a3.toList = ([] : List UInt8) then (some true) else ((key_Within.f a0 a3 a3).bind fun t140 => (some (!t140)))) else (some false))) = some r := by rw [if_neg (show ¬ (false = true) by decide)] at H; exact H
                clear H
                have H := H1
                clear H1
                replace H := Option.bind_eq_some_iff.mp H
                obtain ⟨t139, A240, H⟩ := H
                replace H : (if t139 = true then (if a3.toList = ([] : List UInt8) then (some true) else ((key_Within.f a0 a3 a3).bind fun t140 => (some (!t140)))) else (some false)) = some r := H
                have A24 := Aside0.mk A240
                clear A240
                by_cases c25 : t139 = true
                · subst c25
                  have H1 : (if a3.toList = ([] : List UInt8) then (some true) else ((key_Within.f a0 a3 a3).bind fun t140 => (some (!t140)))) = some r := by rw [if_pos rfl] at H; exact H
                  clear H
                  have H := H1
                  clear H1
                  by_cases c26 : a3.toList = ([] : List UInt8)
                  · rw [if_pos c26] at H
                    have c26b0 : (a3.toList == ([] : List UInt8)) = true := beq_iff_eq.mpr c26
                    have c26b1 : (a3.toList != ([] : List UInt8)) = false := bne_eq_false_iff_eq.mpr c26
                    clear c26
                    obtain rfl := Option.some.inj H
                    go_wp2_with (first | (go_at_call 25; (with_reducible refine (key_Within.calls a0 a3 a4 true _ A14.out).mono ?_); rintro e w' ⟨rfl, ⟨nd, rfl⟩⟩) | (go_at_call 25; (with_reducible refine (key_Within.calls a2 a3 a4 false _ A16.out).mono ?_); rintro e w' ⟨rfl, ⟨nd, rfl⟩⟩) | (go_at_call 25; (with_reducible refine (key_Within.calls a0 a0 (⟨#[]⟩ : ByteArray) true _ A24.out).mono ?_); rintro e w' ⟨rfl, ⟨nd, rfl⟩⟩))
                    go_ret
                    exact ⟨by first | rfl | (simp [errW_none, errW_some] <;> rfl) | (simp [*, errW_none, errW_some] <;> rfl), by repeat (first | (with_reducible first | exact HB.out | apply below_alloc | apply pw_below_drewN | apply below_drew1) | exact HB.out)⟩
                  · rw [if_neg c26] at H
                    have c26b0 : (a3.toList == ([] : List UInt8)) = false := beq_eq_false_iff_ne.mpr c26
                    have c26b1 : (a3.toList != ([] : List UInt8)) = true := bne_iff_ne.mpr c26
                    replace H := Option.bind_eq_some_iff.mp H
                    obtain ⟨t140, A270, H⟩ := H
                    replace H : (some (!t140)) = some r := H
                    have A27 := Aside0.mk A270
                    clear A270
                    obtain rfl := Option.some.inj H
                    go_wp2_with (first | (go_at_call 25; (with_reducible refine (key_Within.calls a0 a3 a4 true _ A14.out).mono ?_); rintro e w' ⟨rfl, ⟨nd, rfl⟩⟩) | (go_at_call 25; (with_reducible refine (key_Within.calls a2 a3 a4 false _ A16.out).mono ?_); rintro e w' ⟨rfl, ⟨nd, rfl⟩⟩) | (go_at_call 25; (with_reducible refine (key_Within.calls a0 a0 (⟨#[]⟩ : ByteArray) true _ A24.out).mono ?_); rintro e w' ⟨rfl, ⟨nd, rfl⟩⟩) | (go_at_call 25; (with_reducible refine (key_Within.calls a0 a3 a3 t140 _ A27.out).mono ?_); rintro e w' ⟨rfl, ⟨nd, rfl⟩⟩))
                    go_ret
                    exact ⟨by first | rfl | (simp [errW_none, errW_some] <;> rfl) | (simp [*, errW_none, errW_some] <;> rfl), by repeat (first | (with_reducible first | exact HB.out | apply below_alloc | apply pw_below_drewN | apply below_drew1) | exact HB.out)⟩
                · replace c25 := Bool.eq_false_iff.mpr c25
                  subst c25
                  have H1 : (some false) = some r := by rw [if_neg (show ¬ (false = true) by decide)] at H; exact H
                  clear H
                  have H := H1
                  clear H1
                  obtain rfl := Option.some.inj H
                  go_wp2_with (first | (go_at_call 25; (with_reducible refine (key_Within.calls a0 a3 a4 true _ A14.out).mono ?_); rintro e w' ⟨rfl, ⟨nd, rfl⟩⟩) | (go_at_call 25; (with_reducible refine (key_Within.calls a2 a3 a4 false _ A16.out).mono ?_); rintro e w' ⟨rfl, ⟨nd, rfl⟩⟩) | (go_at_call 25; (with_reducible refine (key_Within.calls a0 a0 (⟨#[]⟩ : ByteArray) false _ A24.out).mono ?_); rintro e w' ⟨rfl, ⟨nd, rfl⟩⟩))
                  go_ret
                  exact ⟨by first | rfl | (simp [errW_none, errW_some] <;> rfl) | (simp [*, errW_none, errW_some] <;> rfl), by repeat (first | (with_reducible first | exact HB.out | apply below_alloc | apply pw_below_drewN | apply below_drew1) | exact HB.out)⟩
            · replace c15 := Bool.eq_false_iff.mpr c15
              subst c15
              have H1 : ((key_Within.f a0 a0 (⟨#[]⟩ : ByteArray)).bind fun t141 => (if t141 = true then (if a3.toList = ([] : List UInt8) then (some true) else ((key_Within.f a0 a3 a3).bind fun t142 => (some (!t142)))) else (some false))) = some r := by rw [if_neg (show ¬ (false = true) by decide)] at H; exact H
              clear H
              have H := H1
              clear H1
              replace H := Option.bind_eq_some_iff.mp H
              obtain ⟨t141, A280, H⟩ := H
              replace H : (if t141 = true then (if a3.toList = ([] : List UInt8) then (some true) else ((key_Within.f a0 a3 a3).bind fun t142 => (some (!t142)))) else (some false)) = some r := H
              have A28 := Aside0.mk A280
              clear A280
              by_cases c29 : t141 = true
              · subst c29
                have H1 : (if a3.toList = ([] : List UInt8) then (some true) else ((key_Within.f a0 a3 a3).bind fun t142 => (some (!t142)))) = some r := by rw [if_pos rfl] at H; exact H
                clear H
                have H := H1
                clear H1
                by_cases c30 : a3.toList = ([] : List UInt8)
                · rw [if_pos c30] at H
                  have c30b0 : (a3.toList == ([] : List UInt8)) = true := beq_iff_eq.mpr c30
                  have c30b1 : (a3.toList != ([] : List UInt8)) = false := bne_eq_false_iff_eq.mpr c30
                  clear c30
                  obtain rfl := Option.some.inj H
                  go_wp2_with (first | (go_at_call 25; (with_reducible refine (key_Within.calls a0 a3 a4 false _ A14.out).mono ?_); rintro e w' ⟨rfl, ⟨nd, rfl⟩⟩) | (go_at_call 25; (with_reducible refine (key_Within.calls a0 a0 (⟨#[]⟩ : ByteArray) true _ A28.out).mono ?_); rintro e w' ⟨rfl, ⟨nd, rfl⟩⟩))
                  go_ret
                  exact ⟨by first | rfl | (simp [errW_none, errW_some] <;> rfl) | (simp [*, errW_none, errW_some] <;> rfl), by repeat (first | (with_reducible first | exact HB.out | apply below_alloc | apply pw_below_drewN | apply below_drew1) | exact HB.out)⟩
                · rw [if_neg c30] at H
                  have c30b0 : (a3.toList == ([] : List UInt8)) = false := beq_eq_false_iff_ne.mpr c30
                  have c30b1 : (a3.toList != ([] : List UInt8)) = true := bne_iff_ne.mpr c30
                  replace H := Option.bind_eq_some_iff.mp H
                  obtain ⟨t142, A310, H⟩ := H
                  replace H : (some (!t142)) = some r := H
                  have A31 := Aside0.mk A310
                  clear A310
                  obtain rfl := Option.some.inj H
                  go_wp2_with (first | (go_at_call 25; (with_reducible refine (key_Within.calls a0 a3 a4 false _ A14.out).mono ?_); rintro e w' ⟨rfl, ⟨nd, rfl⟩⟩) | (go_at_call 25; (with_reducible refine (key_Within.calls a0 a0 (⟨#[]⟩ : ByteArray) true _ A28.out).mono ?_); rintro e w' ⟨rfl, ⟨nd, rfl⟩⟩) | (go_at_call 25; (with_reducible refine (key_Within.calls a0 a3 a3 t142 _ A31.out).mono ?_); rintro e w' ⟨rfl, ⟨nd, rfl⟩⟩))
                  go_ret
                  exact ⟨by first | rfl | (simp [errW_none, errW_some] <;> rfl) | (simp [*, errW_none, errW_some] <;> rfl), by repeat (first | (with_reducible first | exact HB.out | apply below_alloc | apply pw_below_drewN | apply below_drew1) | exact HB.out)⟩
              · replace c29 := Bool.eq_false_iff.mpr c29
                subst c29
                have H1 : (some false) = some r := by rw [if_neg (show ¬ (false = true) by decide)] at H; exact H
                clear H
                have H := H1
                clear H1
                obtain rfl := Option.some.inj H
                go_wp2_with (first | (go_at_call 25; (with_reducible refine (key_Within.calls a0 a3 a4 false _ A14.out).mono ?_); rintro e w' ⟨rfl, ⟨nd, rfl⟩⟩) | (go_at_call 25; (with_reducible refine (key_Within.calls a0 a0 (⟨#[]⟩ : ByteArray) false _ A28.out).mono ?_); rintro e w' ⟨rfl, ⟨nd, rfl⟩⟩))
                go_ret
                exact ⟨by first | rfl | (simp [errW_none, errW_some] <;> rfl) | (simp [*, errW_none, errW_some] <;> rfl), by repeat (first | (with_reducible first | exact HB.out | apply below_alloc | apply pw_below_drewN | apply below_drew1) | exact HB.out)⟩
          · replace c13 := Bool.eq_false_iff.mpr c13
            subst c13
            have H1 : ((key_Within.f a0 a0 (⟨#[]⟩ : ByteArray)).bind fun t143 => (if t143 = true then (if a3.toList = ([] : List UInt8) then (some true) else ((key_Within.f a0 a3 a3).bind fun t144 => (some (!t144)))) else (some false))) = some r := by rw [if_neg (show ¬ (false = true) by decide)] at H; exact H
            clear H
            have H := H1
            clear H1
            replace H := Option.bind_eq_some_iff.mp H
            obtain ⟨t143, A320, H⟩ := H
            replace H : (if t143 = true then (if a3.toList = ([] : List UInt8) then (some true) else ((key_Within.f a0 a3 a3).bind fun t144 => (some (!t144)))) else (some false)) = some r := H
            have A32 := Aside0.mk A320
            clear A320
            by_cases c33 : t143 = true
            · subst c33
              have H1 : (if a3.toList = ([] : List UInt8) then (some true) else ((key_Within.f a0 a3 a3).bind fun t144 => (some (!t144)))) = some r := by rw [if_pos rfl] at H; exact H
              clear H
              have H := H1
              clear H1
              by_cases c34 : a3.toList = ([] : List UInt8)
              · rw [if_pos c34] at H
                have c34b0 : (a3.toList == ([] : List UInt8)) = true := beq_iff_eq.mpr c34
                have c34b1 : (a3.toList != ([] : List UInt8)) = false := bne_eq_false_iff_eq.mpr c34
                clear c34
                obtain rfl := Option.some.inj H
                go_wp2_with (first | (go_at_call 25; (with_reducible refine (key_Within.calls a0 a0 (⟨#[]⟩ : ByteArray) true _ A32.out).mono ?_); rintro e w' ⟨rfl, ⟨nd, rfl⟩⟩))
                go_ret
                exact ⟨by first | rfl | (simp [errW_none, errW_some] <;> rfl) | (simp [*, errW_none, errW_some] <;> rfl), by repeat (first | (with_reducible first | exact HB.out | apply below_alloc | apply pw_below_drewN | apply below_drew1) | exact HB.out)⟩
              · rw [if_neg c34] at H
                have c34b0 : (a3.toList == ([] : List UInt8)) = false := beq_eq_false_iff_ne.mpr c34
                have c34b1 : (a3.toList != ([] : List UInt8)) = true := bne_iff_ne.mpr c34
                replace H := Option.bind_eq_some_iff.mp H
                obtain ⟨t144, A350, H⟩ := H
                replace H : (some (!t144)) = some r := H
                have A35 := Aside0.mk A350
                clear A350
                obtain rfl := Option.some.inj H
                go_wp2_with (first | (go_at_call 25; (with_reducible refine (key_Within.calls a0 a0 (⟨#[]⟩ : ByteArray) true _ A32.out).mono ?_); rintro e w' ⟨rfl, ⟨nd, rfl⟩⟩) | (go_at_call 25; (with_reducible refine (key_Within.calls a0 a3 a3 t144 _ A35.out).mono ?_); rintro e w' ⟨rfl, ⟨nd, rfl⟩⟩))
                go_ret
                exact ⟨by first | rfl | (simp [errW_none, errW_some] <;> rfl) | (simp [*, errW_none, errW_some] <;> rfl), by repeat (first | (with_reducible first | exact HB.out | apply below_alloc | apply pw_below_drewN | apply below_drew1) | exact HB.out)⟩
            · replace c33 := Bool.eq_false_iff.mpr c33
              subst c33
              have H1 : (some false) = some r := by rw [if_neg (show ¬ (false = true) by decide)] at H; exact H
              clear H
              have H := H1
              clear H1
              obtain rfl := Option.some.inj H
              go_wp2_with (first | (go_at_call 25; (with_reducible refine (key_Within.calls a0 a0 (⟨#[]⟩ : ByteArray) false _ A32.out).mono ?_); rintro e w' ⟨rfl, ⟨nd, rfl⟩⟩))
              go_ret
              exact ⟨by first | rfl | (simp [errW_none, errW_some] <;> rfl) | (simp [*, errW_none, errW_some] <;> rfl), by repeat (first | (with_reducible first | exact HB.out | apply below_alloc | apply pw_below_drewN | apply below_drew1) | exact HB.out)⟩
  · replace c7 := Bool.eq_false_iff.mpr c7
    subst c7
    have H1 : (some false) = some r := by rw [if_neg (show ¬ (false = true) by decide)] at H; exact H
    clear H
    have H := H1
    clear H1
    obtain rfl := Option.some.inj H
    go_enter Try.func11, Try.ntmps11
    go_wp2_with (first | ((with_reducible refine gate_callee (f := 20) rfl ?_); refine goesL_ (some 12) rfl rfl Try.func20 (by kernel_rfl) rfl #[] rfl (by (try simp only [List.map_toArray, List.map_cons, List.map_nil]); first | done | rfl | (simp only [List.length_drop, List.length_take]; rfl)) ?_; (with_reducible refine (diwanlaw4_begun.calls k  false _ A6.out).mono ?_); rintro e w36 ⟨rfl, hb⟩; refine ⟨_, rfl, ?_⟩; have n0_ := Aside0.mk (below_step (by repeat (first | (with_reducible first | exact HB.out | apply below_alloc | apply pw_below_drewN | apply below_drew1) | exact HB.out)) hb); clear HB; have HB := n0_; clear n0_; (try clear hb); (try clear hb2); (try clear hk); (try clear hi)))
    go_ret
    exact ⟨by first | rfl | (simp [errW_none, errW_some] <;> rfl) | (simp [*, errW_none, errW_some] <;> rfl), by repeat (first | (with_reducible first | exact HB.out | apply below_alloc | apply pw_below_drewN | apply below_drew1) | exact HB.out)⟩

/-- THE ONE PURE STATEMENT of diwanlaw4_KeyWithin: yours. -/
def diwanlaw4_KeyWithin.Pure : Prop := ∀ (a0 : ByteArray) (a1 : ByteArray) (a2 : ByteArray) (a3 : ByteArray) (a4 : ByteArray), a0.size ≤ 140737488351232 → a1.size ≤ 140737488351232 → a2.size ≤ 140737488351232 → a3.size ≤ 140737488351232 → a4.size ≤ 140737488351232 → ∃ k, diwanlaw4_KeyWithin.f k a0 a1 a2 a3 a4 = some true
theorem diwanlaw4_KeyWithin.walk (P : diwanlaw4_KeyWithin.Pure) (a0 : ByteArray) (a1 : ByteArray) (a2 : ByteArray) (a3 : ByteArray) (a4 : ByteArray) (w : World) (w0 : a0.size ≤ 140737488351232) (w1 : a1.size ≤ 140737488351232) (w2 : a2.size ≤ 140737488351232) (w3 : a3.size ≤ 140737488351232) (w4 : a4.size ≤ 140737488351232) :
    Calls Try.prog 11 #[.string a0, .string a1, .string a2, .string a3, .string a4] w fun e w' => e = .returned (.bool true) ∧ Below w.heap.size w w' := by
  obtain ⟨k, h⟩ := P a0 a1 a2 a3 a4 w0 w1 w2 w3 w4
  refine (diwanlaw4_KeyWithin.calls k a0 a1 a2 a3 a4 true w h).mono ?_
  rintro e w' ⟨rfl, hd⟩
  exact ⟨rfl, hd⟩

end Go.Proofs.Ytggffmcfkcjeaaa.PKey
