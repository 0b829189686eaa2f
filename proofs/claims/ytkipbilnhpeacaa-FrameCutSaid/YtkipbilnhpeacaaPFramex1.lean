/- Written by a program of this session (pp.py over the kit's print.py): functions as they are printed, the walks, the rows. No condition beyond those that each theorem states. -/
import Derived.Test.YtkipbilnhpeacaaPFramex0
namespace Go.Proofs.Ytkipbilnhpeacaa.PFrame
open Go.RowKit Go.Proofs.YtkipbilnhpeacaaW.PrintWords Go.Proofs.YtkipbilnhpeacaaW.PrintLast Go.Proofs.YtkipbilnhpeacaaW.PrintMore
attribute [local go_sem] max2_int min2_int max_two min_two max_three min_three max_four min_four   -- for this text's walks alone
set_option linter.unusedVariables false
set_option linter.unusedSimpArgs false

/-! ### crc_register_half: function 84 -/
def crc_register_half.f (a0 : Int) : Option (Int) := if (Go.bits .and .u32 a0 1) = 1 then (some (Go.bits .xor .u32 (a0 / 2) 3988292384)) else (some (a0 / 2))
set_option maxHeartbeats 8000000 in
set_option maxRecDepth 100000 in
theorem crc_register_half.calls (a0 : Int) (r : Int) (w : World) (h : crc_register_half.f a0 = some r) :
    Calls Try.prog 84 #[.int .u32 a0] w fun e w' => e = .returned (.int .u32 r) ∧ Drawn0 w w' := by
  have H : (if (Go.bits .and .u32 a0 1) = 1 then (some (Go.bits .xor .u32 (a0 / 2) 3988292384)) else (some (a0 / 2))) = some r := h
  clear h
  by_cases c2 : (Go.bits .and .u32 a0 1) = 1
  · rw [if_pos c2] at H
    have c2b0 : ((Go.bits .and .u32 a0 1) == 1) = true := beq_iff_eq.mpr c2
    have c2b1 : ((Go.bits .and .u32 a0 1) != 1) = false := bne_eq_false_iff_eq.mpr c2
    clear c2
    obtain rfl := Option.some.inj H
    go_enter Try.func84, Try.ntmps84
    go_wp2
    go_ret
    exact ⟨by first | rfl | (simp; done) | (simp [*]; done), by repeat (first | exact Drawn0.refl _ | apply Drawn0.step)⟩
  · rw [if_neg c2] at H
    have c2b0 : ((Go.bits .and .u32 a0 1) == 1) = false := beq_eq_false_iff_ne.mpr c2
    have c2b1 : ((Go.bits .and .u32 a0 1) != 1) = true := bne_iff_ne.mpr c2
    obtain rfl := Option.some.inj H
    go_enter Try.func84, Try.ntmps84
    go_wp2
    go_ret
    exact ⟨by first | rfl | (simp; done) | (simp [*]; done), by repeat (first | exact Drawn0.refl _ | apply Drawn0.step)⟩

/-! ### crc_register_take: function 66 -/
def crc_register_take.l0 : Nat → Int → Int → Option (Int)
  | 0, _, _ => none
  | k + 1, x0, x10 => if x10 < 8 then ((crc_register_half.f x0).bind fun t101 => (crc_register_take.l0 k t101 (wrap64 (x10 + 1)))) else (some x0)
def crc_register_take.f (k : Nat) (a0 : Int) (a1 : Int) : Option (Int) := crc_register_take.l0 k (Go.bits .xor .u32 a0 ((a1) % 4294967296)) 0
theorem crc_register_take.mono_l : ∀ k, (∀ y0 y1, LeO (crc_register_take.l0 k y0 y1) (crc_register_take.l0 (k + 1) y0 y1))
  | 0 => fun _ _ r h => by simp [crc_register_take.l0] at h
  | k + 1 => by
    have ih0 := crc_register_take.mono_l k
    · intro y0 y1
      unfold crc_register_take.l0
      repeat' first
      | (with_reducible exact ih0 _ _)
      | (with_reducible exact LeO.refl _)
      | (with_reducible exact LeO.none _)
      | (with_reducible refine LeO.ite ?_ ?_)
      | (with_reducible refine LeO.bind ?_ (fun _ => ?_))
      | exact ih0 _ _
      | exact LeO.none _
      | refine LeO.ite ?_ ?_
      | refine LeO.bind ?_ (fun _ => ?_)
theorem crc_register_take.mono : ∀ a0 a1 k, LeO (crc_register_take.f k a0 a1) (crc_register_take.f (k + 1) a0 a1) := by
  intro a0 a1 k
  have ih0 := crc_register_take.mono_l k
  unfold crc_register_take.f
  repeat' first
      | (with_reducible exact ih0 _ _)
      | (with_reducible exact LeO.refl _)
      | (with_reducible exact LeO.none _)
      | (with_reducible refine LeO.ite ?_ ?_)
      | (with_reducible refine LeO.bind ?_ (fun _ => ?_))
      | exact ih0 _ _
      | exact LeO.none _
      | refine LeO.ite ?_ ?_
      | refine LeO.bind ?_ (fun _ => ?_)
set_option maxHeartbeats 8000000 in
set_option maxRecDepth 100000 in
theorem crc_register_take.calls (k : Nat) (a0 : Int) (a1 : Int) (r : Int) (w : World) (h : crc_register_take.f k a0 a1 = some r) :
    Calls Try.prog 66 #[.int .u32 a0, .int .u8 a1] w fun e w' => e = .returned (.int .u32 r) ∧ Drawn0 w w' := by
  have H : (crc_register_take.l0 k (Go.bits .xor .u32 a0 ((a1) % 4294967296)) 0) = some r := h
  clear h
  have H' := Aside0.mk H
  clear H
  go_enter Try.func66, Try.ntmps66
  go_wp2
  go_loopg [0, 10] k (fun kq v0 v10 w' => ∃ (x0_1 : Int) (x10_1 : Int), v0 = .int .u32 x0_1 ∧ v10 = .int .i64 x10_1 ∧ Aside0 (crc_register_take.l0 kq x0_1 x10_1 = some r) ∧ Aside0 (kq ≤ k) ∧ Drawn0 w w')
  case atStart => exact ⟨(Go.bits .xor .u32 a0 ((a1) % 4294967296)), (0), (by first | rfl | (simp; done) | (simp [*]; done)), (by first | rfl | (simp; done) | (simp [*]; done)), H', ⟨Nat.le_refl _⟩, by repeat (first | exact Drawn0.refl _ | apply Drawn0.step)⟩
  case round =>
    clear H'
    try clear p2
    obtain ⟨x0_1, x10_1, rfl, rfl, HA, HK1, ⟨m1, rfl⟩⟩ := hrel
    cases gk with
    | zero => exact absurd HA.out (by simp [crc_register_take.l0])
    | succ k1 =>
      have H := HA.out
      clear HA
      simp only [crc_register_take.l0] at H
      by_cases c3 : x10_1 < 8
      · rw [if_pos c3] at H
        have c3b0 : decide (x10_1 < 8) = true := decide_eq_true c3
        clear c3
        replace H := Option.bind_eq_some_iff.mp H
        obtain ⟨t101, A40, H⟩ := H
        replace H : (crc_register_take.l0 k1 t101 (wrap64 (x10_1 + 1))) = some r := H
        have A4 := Aside0.mk A40
        clear A40
        have H' := Aside0.mk H
        clear H
        go_wp2_with (first | (go_at_call 84; (with_reducible refine (crc_register_half.calls x0_1 t101 _ A4.out).mono ?_); rintro e w' ⟨rfl, ⟨nd, rfl⟩⟩))
        go_roundg k1
        case measure => have := HK1.out; omega
        case rel => exact ⟨(t101), (wrap64 (x10_1 + 1)), (by first | rfl | (simp; done) | (simp [*]; done)), (by first | rfl | (simp; done) | (simp [*]; done)), H', ⟨by have := HK1.out; omega⟩, by repeat (first | exact Drawn0.refl _ | apply Drawn0.step)⟩
      · rw [if_neg c3] at H
        have c3b0 : decide (x10_1 < 8) = false := decide_eq_false c3
        clear c3
        obtain rfl := Option.some.inj H
        go_wp2
        go_ret
        exact ⟨by first | rfl | (simp; done) | (simp [*]; done), by repeat (first | exact Drawn0.refl _ | apply Drawn0.step)⟩

/-! ### crc_Sum: function 26 -/
def crc_Sum.l0 : Nat → Int → List Int → Int → Int → Option (Int)
  | 0, _, _, _, _ => none
  | k + 1, x3, x7, x8, x9 => if x9 < x8 then (if 0 ≤ x9 then (if x9 < (x7.length : Int) then ((crc_register_take.f k x3 (rd x7 x9)).bind fun t103 => (crc_Sum.l0 k t103 x7 x8 (wrap64 (x9 + 1)))) else (none)) else (none)) else (some (Go.bits .xor .u32 x3 4294967295))
def crc_Sum.f (k : Nat) (l0 : List Int) : Option (Int) := crc_Sum.l0 k 4294967295 l0 (l0.length : Int) 0
theorem crc_Sum.mono_l : ∀ k, (∀ y0 y1 y2 y3, LeO (crc_Sum.l0 k y0 y1 y2 y3) (crc_Sum.l0 (k + 1) y0 y1 y2 y3))
  | 0 => fun _ _ _ _ r h => by simp [crc_Sum.l0] at h
  | k + 1 => by
    have ih0 := crc_Sum.mono_l k
    · intro y0 y1 y2 y3
      unfold crc_Sum.l0
      repeat' first
      | (with_reducible exact ih0 _ _ _ _)
      | (with_reducible exact crc_register_take.mono _ _ _)
      | (with_reducible exact LeO.refl _)
      | (with_reducible exact LeO.none _)
      | (with_reducible refine LeO.ite ?_ ?_)
      | (with_reducible refine LeO.bind ?_ (fun _ => ?_))
      | exact ih0 _ _ _ _
      | exact crc_register_take.mono _ _ _
      | exact LeO.none _
      | refine LeO.ite ?_ ?_
      | refine LeO.bind ?_ (fun _ => ?_)
theorem crc_Sum.mono : ∀ a0 k, LeO (crc_Sum.f k a0) (crc_Sum.f (k + 1) a0) := by
  intro a0 k
  have ih0 := crc_Sum.mono_l k
  unfold crc_Sum.f
  repeat' first
      | (with_reducible exact ih0 _ _ _ _)
      | (with_reducible exact crc_register_take.mono _ _ _)
      | (with_reducible exact LeO.refl _)
      | (with_reducible exact LeO.none _)
      | (with_reducible refine LeO.ite ?_ ?_)
      | (with_reducible refine LeO.bind ?_ (fun _ => ?_))
      | exact ih0 _ _ _ _
      | exact crc_register_take.mono _ _ _
      | exact LeO.none _
      | refine LeO.ite ?_ ?_
      | refine LeO.bind ?_ (fun _ => ?_)
set_option maxHeartbeats 8000000 in
set_option maxRecDepth 100000 in
theorem crc_Sum.calls (k : Nat) (A0 : Option Addr) (c0 : Nat) (l0 : List Int) (r : Int) (w : World) (hr0 : Kd.C (Kd.int .u8) w A0 l0.length l0) (hc0 : l0.length ≤ c0) (h : crc_Sum.f k l0 = some r) :
    Calls Try.prog 26 #[.slice A0 l0.length c0] w fun e w' => e = .returned (.int .u32 r) ∧ Drawn0 w w' := by
  have HR0 := Aside0.mk hr0
  have HC0 := Aside0.mk hc0
  clear hr0 hc0
  have H : (crc_Sum.l0 k 4294967295 l0 (l0.length : Int) 0) = some r := h
  clear h
  have H' := Aside0.mk H
  clear H
  go_enter Try.func26, Try.ntmps26
  go_wp2
  go_loopg [3, 9] k (fun kq v3 v9 w' => ∃ (x3_1 : Int) (x9_1 : Int), v3 = .int .u32 x3_1 ∧ v9 = .int .i64 x9_1 ∧ Aside0 (crc_Sum.l0 kq x3_1 l0 (l0.length : Int) x9_1 = some r) ∧ Aside0 (kq ≤ k) ∧ Drawn0 w w')
  case atStart => exact ⟨(4294967295), (0), (by first | rfl | (simp; done) | (simp [*]; done)), (by first | rfl | (simp; done) | (simp [*]; done)), H', ⟨Nat.le_refl _⟩, by repeat (first | exact Drawn0.refl _ | apply Drawn0.step)⟩
  case round =>
    clear H'
    obtain ⟨x3_1, x9_1, rfl, rfl, HA, HK1, ⟨m1, rfl⟩⟩ := hrel
    cases gk with
    | zero => exact absurd HA.out (by simp [crc_Sum.l0])
    | succ k1 =>
      have H := HA.out
      clear HA
      simp only [crc_Sum.l0] at H
      by_cases c2 : x9_1 < (l0.length : Int)
      · rw [if_pos c2] at H
        have c2b0 : decide (x9_1 < (l0.length : Int)) = true := decide_eq_true c2
        clear c2
        by_cases c3 : 0 ≤ x9_1
        · rw [if_pos c3] at H
          have c3b0 : decide (0 ≤ x9_1) = true := decide_eq_true c3
          clear c3
          by_cases c4 : x9_1 < (l0.length : Int)
          · rw [if_pos c4] at H
            have c4b0 : decide (x9_1 < (l0.length : Int)) = true := decide_eq_true c4
            clear c4
            replace H := Option.bind_eq_some_iff.mp H
            obtain ⟨t103, A50, H⟩ := H
            replace H : (crc_Sum.l0 k1 t103 l0 (l0.length : Int) (wrap64 (x9_1 + 1))) = some r := H
            have A5 := Aside0.mk A50
            clear A50
            have H' := Aside0.mk H
            clear H
            have p102 : 0 ≤ (x9_1 : Int) := of_decide_eq_true (by first | (with_reducible assumption) | assumption)
            have q102 : x9_1 < (l0.length : Int) := of_decide_eq_true (by first | (with_reducible assumption) | assumption)
            obtain ⟨ad102, e102, hx102_0⟩ := Kd.at_int HR0.out x9_1 p102 q102
            cases e102
            replace p102 := eq_true p102
            replace q102 := eq_true q102
            go_wp2_with (first | (go_at_call 66; (with_reducible refine (crc_register_take.calls k1 x3_1 (rd l0 x9_1) t103 _ A5.out).mono ?_); rintro e w' ⟨rfl, ⟨nd, rfl⟩⟩))
            go_roundg k1
            case measure => have := HK1.out; omega
            case rel => exact ⟨(t103), (wrap64 (x9_1 + 1)), (by first | rfl | (simp; done) | (simp [*]; done)), (by first | rfl | (simp; done) | (simp [*]; done)), H', ⟨by have := HK1.out; omega⟩, by repeat (first | exact Drawn0.refl _ | apply Drawn0.step)⟩
          · rw [if_neg c4] at H
            exact absurd H (by simp)
        · rw [if_neg c3] at H
          exact absurd H (by simp)
      · rw [if_neg c2] at H
        have c2b0 : decide (x9_1 < (l0.length : Int)) = false := decide_eq_false c2
        clear c2
        obtain rfl := Option.some.inj H
        go_wp2
        go_ret
        exact ⟨by first | rfl | (simp; done) | (simp [*]; done), by repeat (first | exact Drawn0.refl _ | apply Drawn0.step)⟩

-- NOT PRINTED: function 92 (slices_Grow_byte_byte)

/-! ### concat_bytes: function 74 (by hand) -/
set_option maxHeartbeats 2000000 in
set_option maxRecDepth 100000 in
theorem grow_byte (n : Int) (h0 : 0 ≤ n) (hn : n.toNat * 1 ≤ 140737488355328) (w : World) :
    Calls Try.prog 92 #[.slice none 0 0, .int .i64 n] w fun e w' => ∃ v0_ : Value, e = .returned v0_ ∧ Kd.R (Kd.int .u8) 5 w' w.heap.size (fun _ => True) v0_ [] ∧ Below w.heap.size w w' := by
  have c0 : decide (n < 0) = false := decide_eq_false (by omega)
  obtain ⟨m, hm⟩ : ∃ m, wrap64 n = m := ⟨_, rfl⟩
  obtain ⟨m2, hm2⟩ : ∃ m2, wrap64 m = m2 := ⟨_, rfl⟩
  have MN : Aside0 (m = n) := ⟨by rw [← hm]; unfold wrap64; omega⟩
  have MM : Aside0 (m2 = n) := ⟨by rw [← hm2, MN.out]; unfold wrap64; omega⟩
  by_cases hp : 0 < n
  · have c1 : decide (0 < m) = true := decide_eq_true (by have := MN.out; omega)
    have H0 : Aside0 (0 ≤ m) := ⟨by have := MN.out; omega⟩
    have HN : Aside0 ((([] : List Int).length + m.toNat) * 1 ≤ 140737488355328) := ⟨by have := MN.out; simp only [List.length_nil]; omega⟩
    clear hp h0 hn
    go_enter Try.func92, Try.ntmps92
    go_wp2_with (first | ((with_reducible refine gate_builtin (b := .append) (xs := #[.tmp 20, .tmp 21]) rfl ?_); (try (refine gate_guard (by rfl) ?_; dsimp only)); at_builtin; refine Kd.R_append_zeros (Kd.int .u8) (w0 := w) w.heap.size rfl (.tmp 20) (.tmp 21) 22 3 5 (.int .u8 0) 1 rfl Try.underlying22 Try.underlying3 info5 rfl (by decide) (by decide) (.slice none 0 0) [] (0 : Int) m (fun _ => True) rfl (show Value.int .i64 (wrap64 n) = Value.int .i64 m from congrArg _ hm) rfl (fun _ _ => trivial) (Kd.R_nil _ _ _ _ _) H0.out (Below.refl _ _) (Nat.le_refl _) HN.out ?_; intro v1 w1 hR hB _ _; obtain ⟨A1, cap1, rfl, hle1, _⟩ := Kd.R_reads hR; have hRT := Aside0.mk (Kd.R_take hR (m := 0) (Nat.zero_le _)); have hBT := Aside0.mk hB; clear hR hB; generalize ([] ++ List.replicate m.toNat (0 : Int)).length = ln at hle1))
    go_ret
    exact ⟨_, rfl, hRT.out, hBT.out⟩
  · have c1 : decide (0 < m) = false := decide_eq_false (by have := MN.out; omega)
    clear hp h0 hn
    go_enter Try.func92, Try.ntmps92
    go_wp2_with fail
    go_ret
    exact ⟨_, rfl, Kd.R_nil _ _ _ _ _, Below.refl _ _⟩
def lens (ps : List (Option Addr × Nat × List Int)) : Nat := (ps.map fun p => p.2.2.length).sum
def flat (ps : List (Option Addr × Nat × List Int)) : List Int := (ps.map fun p => p.2.2).flatten
theorem lens_take (ps : List (Option Addr × Nat × List Int)) (i : Nat) (p : Option Addr × Nat × List Int) (h : ps[i]? = some p) : lens (ps.take (i + 1)) = lens (ps.take i) + p.2.2.length := by
  unfold lens
  rw [List.take_add_one, h]
  simp
theorem flat_take (ps : List (Option Addr × Nat × List Int)) (i : Nat) (p : Option Addr × Nat × List Int) (h : ps[i]? = some p) : flat (ps.take (i + 1)) = flat (ps.take i) ++ p.2.2 := by
  unfold flat
  rw [List.take_add_one, h]
  simp
theorem lens_le (ps : List (Option Addr × Nat × List Int)) : ∀ i, lens (ps.take i) ≤ lens ps := by
  intro i
  have : lens ps = lens (ps.take i) + lens (ps.drop i) := by
    unfold lens
    rw [← List.sum_append, ← List.map_append, List.take_append_drop]
  omega
theorem flat_length (ps : List (Option Addr × Nat × List Int)) : (flat ps).length = lens ps := by
  unfold flat lens
  rw [List.length_flatten, List.map_map]
  rfl
theorem cell_below {w W : World} {g j : Nat} {v : Value} (h : w.cell? ⟨g, j, none⟩ = some v) (hb : Below w.heap.size w W) : W.cell? ⟨g, j, none⟩ = some v := by
  have hg := World.block_lt_of_cell? w ⟨g, j, none⟩ h
  have := hb.block g hg
  simpa [World.cell?, this] using h
set_option maxHeartbeats 2000000 in
set_option maxRecDepth 100000 in
theorem concat_bytes (ps : List (Option Addr × Nat × List Int)) (g : Nat) (c : Nat) (w : World) (hp : ∀ j p, ps[j]? = some p → w.cell? ⟨g, j, none⟩ = some (.slice p.1 p.2.2.length p.2.1) ∧ Kd.C (Kd.int .u8) w p.1 p.2.2.length p.2.2) (hl : lens ps ≤ 1000000) (hn : ps.length ≤ 1000) (hg : g < w.heap.size) :
    Calls Try.prog 74 #[.slice (some ⟨g, 0, none⟩) ps.length c] w fun e w' => ∃ v0_ : Value, e = .returned v0_ ∧ Kd.R (Kd.int .u8) 5 w' w.heap.size (fun _ => True) v0_ (flat ps) ∧ Below w.heap.size w w' := by
  have HP := Aside0.mk hp
  have HL := Aside0.mk hl
  have HN := Aside0.mk hn
  have HG := Aside0.mk hg
  clear hp hl hn hg
  go_enter Try.func74, Try.ntmps74
  go_wp2_with fail
  go_loopg [3, 11] (ps.length + 1) (fun kq v3 v11 w' => ∃ i : Nat, v3 = .int .i64 (lens (ps.take i) : Int) ∧ v11 = .int .i64 (i : Int) ∧ Aside0 (kq + i = ps.length + 1 ∧ i ≤ ps.length) ∧ w' = w)
  case atStart => exact ⟨0, rfl, rfl, ⟨by omega⟩, rfl⟩
  case round =>
    obtain ⟨i, rfl, rfl, HI, hwr⟩ := hrel
    obtain rfl := hwr.symm
    by_cases hi : i < ps.length
    · have c1 : decide ((i : Int) < (ps.length : Int)) = true := decide_eq_true (by omega)
      have c2 : decide (i < ps.length) = true := decide_eq_true hi
      obtain ⟨p, hp⟩ : ∃ p, ps[i]? = some p := ⟨_, List.getElem?_eq_getElem hi⟩
      have hq := (HP.out i p hp).1
      have hL := lens_take ps i p hp
      have hle := lens_le ps (i + 1)
      obtain ⟨pa, pc, pl⟩ := p
      dsimp only at hq hL
      have p0 : (0 ≤ (i : Int)) = True := eq_true (by omega)
      have p1 : ((i : Int) < (ps.length : Int)) = True := eq_true (by omega)
      have p2 : (i < ps.length) = True := eq_true hi
      obtain ⟨s0, hs0⟩ : ∃ s0, lens (ps.take i) = s0 := ⟨_, rfl⟩
      obtain ⟨s1, hs1⟩ : ∃ s1, lens (ps.take (i + 1)) = s1 := ⟨_, rfl⟩
      have hS1 := Aside0.mk hs1
      rw [hs0, hs1] at hL
      rw [hs1] at hle
      have hw : wrap64 ((s0 : Int) + (pl.length : Int)) = (s1 : Int) := by have := HL.out; unfold wrap64; omega
      have hi1 : wrap64 ((i : Int) + 1) = ((i + 1 : Nat) : Int) := by have := HN.out; unfold wrap64; omega
      have hneg : decide ((s1 : Int) < 0) = false := decide_eq_false (by omega)
      have hneg2 : decide (wrap64 ((s0 : Int) + (pl.length : Int)) < 0) = false := by rw [hw]; exact hneg
      have HW := Aside0.mk hw
      have HI1 := Aside0.mk hi1
      clear hw hi1
      clear hL hle hs1
      rw [hs0]
      go_wp2_with fail
      go_roundg (gk - 1)
      case measure => have := HI.out; omega
      case rel => exact ⟨i + 1, by rw [hS1.out]; exact congrArg _ HW.out, congrArg _ HI1.out, ⟨by have := HI.out; omega⟩, rfl⟩
    · have c1 : decide ((i : Int) < (ps.length : Int)) = false := decide_eq_false (by omega)
      have c2 : decide (i < ps.length) = false := decide_eq_false hi
      have hin : i = ps.length := by have := HI.out; omega
      subst hin
      rw [List.take_length]
      go_wp2_with fail
      refine (grow_byte (lens ps) (by omega) (by have := HL.out; omega) w).mono ?_
      rintro e w2 ⟨v0, rfl, hR, hB⟩
      have HO := Aside0.mk hR
      have HB := Aside0.mk hB
      clear hR hB
      go_wp2_with fail
      go_loopg [6, 27] (ps.length + 1) (fun kq v6 v27 w' => ∃ i : Nat, v27 = .int .i64 (i : Int) ∧ Aside0 (kq + i = ps.length + 1 ∧ i ≤ ps.length) ∧ Aside0 (Kd.R (Kd.int .u8) 5 w' w.heap.size (fun _ => True) v6 (flat (ps.take i))) ∧ Aside0 (Below w.heap.size w w'))
      case atStart => exact ⟨0, rfl, ⟨by omega⟩, HO, HB⟩
      case round =>
        clear HO HB
        obtain ⟨i, rfl, HI, HO, HB⟩ := hrel
        by_cases hi : i < ps.length
        · have c1 : decide ((i : Int) < (ps.length : Int)) = true := decide_eq_true (by omega)
          have c2 : decide (i < ps.length) = true := decide_eq_true hi
          obtain ⟨p, hp⟩ : ∃ p, ps[i]? = some p := ⟨_, List.getElem?_eq_getElem hi⟩
          obtain ⟨hq0, hC⟩ := HP.out i p hp
          have hL := lens_take ps i p hp
          have hF := flat_take ps i p hp
          have hle := lens_le ps (i + 1)
          obtain ⟨pa, pc, pl⟩ := p
          dsimp only at hq0 hC hL hF
          have hq := cell_below hq0 HB.out
          have HF := Aside0.mk hF
          have HCW := Aside0.mk (Kd.C_below hC HB.out)
          have LN : Aside0 (((flat (ps.take i)).length + pl.length) * 1 ≤ 140737488355328) := ⟨by rw [flat_length]; have := HL.out; omega⟩
          clear hF hC hq0 hL hle hp
          have p0 : (0 ≤ (i : Int)) = True := eq_true (by omega)
          have p1 : ((i : Int) < (ps.length : Int)) = True := eq_true (by omega)
          have p2 : (i < ps.length) = True := eq_true hi
          have hi1 : wrap64 ((i : Int) + 1) = ((i + 1 : Nat) : Int) := by have := HN.out; unfold wrap64; omega
          have HI1 := Aside0.mk hi1
          clear hi1
          have HS := Aside0.mk (below_size HB.out)
          go_wp2_with (first | ((with_reducible refine gate_builtin (b := .append) (xs := #[.tmp 31, .tmp 32]) rfl ?_); (try (refine gate_guard (by rfl) ?_; dsimp only)); at_builtin; refine Kd.R_append_rows (Kd.int .u8) (w0 := w) w.heap.size rfl (.tmp 31) (.tmp 32) 22 5 (.int .u8 0) 1 rfl Try.underlying22 info5 rfl (by decide) (by omega) u6 (flat (ps.take i)) pl _ _ _ (fun _ => True) (fun _ => False) rfl rfl HO.out HCW.out (fun _ _ h => h) (fun _ h => h.elim) (fun _ _ => trivial) HB.out HS.out LN.out ?_; intro v1 w3 ho hb hg hat; rw [← HF.out] at ho; have HO1 := Aside0.mk ho; have HB1 := Aside0.mk hb; clear ho hb hg hat))
          go_roundg (gk - 1)
          case measure => have := HI.out; omega
          case rel => exact ⟨i + 1, congrArg _ HI1.out, ⟨by have := HI.out; omega⟩, HO1, HB1⟩
        · have c1 : decide ((i : Int) < (ps.length : Int)) = false := decide_eq_false (by omega)
          have c2 : decide (i < ps.length) = false := decide_eq_false hi
          have hin : i = ps.length := by have := HI.out; omega
          subst hin
          rw [List.take_length] at HO
          go_wp2_with fail
          go_ret
          exact ⟨_, rfl, HO.out, HB.out⟩


/-! ### frame_Put: function 47 (by hand) -/
def frame_Put.four (s : Int) : List Int := [s / 16777216 % 256, s / 65536 % 256, s / 256 % 256, s % 256]
def frame_Put.long (l0 : List Int) : List Int := [(l0.length : Int) / 256, (l0.length : Int) % 256]
theorem size_alloc (w : World) (o : Obj) : (w.alloc o).heap.size = w.heap.size + 1 := Array.size_push _
theorem C_lit (w : World) (xs : List Int) (t : TypeId) (hm : xs.length ≤ 1000) : Kd.C (Kd.int .u8) (w.alloc (.cells (xs.map (Value.int .u8)).toArray t)) (some ⟨w.heap.size, 0, none⟩) xs.length xs :=
  C_new (Value.int .u8) (fun _ => rfl) w xs _ t (0, 0) rfl (by omega)
def frame_Put.f (k : Nat) (l0 : List Int) : Option (List Int × Bool) := if (l0.length : Int) > 60000 then some ([], false) else ((crc_Sum.f k (frame_Put.long l0 ++ l0)).bind fun s => some (frame_Put.long l0 ++ frame_Put.four s ++ l0, true))
theorem frame_Put.mono : ∀ a0 k, LeO (frame_Put.f k a0) (frame_Put.f (k + 1) a0) := by
  intro a0 k
  unfold frame_Put.f
  refine LeO.ite (LeO.refl _) (LeO.bind (crc_Sum.mono _ _) (fun _ => LeO.refl _))
set_option maxHeartbeats 4000000 in
set_option maxRecDepth 100000 in
theorem frame_Put.calls (k : Nat) (A0 : Option Addr) (c0 : Nat) (l0 : List Int) (r1 : List Int) (r2 : Bool) (w : World) (hr0 : Kd.C (Kd.int .u8) w A0 l0.length l0) (hc0 : l0.length ≤ c0) (h : frame_Put.f k l0 = some (r1, r2)) :
    Calls Try.prog 47 #[.slice A0 l0.length c0] w fun e w' => ∃ v0_ : Value, e = .returned (.tuple #[v0_, .bool r2]) ∧ Kd.R (Kd.int .u8) 5 w' w.heap.size (fun _ => True) v0_ r1 ∧ Below w.heap.size w w' := by
  have HR0 := Aside0.mk hr0
  have HC0 := Aside0.mk hc0
  clear hr0 hc0
  unfold frame_Put.f at h
  by_cases c : (l0.length : Int) > 60000
  · rw [if_pos c] at h
    obtain ⟨rfl, rfl⟩ := Prod.mk.inj (Option.some.inj h)
    clear h
    have c1 : decide (60000 < (l0.length : Int)) = true := decide_eq_true (by omega)
    have c2 : decide (60000 < l0.length) = true := decide_eq_true (by omega)
    have c3 : decide ((l0.length : Int) > 60000) = true := decide_eq_true c
    go_enter Try.func47, Try.ntmps47
    go_wp2_with fail
    go_ret2
    exact ⟨_, rfl, Kd.R_nil _ _ _ _ _, Below.refl _ _⟩
  · rw [if_neg c] at h
    obtain ⟨s, hs, h⟩ := Option.bind_eq_some_iff.1 h
    obtain ⟨rfl, rfl⟩ := Prod.mk.inj (Option.some.inj h)
    clear h
    have HS := Aside0.mk hs
    clear hs
    have c1 : decide (60000 < (l0.length : Int)) = false := decide_eq_false (by omega)
    have c2 : decide (60000 < l0.length) = false := decide_eq_false (by omega)
    have c3 : decide ((l0.length : Int) > 60000) = false := decide_eq_false c
    have HL : Aside0 (l0.length ≤ 60000) := ⟨by omega⟩
    go_enter Try.func47, Try.ntmps47
    go_wp2_with fail
    have B1 := Aside0.mk (below_alloc (below_alloc (Below.refl _ w) (Obj.cells #[Value.int IntKind.u8 (↑l0.length / 256), Value.int IntKind.u8 (↑l0.length % 256)] 5)) (Obj.cells #[Value.slice (some { block := w.heap.size, off := 0 }) 2 2, Value.slice A0 l0.length c0] 22))
    have X1 := Aside0.mk (Kd.C_below (C_lit w (frame_Put.long l0) 5 (by decide : 2 ≤ 1000)) (below_alloc (Below.refl _ _) (Obj.cells #[Value.slice (some { block := w.heap.size, off := 0 }) 2 2, Value.slice A0 l0.length c0] 22)))
    refine (concat_bytes [(some ⟨w.heap.size, 0, none⟩, 2, frame_Put.long l0), (A0, c0, l0)] (w.heap.size + 1) 2 _ ?_ (by have := HL.out; simp [lens, frame_Put.long]; omega) (by decide : 2 ≤ 1000) (by rw [size_alloc, size_alloc]; omega)).mono ?_
    · intro j p hj
      have hb := blk_new (w.alloc (Obj.cells #[Value.int IntKind.u8 (↑l0.length / 256), Value.int IntKind.u8 (↑l0.length % 256)] 5)) (Obj.cells #[Value.slice (some { block := w.heap.size, off := 0 }) 2 2, Value.slice A0 l0.length c0] 22)
      rw [size_alloc] at hb
      rw [blk_cell hb]
      match j, hj with
      | 0, hj => obtain rfl := Option.some.inj hj; exact ⟨rfl, X1.out⟩
      | 1, hj => obtain rfl := Option.some.inj hj; exact ⟨rfl, Kd.C_below HR0.out B1.out⟩
    rintro e w3 ⟨v3, rfl, hR, hB⟩
    obtain ⟨A3, c3, rfl, hle, hC⟩ := Kd.R_reads hR
    rw [show flat [(some ⟨w.heap.size, 0, none⟩, 2, frame_Put.long l0), (A0, c0, l0)] = frame_Put.long l0 ++ l0 from by simp [flat]] at hle hC ⊢
    obtain ⟨l3, hl3⟩ : ∃ l3, frame_Put.long l0 ++ l0 = l3 := ⟨_, rfl⟩
    rw [hl3] at hle hC HS ⊢
    clear hl3
    have HC3 := Aside0.mk hC
    have HL3 := Aside0.mk hle
    have X3 := Aside0.mk (Kd.C_below X1.out hB)
    have B3 := Aside0.mk (below_step B1.out hB)
    clear hC hle hB hR X1 B1
    go_wp2_with fail
    refine (crc_Sum.calls k A3 c3 l3 s w3 HC3.out HL3.out HS.out).mono ?_
    rintro e w4 ⟨rfl, hd⟩
    have X4 := Aside0.mk (Kd.C_below X3.out hd.below)
    have B4 := Aside0.mk (below_step B3.out hd.below)
    clear hd HC3 HL3 X3 B3
    go_wp2_with fail
    have S4 := Aside0.mk (below_size B4.out)
    have C6 := Aside0.mk (below_alloc (below_alloc (Below.refl _ w4) (Obj.cells #[Value.int IntKind.u8 (s / 16777216 % 256), Value.int IntKind.u8 (s / 65536 % 256), Value.int IntKind.u8 (s / 256 % 256), Value.int IntKind.u8 (s % 256)] 5)) (Obj.cells #[Value.slice (some { block := w.heap.size, off := 0 }) 2 2, Value.slice (some { block := w4.heap.size, off := 0 }) 4 4, Value.slice A0 l0.length c0] 22))
    have Y6 := Aside0.mk (Kd.C_below (C_lit w4 (frame_Put.four s) 5 (by decide : 4 ≤ 1000)) (below_alloc (Below.refl _ _) (Obj.cells #[Value.slice (some { block := w.heap.size, off := 0 }) 2 2, Value.slice (some { block := w4.heap.size, off := 0 }) 4 4, Value.slice A0 l0.length c0] 22)))
    refine (concat_bytes [(some ⟨w.heap.size, 0, none⟩, 2, frame_Put.long l0), (some ⟨w4.heap.size, 0, none⟩, 4, frame_Put.four s), (A0, c0, l0)] (w4.heap.size + 1) 3 _ ?_ (by have := HL.out; simp [lens, frame_Put.long, frame_Put.four]; omega) (by decide : 3 ≤ 1000) (by rw [size_alloc, size_alloc]; omega)).mono ?_
    · intro j p hj
      have hb := blk_new (w4.alloc (Obj.cells #[Value.int IntKind.u8 (s / 16777216 % 256), Value.int IntKind.u8 (s / 65536 % 256), Value.int IntKind.u8 (s / 256 % 256), Value.int IntKind.u8 (s % 256)] 5)) (Obj.cells #[Value.slice (some { block := w.heap.size, off := 0 }) 2 2, Value.slice (some { block := w4.heap.size, off := 0 }) 4 4, Value.slice A0 l0.length c0] 22)
      rw [size_alloc] at hb
      rw [blk_cell hb]
      match j, hj with
      | 0, hj => obtain rfl := Option.some.inj hj; exact ⟨rfl, Kd.C_below X4.out C6.out⟩
      | 1, hj => obtain rfl := Option.some.inj hj; exact ⟨rfl, Y6.out⟩
      | 2, hj => obtain rfl := Option.some.inj hj; exact ⟨rfl, Kd.C_below HR0.out (below_step B4.out C6.out)⟩
    rintro e w7 ⟨v7, rfl, hR, hB⟩
    rw [show flat [(some ⟨w.heap.size, 0, none⟩, 2, frame_Put.long l0), (some ⟨w4.heap.size, 0, none⟩, 4, frame_Put.four s), (A0, c0, l0)] = frame_Put.long l0 ++ frame_Put.four s ++ l0 from by simp [flat]] at hR
    have R7 := Aside0.mk (Kd.R_lower hR (Nat.le_trans S4.out C6.out.size))
    have B7 := Aside0.mk (below_step (below_step B4.out C6.out) hB)
    clear hR hB
    go_wp2_with fail
    go_ret2
    exact ⟨_, rfl, R7.out, B7.out⟩


/-! ### bytes_Equal: function 76 -/
def bytes_Equal.f (l0 : List Int) (l1 : List Int) : Option (Bool) := some ((strOfNums l0).toList == (strOfNums l1).toList)
set_option maxHeartbeats 8000000 in
set_option maxRecDepth 100000 in
theorem bytes_Equal.calls (A0 : Option Addr) (c0 : Nat) (l0 : List Int) (A1 : Option Addr) (c1 : Nat) (l1 : List Int) (r : Bool) (w : World) (hr0 : Kd.C (Kd.int .u8) w A0 l0.length l0) (hc0 : l0.length ≤ c0) (hr1 : Kd.C (Kd.int .u8) w A1 l1.length l1) (hc1 : l1.length ≤ c1) (h : bytes_Equal.f l0 l1 = some r) :
    Calls Try.prog 76 #[.slice A0 l0.length c0, .slice A1 l1.length c1] w fun e w' => e = .returned (.bool r) ∧ Drawn0 w w' := by
  have HR0 := Aside0.mk hr0
  have HC0 := Aside0.mk hc0
  clear hr0 hc0
  have HR1 := Aside0.mk hr1
  have HC1 := Aside0.mk hc1
  clear hr1 hc1
  have H : (some ((strOfNums l0).toList == (strOfNums l1).toList)) = some r := h
  clear h
  obtain rfl := Option.some.inj H
  have hcv3 := Kd.C_string (P := Try.prog) (A := A0) (c := c0) Try.underlying22 Try.underlying5 Try.underlying9 HR0.out
  have hcv4 := Kd.C_string (P := Try.prog) (A := A1) (c := c1) Try.underlying22 Try.underlying5 Try.underlying9 HR1.out
  go_enter Try.func76, Try.ntmps76
  go_wp2
  go_ret
  exact ⟨by first | rfl | (simp; done) | (simp [*]; done), by repeat (first | exact Drawn0.refl _ | apply Drawn0.step)⟩

/-! ### frame_Take: function 49 -/
def frame_Take.f (k : Nat) (l0 : List Int) : Option (List Int × Int × Bool) := if (l0.length : Int) < 6 then (some (([] : List Int), 0, false)) else (if 0 < (l0.length : Int) then (if 1 < (l0.length : Int) then (if (wrap64 ((wrap64 (6 + (wrap64 ((wrap64 (rd l0 0)) * 256)))) + (wrap64 (rd l0 1)))) > (l0.length : Int) then (some (([] : List Int), 0, false)) else (if 6 ≤ (wrap64 ((wrap64 (6 + (wrap64 ((wrap64 (rd l0 0)) * 256)))) + (wrap64 (rd l0 1)))) then (if (wrap64 ((wrap64 (6 + (wrap64 ((wrap64 (rd l0 0)) * 256)))) + (wrap64 (rd l0 1)))) ≤ (l0.length : Int) then ((frame_Put.f k ((l0.take ((wrap64 ((wrap64 (6 + (wrap64 ((wrap64 (rd l0 0)) * 256)))) + (wrap64 (rd l0 1)))) : Int).toNat).drop 6)).bind fun bt107 => (if bt107.2 = true then (if 0 ≤ (wrap64 ((wrap64 (6 + (wrap64 ((wrap64 (rd l0 0)) * 256)))) + (wrap64 (rd l0 1)))) then ((bytes_Equal.f bt107.1 (l0.take ((wrap64 ((wrap64 (6 + (wrap64 ((wrap64 (rd l0 0)) * 256)))) + (wrap64 (rd l0 1)))) : Int).toNat)).bind fun t112 => (if t112 = true then (if 6 ≤ (bt107.1.length : Int) then (some ((bt107.1.drop (6 : Int).toNat), wrap64 ((wrap64 (6 + (wrap64 ((wrap64 (rd l0 0)) * 256)))) + (wrap64 (rd l0 1))), true)) else (none)) else (some (([] : List Int), 0, false)))) else (none)) else (some (([] : List Int), 0, false)))) else (none)) else (none))) else (none)) else (none))
theorem frame_Take.mono : ∀ a0 k, LeO (frame_Take.f k a0) (frame_Take.f (k + 1) a0) := by
  intro a0 k
  unfold frame_Take.f
  repeat' first
      | (with_reducible exact frame_Put.mono _ _)
      | (with_reducible exact LeO.refl _)
      | (with_reducible exact LeO.none _)
      | (with_reducible refine LeO.ite ?_ ?_)
      | (with_reducible refine LeO.bind ?_ (fun _ => ?_))
      | exact frame_Put.mono _ _
      | exact LeO.none _
      | refine LeO.ite ?_ ?_
      | refine LeO.bind ?_ (fun _ => ?_)
set_option maxHeartbeats 8000000 in
set_option maxRecDepth 100000 in
theorem frame_Take.calls (k : Nat) (A0 : Option Addr) (c0 : Nat) (l0 : List Int) (r1 : List Int) (r2 : Int) (r3 : Bool) (w : World) (hr0 : Kd.C (Kd.int .u8) w A0 l0.length l0) (hc0 : l0.length ≤ c0) (h : frame_Take.f k l0 = some (r1, r2, r3)) :
    Calls Try.prog 49 #[.slice A0 l0.length c0] w fun e w' => ∃ v0_ : Value, e = .returned (.tuple #[v0_, .int .i64 r2, .bool r3]) ∧ Kd.Q (Kd.int .u8) 5 w' w.heap.size (fun _ => True) v0_ r1 ∧ Below w.heap.size w w' := by
  have HR0 := Aside0.mk hr0
  have HC0 := Aside0.mk hc0
  clear hr0 hc0
  have HB := Aside0.mk (Below.refl w.heap.size w)
  have H : (if (l0.length : Int) < 6 then (some (([] : List Int), 0, false)) else (if 0 < (l0.length : Int) then (if 1 < (l0.length : Int) then (if (wrap64 ((wrap64 (6 + (wrap64 ((wrap64 (rd l0 0)) * 256)))) + (wrap64 (rd l0 1)))) > (l0.length : Int) then (some (([] : List Int), 0, false)) else (if 6 ≤ (wrap64 ((wrap64 (6 + (wrap64 ((wrap64 (rd l0 0)) * 256)))) + (wrap64 (rd l0 1)))) then (if (wrap64 ((wrap64 (6 + (wrap64 ((wrap64 (rd l0 0)) * 256)))) + (wrap64 (rd l0 1)))) ≤ (l0.length : Int) then ((frame_Put.f k ((l0.take ((wrap64 ((wrap64 (6 + (wrap64 ((wrap64 (rd l0 0)) * 256)))) + (wrap64 (rd l0 1)))) : Int).toNat).drop 6)).bind fun bt107 => (if bt107.2 = true then (if 0 ≤ (wrap64 ((wrap64 (6 + (wrap64 ((wrap64 (rd l0 0)) * 256)))) + (wrap64 (rd l0 1)))) then ((bytes_Equal.f bt107.1 (l0.take ((wrap64 ((wrap64 (6 + (wrap64 ((wrap64 (rd l0 0)) * 256)))) + (wrap64 (rd l0 1)))) : Int).toNat)).bind fun t112 => (if t112 = true then (if 6 ≤ (bt107.1.length : Int) then (some ((bt107.1.drop (6 : Int).toNat), wrap64 ((wrap64 (6 + (wrap64 ((wrap64 (rd l0 0)) * 256)))) + (wrap64 (rd l0 1))), true)) else (none)) else (some (([] : List Int), 0, false)))) else (none)) else (some (([] : List Int), 0, false)))) else (none)) else (none))) else (none)) else (none))) = some (r1, r2, r3) := h
  clear h
  by_cases c2 : (l0.length : Int) < 6
  · rw [if_pos c2] at H
    have c2b0 : decide ((l0.length : Int) < 6) = true := decide_eq_true c2
    have c2b1 : decide (l0.length < 6) = true := decide_eq_true (by omega)
    clear c2
    simp only [Option.some.injEq, Prod.mk.injEq] at H
    obtain ⟨rfl, rfl, rfl⟩ := H
    go_enter Try.func49, Try.ntmps49
    go_wp2
    repeat (go_quiet (fail); try go_wp2)
    go_ret3
    exact ⟨_, by first | rfl | (simp [errW_none, errW_some] <;> rfl) | (simp [*, errW_none, errW_some] <;> rfl), Kd.Q_of_R (by first | exact Kd.R_nil _ _ _ _ _ | exact Kd.N_nil _ _ _ _ _ | exact Kd.V_nil _ _ _ _ _ | exact Kd.Q_nil _ _ _ _ _ | exact Kd.S_nil _ _ _ _ _), by repeat (first | (with_reducible first | exact HB.out | apply below_alloc | apply pw_below_drewN | apply below_drew1) | exact HB.out)⟩
  · rw [if_neg c2] at H
    have c2b0 : decide ((l0.length : Int) < 6) = false := decide_eq_false c2
    have c2b1 : decide (l0.length < 6) = false := decide_eq_false (by omega)
    clear c2
    by_cases c3 : 0 < (l0.length : Int)
    · rw [if_pos c3] at H
      have c3b0 : decide (0 < (l0.length : Int)) = true := decide_eq_true c3
      have c3b1 : decide (0 < l0.length) = true := decide_eq_true (by omega)
      clear c3
      by_cases c4 : 1 < (l0.length : Int)
      · rw [if_pos c4] at H
        have c4b0 : decide (1 < (l0.length : Int)) = true := decide_eq_true c4
        have c4b1 : decide (1 < l0.length) = true := decide_eq_true (by omega)
        clear c4
        by_cases c5 : (wrap64 ((wrap64 (6 + (wrap64 ((wrap64 (rd l0 0)) * 256)))) + (wrap64 (rd l0 1)))) > (l0.length : Int)
        · rw [if_pos c5] at H
          have c5b0 : decide ((l0.length : Int) < (wrap64 ((wrap64 (6 + (wrap64 ((wrap64 (rd l0 0)) * 256)))) + (wrap64 (rd l0 1))))) = true := decide_eq_true c5
          clear c5
          simp only [Option.some.injEq, Prod.mk.injEq] at H
          obtain ⟨rfl, rfl, rfl⟩ := H
          have p104 : 0 ≤ (0 : Int) := (by omega)
          have q104 : 0 < (l0.length : Int) := of_decide_eq_true (by first | (with_reducible assumption) | assumption)
          obtain ⟨ad104, e104, hx104_0⟩ := Kd.at_int HR0.out 0 p104 q104
          cases e104
          have qi104 : (0 < l0.length) = True := eq_true (by omega)
          (try rw [show ((0 : Int)).toNat = 0 from rfl] at hx104_0)
          (try rw [Addr.add_zero'] at hx104_0)
          replace p104 := eq_true p104
          replace q104 := eq_true q104
          have p105 : 0 ≤ (1 : Int) := (by omega)
          have q105 : 1 < (l0.length : Int) := of_decide_eq_true (by first | (with_reducible assumption) | assumption)
          obtain ⟨ad105, e105, hx105_0⟩ := Kd.at_int HR0.out 1 p105 q105
          obtain rfl : ad104 = ad105 := (by injection e105)
          (try simp only [show (1 : Int).toNat = 1 from rfl, Nat.reduceMul, Nat.reduceEqDiff, Go.Addr.add, ↓reduceIte] at hx105_0)
          have qi105 : (1 < l0.length) = True := eq_true (by omega)
          (try rw [show ((1 : Int)).toNat = 1 from rfl] at hx105_0)
          replace p105 := eq_true p105
          replace q105 := eq_true q105
          go_enter Try.func49, Try.ntmps49
          go_wp2
          repeat (go_quiet (fail); try go_wp2)
          go_ret3
          exact ⟨_, by first | rfl | (simp [errW_none, errW_some] <;> rfl) | (simp [*, errW_none, errW_some] <;> rfl), Kd.Q_of_R (by first | exact Kd.R_nil _ _ _ _ _ | exact Kd.N_nil _ _ _ _ _ | exact Kd.V_nil _ _ _ _ _ | exact Kd.Q_nil _ _ _ _ _ | exact Kd.S_nil _ _ _ _ _), by repeat (first | (with_reducible first | exact HB.out | apply below_alloc | apply pw_below_drewN | apply below_drew1) | exact HB.out)⟩
        · rw [if_neg c5] at H
          have c5b0 : decide ((l0.length : Int) < (wrap64 ((wrap64 (6 + (wrap64 ((wrap64 (rd l0 0)) * 256)))) + (wrap64 (rd l0 1))))) = false := decide_eq_false c5
          clear c5
          by_cases c6 : 6 ≤ (wrap64 ((wrap64 (6 + (wrap64 ((wrap64 (rd l0 0)) * 256)))) + (wrap64 (rd l0 1))))
          · rw [if_pos c6] at H
            have c6b0 := eq_true c6
            have c6b1 : decide (6 ≤ (wrap64 ((wrap64 (6 + (wrap64 ((wrap64 (rd l0 0)) * 256)))) + (wrap64 (rd l0 1))))) = true := decide_eq_true c6
            by_cases c7 : (wrap64 ((wrap64 (6 + (wrap64 ((wrap64 (rd l0 0)) * 256)))) + (wrap64 (rd l0 1)))) ≤ (l0.length : Int)
            · rw [if_pos c7] at H
              have c7b0 := eq_true c7
              have c7b1 : decide ((wrap64 ((wrap64 (6 + (wrap64 ((wrap64 (rd l0 0)) * 256)))) + (wrap64 (rd l0 1)))) ≤ (l0.length : Int)) = true := decide_eq_true c7
              replace H := Option.bind_eq_some_iff.mp H
              obtain ⟨⟨t107, t108⟩, A80, H⟩ := H
              replace H : (if t108 = true then (if 0 ≤ (wrap64 ((wrap64 (6 + (wrap64 ((wrap64 (rd l0 0)) * 256)))) + (wrap64 (rd l0 1)))) then ((bytes_Equal.f t107 (l0.take ((wrap64 ((wrap64 (6 + (wrap64 ((wrap64 (rd l0 0)) * 256)))) + (wrap64 (rd l0 1)))) : Int).toNat)).bind fun t112 => (if t112 = true then (if 6 ≤ (t107.length : Int) then (some ((t107.drop (6 : Int).toNat), wrap64 ((wrap64 (6 + (wrap64 ((wrap64 (rd l0 0)) * 256)))) + (wrap64 (rd l0 1))), true)) else (none)) else (some (([] : List Int), 0, false)))) else (none)) else (some (([] : List Int), 0, false))) = some (r1, r2, r3) := H
              have A8 := Aside0.mk A80
              clear A80
              by_cases c9 : t108 = true
              · subst c9
                have H1 : (if 0 ≤ (wrap64 ((wrap64 (6 + (wrap64 ((wrap64 (rd l0 0)) * 256)))) + (wrap64 (rd l0 1)))) then ((bytes_Equal.f t107 (l0.take ((wrap64 ((wrap64 (6 + (wrap64 ((wrap64 (rd l0 0)) * 256)))) + (wrap64 (rd l0 1)))) : Int).toNat)).bind fun t112 => (if t112 = true then (if 6 ≤ (t107.length : Int) then (some ((t107.drop (6 : Int).toNat), wrap64 ((wrap64 (6 + (wrap64 ((wrap64 (rd l0 0)) * 256)))) + (wrap64 (rd l0 1))), true)) else (none)) else (some (([] : List Int), 0, false)))) else (none)) = some (r1, r2, r3) := by rw [if_pos rfl] at H; exact H
                clear H
                have H := H1
                clear H1
                obtain ⟨ji10, hji10⟩ : ∃ j_ : Int, (wrap64 ((wrap64 (6 + (wrap64 ((wrap64 (rd l0 0)) * 256)))) + (wrap64 (rd l0 1)))) = j_ := ⟨_, rfl⟩
                replace H : (if 0 ≤ (ji10) then ((bytes_Equal.f t107 (l0.take ((ji10) : Int).toNat)).bind fun t112 => (if t112 = true then (if 6 ≤ (t107.length : Int) then (some ((t107.drop (6 : Int).toNat), ji10, true)) else (none)) else (some (([] : List Int), 0, false)))) else (none)) = some (r1, r2, r3) := by first | (rw [hji10] at H; exact H) | (simp only [hji10] at H ⊢; exact H)
                (try rw [hji10] at c5b0)
                (try rw [hji10] at c6b0)
                (try rw [hji10] at c6b1)
                (try rw [hji10] at c6)
                (try rw [hji10] at c7b0)
                (try rw [hji10] at c7b1)
                (try rw [hji10] at c7)
                (try rw [hji10] at A8)
                have hji10w : (IntKind.i64.wrap ((wrap64 (6 + (wrap64 ((wrap64 (rd l0 0)) * 256)))) + (wrap64 (rd l0 1)))) = ji10 := (i64_w _).trans hji10
                by_cases c11 : 0 ≤ (ji10)
                · rw [if_pos c11] at H
                  have c11b0 := eq_true c11
                  have c11b1 : decide (0 ≤ (ji10)) = true := decide_eq_true c11
                  clear c11
                  have c12b0 := eq_true (of_decide_eq_true (by first | (with_reducible assumption) | assumption) : (ji10) ≤ (l0.length : Int))
                  replace H := Option.bind_eq_some_iff.mp H
                  obtain ⟨t112, A130, H⟩ := H
                  replace H : (if t112 = true then (if 6 ≤ (t107.length : Int) then (some ((t107.drop (6 : Int).toNat), ji10, true)) else (none)) else (some (([] : List Int), 0, false))) = some (r1, r2, r3) := H
                  have A13 := Aside0.mk A130
                  clear A130
                  by_cases c14 : t112 = true
                  · subst c14
                    have H1 : (if 6 ≤ (t107.length : Int) then (some ((t107.drop (6 : Int).toNat), ji10, true)) else (none)) = some (r1, r2, r3) := by rw [if_pos rfl] at H; exact H
                    clear H
                    have H := H1
                    clear H1
                    by_cases c15 : 6 ≤ (t107.length : Int)
                    · rw [if_pos c15] at H
                      have c15b0 := eq_true c15
                      have c15b1 : decide (6 ≤ (t107.length : Int)) = true := decide_eq_true c15
                      clear c15
                      obtain ⟨y113, hy113⟩ : ∃ y_ : List Int, y_ = (t107.drop (6 : Int).toNat) := ⟨_, rfl⟩
                      replace H : (some (y113, ji10, true)) = some (r1, r2, r3) := by first | (rw [hy113]; with_reducible exact H) | (have H2_ := (Option.bind_some _ _).symm.trans H; rw [hy113]; with_reducible exact H2_) | (have H2_ := (Option.bind_some _ _).symm.trans H; with_reducible exact H2_) | with_reducible exact H | (rw [hy113]; exact H) | exact H
                      have Ny113 := Aside0.mk hy113
                      clear hy113
                      simp only [Option.some.injEq, Prod.mk.injEq] at H
                      obtain ⟨rfl, rfl, rfl⟩ := H
                      have p104 : 0 ≤ (0 : Int) := (by omega)
                      have q104 : 0 < (l0.length : Int) := of_decide_eq_true (by first | (with_reducible assumption) | assumption)
                      obtain ⟨ad104, e104, hx104_0⟩ := Kd.at_int HR0.out 0 p104 q104
                      cases e104
                      have qi104 : (0 < l0.length) = True := eq_true (by omega)
                      (try rw [show ((0 : Int)).toNat = 0 from rfl] at hx104_0)
                      (try rw [Addr.add_zero'] at hx104_0)
                      replace p104 := eq_true p104
                      replace q104 := eq_true q104
                      have p105 : 0 ≤ (1 : Int) := (by omega)
                      have q105 : 1 < (l0.length : Int) := of_decide_eq_true (by first | (with_reducible assumption) | assumption)
                      obtain ⟨ad105, e105, hx105_0⟩ := Kd.at_int HR0.out 1 p105 q105
                      obtain rfl : ad104 = ad105 := (by injection e105)
                      (try simp only [show (1 : Int).toNat = 1 from rfl, Nat.reduceMul, Nat.reduceEqDiff, Go.Addr.add, ↓reduceIte] at hx105_0)
                      have qi105 : (1 < l0.length) = True := eq_true (by omega)
                      (try rw [show ((1 : Int)).toNat = 1 from rfl] at hx105_0)
                      replace p105 := eq_true p105
                      replace q105 := eq_true q105
                      obtain ⟨i016, hi016, _, hsz16, _⟩ := info_parts info5
                      obtain ⟨A16, hcut16, hA16, hC16⟩ := print_mid_of (P := Try.prog) (Value.int .u8) 0 22 5 .i64 .i64 Try.underlying22 hi016 hsz16 (some ad104) c0 l0 6 (ji10) (by omega) (by first | omega | exact of_decide_eq_true (by first | (with_reducible assumption) | assumption)) (of_decide_eq_true (by first | (with_reducible assumption) | assumption)) HC0.out
                      have HR106 := Aside0.mk (Kd.C_of_reads (h1 := fun _ => rfl) (hA16 _ (Kd.reads_of_C HR0.out)))
                      have HC106 := Aside0.mk hC16
                      clear hA16 hC16 hi016 hsz16
                      go_enter Try.func49, Try.ntmps49
                      go_wp2_with (first | (go_at_call 47; refine calls_of_args (args' := #[.slice A16 ((l0.take ((ji10) : Int).toNat).drop 6).length (c0 - 6)]) (by first | rfl | (rw [show ((l0.take ((ji10) : Int).toNat).drop 6).length = ((ji10).toNat - 6) from (by rw [List.length_drop, List.length_take]; have h_ : ((ji10) : Int) ≤ (l0.length : Int) := of_decide_eq_true (by first | (with_reducible assumption) | assumption); omega)] <;> rfl) | (simp only [hji10]; rfl) | (simp only [List.length_drop, List.length_take]; rfl) | (simp only [List.length_drop, List.length_take]; congr 3; omega) | (simp only [List.length_drop, List.length_take]; congr 2; congr 1; omega)) ?_; (with_reducible refine (frame_Put.calls k _ _ ((l0.take ((ji10) : Int).toNat).drop 6) t107 true _ ?side1 ?side2 A8.out).mono ?_); (case side1 => repeat (first | exact HR106.out | (with_reducible refine Kd.C_alloc ?_ _) | (with_reducible refine Kd.C_drewN ?_ _) | (with_reducible refine Kd.C_drew ?_))); (case side2 => exact HC106.out); rintro e w17 ⟨v109, rfl, ho0, hb⟩; have n0_ := Aside0.mk (Kd.R_lower ho0 (below_size (by repeat (first | (with_reducible first | exact HB.out | apply below_alloc | apply pw_below_drewN | apply below_drew1) | exact HB.out)))); have n1_ := Aside0.mk (below_step (by repeat (first | (with_reducible first | exact HB.out | apply below_alloc | apply pw_below_drewN | apply below_drew1) | exact HB.out)) hb); clear HB; have HO110 := n0_; have HB := n1_; clear n0_ n1_; (try clear hb); (try clear hb2); (try clear hk); (try clear hi); (try clear ho0); obtain ⟨i018, hi018, _, hsz18, _⟩ := info_parts info5; obtain ⟨hcut18, hA18, hC18⟩ := print_take_of (P := Try.prog) (Value.int .u8) 0 22 5 .i64 Try.underlying22 hi018 hsz18 (some ad104) c0 l0 (ji10) (of_decide_eq_true (by first | (with_reducible assumption) | assumption)) (of_decide_eq_true (by first | (with_reducible assumption) | assumption)) HC0.out; have HR111 := Aside0.mk (Kd.C_of_reads (h1 := fun _ => rfl) (hA18 _ (Kd.reads_of_C HR0.out))); have HC111 := Aside0.mk hC18; clear hA18 hC18 hi018 hsz18; obtain ⟨Ao19, co19, eo19⟩ := Kd.R_slice HO110.out; subst eo19) | (go_at_call 76; refine calls_of_args (args' := #[.slice Ao19 t107.length co19, .slice (some ad104) (l0.take ((ji10) : Int).toNat).length c0]) (by first | rfl | (rw [show (l0.take ((ji10) : Int).toNat).length = (ji10).toNat from (by rw [List.length_take]; have h_ : ((ji10) : Int) ≤ (l0.length : Int) := of_decide_eq_true (by first | (with_reducible assumption) | assumption); omega)] <;> rfl) | (simp only [hji10]; rfl) | (simp only [List.length_drop, List.length_take]; rfl) | (simp only [List.length_drop, List.length_take]; congr 3; omega) | (simp only [List.length_drop, List.length_take]; congr 2; congr 1; omega)) ?_; (with_reducible refine (bytes_Equal.calls _ _ t107 _ _ (l0.take ((ji10) : Int).toNat) true _ ?side1 ?side2 ?side3 ?side4 A13.out).mono ?_); (case side1 => repeat (first | exact (Kd.R_reads' HO110.out).2.2 | (with_reducible refine Kd.C_alloc ?_ _) | (with_reducible refine Kd.C_drewN ?_ _) | (with_reducible refine Kd.C_drew ?_))); (case side2 => exact (Kd.R_reads' HO110.out).2.1); (case side3 => repeat (first | exact (Kd.C_below HR111.out HB.out) | (with_reducible refine Kd.C_alloc ?_ _) | (with_reducible refine Kd.C_drewN ?_ _) | (with_reducible refine Kd.C_drew ?_))); (case side4 => exact HC111.out); rintro e w' ⟨rfl, ⟨nd, rfl⟩⟩; (try first | exact ⟨rfl, _, World.drewN_drewN _ _ _⟩ | exact ⟨rfl, _, Eq.trans (World.drewN_drewN _ _ _) (congrArg (World.drewN _) (Nat.add_assoc _ _ _))⟩); have q20 : (6 : Int) ≤ ((t107.length : Int) : Int) := of_decide_eq_true (by first | (with_reducible assumption) | assumption); obtain ⟨i020, hi020, _, hsz20, _⟩ := info_parts info5; have hcut20 := cut_from (P := Try.prog) 22 5 .i64 Try.underlying22 hi020 1 hsz20 Ao19 t107.length co19 6 (by omega) q20; have hr20 := Kd.Q_drop (k := (6 : Int).toNat) (Kd.Q_of_R HO110.out) (by omega); obtain ⟨A20, hA20⟩ : ∃ A1, A1 = (if co19 = (6 : Int).toNat then Ao19 else (Ao19 : Option Addr).map (·.add ((6 : Int).toNat * 1))) := ⟨_, rfl⟩; obtain ⟨c20, hc20⟩ : ∃ c1, c1 = co19 - (6 : Int).toNat := ⟨_, rfl⟩; have hy20 : y113.length = t107.length - (6 : Int).toNat := (by rw [Ny113.out, List.length_drop]); rw [← Ny113.out] at hr20; rw [← hy20, ← hA20, ← hc20] at hcut20; replace hr20 : Kd.Q (Kd.int .u8) 5 w17 w.heap.size (fun _ => True) (.slice A20 y113.length c20) y113 := (by rw [hA20, hc20, hy20]; exact hr20); have HE20 : Aside0 ((Value.slice A20 y113.length c20).ownBlock = (.slice Ao19 t107.length co19 : Value).ownBlock) := ⟨by rw [hA20]; split <;> (cases (Ao19 : Option Addr) <;> rfl)⟩; clear hy20 hi020 hsz20 HO110 hA20 hc20; have HO115 := Aside0.mk hr20; clear hr20; replace q20 := eq_true q20))
                      repeat (go_quiet (first | (go_at_call 47; refine calls_of_args (args' := #[.slice A16 ((l0.take ((ji10) : Int).toNat).drop 6).length (c0 - 6)]) (by first | rfl | (rw [show ((l0.take ((ji10) : Int).toNat).drop 6).length = ((ji10).toNat - 6) from (by rw [List.length_drop, List.length_take]; have h_ : ((ji10) : Int) ≤ (l0.length : Int) := of_decide_eq_true (by first | (with_reducible assumption) | assumption); omega)] <;> rfl) | (simp only [hji10]; rfl) | (simp only [List.length_drop, List.length_take]; rfl) | (simp only [List.length_drop, List.length_take]; congr 3; omega) | (simp only [List.length_drop, List.length_take]; congr 2; congr 1; omega)) ?_; (with_reducible refine (frame_Put.calls k _ _ ((l0.take ((ji10) : Int).toNat).drop 6) t107 true _ ?side1 ?side2 A8.out).mono ?_); (case side1 => repeat (first | exact HR106.out | (with_reducible refine Kd.C_alloc ?_ _) | (with_reducible refine Kd.C_drewN ?_ _) | (with_reducible refine Kd.C_drew ?_))); (case side2 => exact HC106.out); rintro e w17 ⟨v109, rfl, ho0, hb⟩; have n0_ := Aside0.mk (Kd.R_lower ho0 (below_size (by repeat (first | (with_reducible first | exact HB.out | apply below_alloc | apply pw_below_drewN | apply below_drew1) | exact HB.out)))); have n1_ := Aside0.mk (below_step (by repeat (first | (with_reducible first | exact HB.out | apply below_alloc | apply pw_below_drewN | apply below_drew1) | exact HB.out)) hb); clear HB; have HO110 := n0_; have HB := n1_; clear n0_ n1_; (try clear hb); (try clear hb2); (try clear hk); (try clear hi); (try clear ho0); obtain ⟨i018, hi018, _, hsz18, _⟩ := info_parts info5; obtain ⟨hcut18, hA18, hC18⟩ := print_take_of (P := Try.prog) (Value.int .u8) 0 22 5 .i64 Try.underlying22 hi018 hsz18 (some ad104) c0 l0 (ji10) (of_decide_eq_true (by first | (with_reducible assumption) | assumption)) (of_decide_eq_true (by first | (with_reducible assumption) | assumption)) HC0.out; have HR111 := Aside0.mk (Kd.C_of_reads (h1 := fun _ => rfl) (hA18 _ (Kd.reads_of_C HR0.out))); have HC111 := Aside0.mk hC18; clear hA18 hC18 hi018 hsz18; obtain ⟨Ao19, co19, eo19⟩ := Kd.R_slice HO110.out; subst eo19) | (go_at_call 76; refine calls_of_args (args' := #[.slice Ao19 t107.length co19, .slice (some ad104) (l0.take ((ji10) : Int).toNat).length c0]) (by first | rfl | (rw [show (l0.take ((ji10) : Int).toNat).length = (ji10).toNat from (by rw [List.length_take]; have h_ : ((ji10) : Int) ≤ (l0.length : Int) := of_decide_eq_true (by first | (with_reducible assumption) | assumption); omega)] <;> rfl) | (simp only [hji10]; rfl) | (simp only [List.length_drop, List.length_take]; rfl) | (simp only [List.length_drop, List.length_take]; congr 3; omega) | (simp only [List.length_drop, List.length_take]; congr 2; congr 1; omega)) ?_; (with_reducible refine (bytes_Equal.calls _ _ t107 _ _ (l0.take ((ji10) : Int).toNat) true _ ?side1 ?side2 ?side3 ?side4 A13.out).mono ?_); (case side1 => repeat (first | exact (Kd.R_reads' HO110.out).2.2 | (with_reducible refine Kd.C_alloc ?_ _) | (with_reducible refine Kd.C_drewN ?_ _) | (with_reducible refine Kd.C_drew ?_))); (case side2 => exact (Kd.R_reads' HO110.out).2.1); (case side3 => repeat (first | exact (Kd.C_below HR111.out HB.out) | (with_reducible refine Kd.C_alloc ?_ _) | (with_reducible refine Kd.C_drewN ?_ _) | (with_reducible refine Kd.C_drew ?_))); (case side4 => exact HC111.out); rintro e w' ⟨rfl, ⟨nd, rfl⟩⟩; (try first | exact ⟨rfl, _, World.drewN_drewN _ _ _⟩ | exact ⟨rfl, _, Eq.trans (World.drewN_drewN _ _ _) (congrArg (World.drewN _) (Nat.add_assoc _ _ _))⟩); have q20 : (6 : Int) ≤ ((t107.length : Int) : Int) := of_decide_eq_true (by first | (with_reducible assumption) | assumption); obtain ⟨i020, hi020, _, hsz20, _⟩ := info_parts info5; have hcut20 := cut_from (P := Try.prog) 22 5 .i64 Try.underlying22 hi020 1 hsz20 Ao19 t107.length co19 6 (by omega) q20; have hr20 := Kd.Q_drop (k := (6 : Int).toNat) (Kd.Q_of_R HO110.out) (by omega); obtain ⟨A20, hA20⟩ : ∃ A1, A1 = (if co19 = (6 : Int).toNat then Ao19 else (Ao19 : Option Addr).map (·.add ((6 : Int).toNat * 1))) := ⟨_, rfl⟩; obtain ⟨c20, hc20⟩ : ∃ c1, c1 = co19 - (6 : Int).toNat := ⟨_, rfl⟩; have hy20 : y113.length = t107.length - (6 : Int).toNat := (by rw [Ny113.out, List.length_drop]); rw [← Ny113.out] at hr20; rw [← hy20, ← hA20, ← hc20] at hcut20; replace hr20 : Kd.Q (Kd.int .u8) 5 w17 w.heap.size (fun _ => True) (.slice A20 y113.length c20) y113 := (by rw [hA20, hc20, hy20]; exact hr20); have HE20 : Aside0 ((Value.slice A20 y113.length c20).ownBlock = (.slice Ao19 t107.length co19 : Value).ownBlock) := ⟨by rw [hA20]; split <;> (cases (Ao19 : Option Addr) <;> rfl)⟩; clear hy20 hi020 hsz20 HO110 hA20 hc20; have HO115 := Aside0.mk hr20; clear hr20; replace q20 := eq_true q20)); try go_wp2_with (first | (go_at_call 47; refine calls_of_args (args' := #[.slice A16 ((l0.take ((ji10) : Int).toNat).drop 6).length (c0 - 6)]) (by first | rfl | (rw [show ((l0.take ((ji10) : Int).toNat).drop 6).length = ((ji10).toNat - 6) from (by rw [List.length_drop, List.length_take]; have h_ : ((ji10) : Int) ≤ (l0.length : Int) := of_decide_eq_true (by first | (with_reducible assumption) | assumption); omega)] <;> rfl) | (simp only [hji10]; rfl) | (simp only [List.length_drop, List.length_take]; rfl) | (simp only [List.length_drop, List.length_take]; congr 3; omega) | (simp only [List.length_drop, List.length_take]; congr 2; congr 1; omega)) ?_; (with_reducible refine (frame_Put.calls k _ _ ((l0.take ((ji10) : Int).toNat).drop 6) t107 true _ ?side1 ?side2 A8.out).mono ?_); (case side1 => repeat (first | exact HR106.out | (with_reducible refine Kd.C_alloc ?_ _) | (with_reducible refine Kd.C_drewN ?_ _) | (with_reducible refine Kd.C_drew ?_))); (case side2 => exact HC106.out); rintro e w17 ⟨v109, rfl, ho0, hb⟩; have n0_ := Aside0.mk (Kd.R_lower ho0 (below_size (by repeat (first | (with_reducible first | exact HB.out | apply below_alloc | apply pw_below_drewN | apply below_drew1) | exact HB.out)))); have n1_ := Aside0.mk (below_step (by repeat (first | (with_reducible first | exact HB.out | apply below_alloc | apply pw_below_drewN | apply below_drew1) | exact HB.out)) hb); clear HB; have HO110 := n0_; have HB := n1_; clear n0_ n1_; (try clear hb); (try clear hb2); (try clear hk); (try clear hi); (try clear ho0); obtain ⟨i018, hi018, _, hsz18, _⟩ := info_parts info5; obtain ⟨hcut18, hA18, hC18⟩ := print_take_of (P := Try.prog) (Value.int .u8) 0 22 5 .i64 Try.underlying22 hi018 hsz18 (some ad104) c0 l0 (ji10) (of_decide_eq_true (by first | (with_reducible assumption) | assumption)) (of_decide_eq_true (by first | (with_reducible assumption) | assumption)) HC0.out; have HR111 := Aside0.mk (Kd.C_of_reads (h1 := fun _ => rfl) (hA18 _ (Kd.reads_of_C HR0.out))); have HC111 := Aside0.mk hC18; clear hA18 hC18 hi018 hsz18; obtain ⟨Ao19, co19, eo19⟩ := Kd.R_slice HO110.out; subst eo19) | (go_at_call 76; refine calls_of_args (args' := #[.slice Ao19 t107.length co19, .slice (some ad104) (l0.take ((ji10) : Int).toNat).length c0]) (by first | rfl | (rw [show (l0.take ((ji10) : Int).toNat).length = (ji10).toNat from (by rw [List.length_take]; have h_ : ((ji10) : Int) ≤ (l0.length : Int) := of_decide_eq_true (by first | (with_reducible assumption) | assumption); omega)] <;> rfl) | (simp only [hji10]; rfl) | (simp only [List.length_drop, List.length_take]; rfl) | (simp only [List.length_drop, List.length_take]; congr 3; omega) | (simp only [List.length_drop, List.length_take]; congr 2; congr 1; omega)) ?_; (with_reducible refine (bytes_Equal.calls _ _ t107 _ _ (l0.take ((ji10) : Int).toNat) true _ ?side1 ?side2 ?side3 ?side4 A13.out).mono ?_); (case side1 => repeat (first | exact (Kd.R_reads' HO110.out).2.2 | (with_reducible refine Kd.C_alloc ?_ _) | (with_reducible refine Kd.C_drewN ?_ _) | (with_reducible refine Kd.C_drew ?_))); (case side2 => exact (Kd.R_reads' HO110.out).2.1); (case side3 => repeat (first | exact (Kd.C_below HR111.out HB.out) | (with_reducible refine Kd.C_alloc ?_ _) | (with_reducible refine Kd.C_drewN ?_ _) | (with_reducible refine Kd.C_drew ?_))); (case side4 => exact HC111.out); rintro e w' ⟨rfl, ⟨nd, rfl⟩⟩; (try first | exact ⟨rfl, _, World.drewN_drewN _ _ _⟩ | exact ⟨rfl, _, Eq.trans (World.drewN_drewN _ _ _) (congrArg (World.drewN _) (Nat.add_assoc _ _ _))⟩); have q20 : (6 : Int) ≤ ((t107.length : Int) : Int) := of_decide_eq_true (by first | (with_reducible assumption) | assumption); obtain ⟨i020, hi020, _, hsz20, _⟩ := info_parts info5; have hcut20 := cut_from (P := Try.prog) 22 5 .i64 Try.underlying22 hi020 1 hsz20 Ao19 t107.length co19 6 (by omega) q20; have hr20 := Kd.Q_drop (k := (6 : Int).toNat) (Kd.Q_of_R HO110.out) (by omega); obtain ⟨A20, hA20⟩ : ∃ A1, A1 = (if co19 = (6 : Int).toNat then Ao19 else (Ao19 : Option Addr).map (·.add ((6 : Int).toNat * 1))) := ⟨_, rfl⟩; obtain ⟨c20, hc20⟩ : ∃ c1, c1 = co19 - (6 : Int).toNat := ⟨_, rfl⟩; have hy20 : y113.length = t107.length - (6 : Int).toNat := (by rw [Ny113.out, List.length_drop]); rw [← Ny113.out] at hr20; rw [← hy20, ← hA20, ← hc20] at hcut20; replace hr20 : Kd.Q (Kd.int .u8) 5 w17 w.heap.size (fun _ => True) (.slice A20 y113.length c20) y113 := (by rw [hA20, hc20, hy20]; exact hr20); have HE20 : Aside0 ((Value.slice A20 y113.length c20).ownBlock = (.slice Ao19 t107.length co19 : Value).ownBlock) := ⟨by rw [hA20]; split <;> (cases (Ao19 : Option Addr) <;> rfl)⟩; clear hy20 hi020 hsz20 HO110 hA20 hc20; have HO115 := Aside0.mk hr20; clear hr20; replace q20 := eq_true q20)))
                      go_ret3
                      exact ⟨_, by first | rfl | (simp [errW_none, errW_some] <;> rfl) | (simp only [← hji10]; first | rfl | (simp [errW_none, errW_some] <;> rfl)) | (simp [*, errW_none, errW_some] <;> rfl), by (with_reducible repeat (first | apply Kd.Q_alloc | apply Kd.Q_drewN | apply Kd.Q_drew)); exact HO115.out, by repeat (first | (with_reducible first | exact HB.out | apply below_alloc | apply pw_below_drewN | apply below_drew1) | exact HB.out)⟩
                    · rw [if_neg c15] at H
                      exact absurd H (by simp)
                  · replace c14 := Bool.eq_false_iff.mpr c14
                    subst c14
                    have H1 : (some (([] : List Int), 0, false)) = some (r1, r2, r3) := by rw [if_neg (show ¬ (false = true) by decide)] at H; exact H
                    clear H
                    have H := H1
                    clear H1
                    simp only [Option.some.injEq, Prod.mk.injEq] at H
                    obtain ⟨rfl, rfl, rfl⟩ := H
                    have p104 : 0 ≤ (0 : Int) := (by omega)
                    have q104 : 0 < (l0.length : Int) := of_decide_eq_true (by first | (with_reducible assumption) | assumption)
                    obtain ⟨ad104, e104, hx104_0⟩ := Kd.at_int HR0.out 0 p104 q104
                    cases e104
                    have qi104 : (0 < l0.length) = True := eq_true (by omega)
                    (try rw [show ((0 : Int)).toNat = 0 from rfl] at hx104_0)
                    (try rw [Addr.add_zero'] at hx104_0)
                    replace p104 := eq_true p104
                    replace q104 := eq_true q104
                    have p105 : 0 ≤ (1 : Int) := (by omega)
                    have q105 : 1 < (l0.length : Int) := of_decide_eq_true (by first | (with_reducible assumption) | assumption)
                    obtain ⟨ad105, e105, hx105_0⟩ := Kd.at_int HR0.out 1 p105 q105
                    obtain rfl : ad104 = ad105 := (by injection e105)
                    (try simp only [show (1 : Int).toNat = 1 from rfl, Nat.reduceMul, Nat.reduceEqDiff, Go.Addr.add, ↓reduceIte] at hx105_0)
                    have qi105 : (1 < l0.length) = True := eq_true (by omega)
                    (try rw [show ((1 : Int)).toNat = 1 from rfl] at hx105_0)
                    replace p105 := eq_true p105
                    replace q105 := eq_true q105
                    obtain ⟨i021, hi021, _, hsz21, _⟩ := info_parts info5
                    obtain ⟨A21, hcut21, hA21, hC21⟩ := print_mid_of (P := Try.prog) (Value.int .u8) 0 22 5 .i64 .i64 Try.underlying22 hi021 hsz21 (some ad104) c0 l0 6 (ji10) (by omega) (by first | omega | exact of_decide_eq_true (by first | (with_reducible assumption) | assumption)) (of_decide_eq_true (by first | (with_reducible assumption) | assumption)) HC0.out
                    have HR106 := Aside0.mk (Kd.C_of_reads (h1 := fun _ => rfl) (hA21 _ (Kd.reads_of_C HR0.out)))
                    have HC106 := Aside0.mk hC21
                    clear hA21 hC21 hi021 hsz21
                    go_enter Try.func49, Try.ntmps49
                    go_wp2_with (first | (go_at_call 47; refine calls_of_args (args' := #[.slice A21 ((l0.take ((ji10) : Int).toNat).drop 6).length (c0 - 6)]) (by first | rfl | (rw [show ((l0.take ((ji10) : Int).toNat).drop 6).length = ((ji10).toNat - 6) from (by rw [List.length_drop, List.length_take]; have h_ : ((ji10) : Int) ≤ (l0.length : Int) := of_decide_eq_true (by first | (with_reducible assumption) | assumption); omega)] <;> rfl) | (simp only [hji10]; rfl) | (simp only [List.length_drop, List.length_take]; rfl) | (simp only [List.length_drop, List.length_take]; congr 3; omega) | (simp only [List.length_drop, List.length_take]; congr 2; congr 1; omega)) ?_; (with_reducible refine (frame_Put.calls k _ _ ((l0.take ((ji10) : Int).toNat).drop 6) t107 true _ ?side1 ?side2 A8.out).mono ?_); (case side1 => repeat (first | exact HR106.out | (with_reducible refine Kd.C_alloc ?_ _) | (with_reducible refine Kd.C_drewN ?_ _) | (with_reducible refine Kd.C_drew ?_))); (case side2 => exact HC106.out); rintro e w22 ⟨v109, rfl, ho0, hb⟩; have n0_ := Aside0.mk (Kd.R_lower ho0 (below_size (by repeat (first | (with_reducible first | exact HB.out | apply below_alloc | apply pw_below_drewN | apply below_drew1) | exact HB.out)))); have n1_ := Aside0.mk (below_step (by repeat (first | (with_reducible first | exact HB.out | apply below_alloc | apply pw_below_drewN | apply below_drew1) | exact HB.out)) hb); clear HB; have HO110 := n0_; have HB := n1_; clear n0_ n1_; (try clear hb); (try clear hb2); (try clear hk); (try clear hi); (try clear ho0); obtain ⟨i023, hi023, _, hsz23, _⟩ := info_parts info5; obtain ⟨hcut23, hA23, hC23⟩ := print_take_of (P := Try.prog) (Value.int .u8) 0 22 5 .i64 Try.underlying22 hi023 hsz23 (some ad104) c0 l0 (ji10) (of_decide_eq_true (by first | (with_reducible assumption) | assumption)) (of_decide_eq_true (by first | (with_reducible assumption) | assumption)) HC0.out; have HR111 := Aside0.mk (Kd.C_of_reads (h1 := fun _ => rfl) (hA23 _ (Kd.reads_of_C HR0.out))); have HC111 := Aside0.mk hC23; clear hA23 hC23 hi023 hsz23; obtain ⟨Ao24, co24, eo24⟩ := Kd.R_slice HO110.out; subst eo24) | (go_at_call 76; refine calls_of_args (args' := #[.slice Ao24 t107.length co24, .slice (some ad104) (l0.take ((ji10) : Int).toNat).length c0]) (by first | rfl | (rw [show (l0.take ((ji10) : Int).toNat).length = (ji10).toNat from (by rw [List.length_take]; have h_ : ((ji10) : Int) ≤ (l0.length : Int) := of_decide_eq_true (by first | (with_reducible assumption) | assumption); omega)] <;> rfl) | (simp only [hji10]; rfl) | (simp only [List.length_drop, List.length_take]; rfl) | (simp only [List.length_drop, List.length_take]; congr 3; omega) | (simp only [List.length_drop, List.length_take]; congr 2; congr 1; omega)) ?_; (with_reducible refine (bytes_Equal.calls _ _ t107 _ _ (l0.take ((ji10) : Int).toNat) false _ ?side1 ?side2 ?side3 ?side4 A13.out).mono ?_); (case side1 => repeat (first | exact (Kd.R_reads' HO110.out).2.2 | (with_reducible refine Kd.C_alloc ?_ _) | (with_reducible refine Kd.C_drewN ?_ _) | (with_reducible refine Kd.C_drew ?_))); (case side2 => exact (Kd.R_reads' HO110.out).2.1); (case side3 => repeat (first | exact (Kd.C_below HR111.out HB.out) | (with_reducible refine Kd.C_alloc ?_ _) | (with_reducible refine Kd.C_drewN ?_ _) | (with_reducible refine Kd.C_drew ?_))); (case side4 => exact HC111.out); rintro e w' ⟨rfl, ⟨nd, rfl⟩⟩; (try first | exact ⟨rfl, _, World.drewN_drewN _ _ _⟩ | exact ⟨rfl, _, Eq.trans (World.drewN_drewN _ _ _) (congrArg (World.drewN _) (Nat.add_assoc _ _ _))⟩)))
                    repeat (go_quiet (first | (go_at_call 47; refine calls_of_args (args' := #[.slice A21 ((l0.take ((ji10) : Int).toNat).drop 6).length (c0 - 6)]) (by first | rfl | (rw [show ((l0.take ((ji10) : Int).toNat).drop 6).length = ((ji10).toNat - 6) from (by rw [List.length_drop, List.length_take]; have h_ : ((ji10) : Int) ≤ (l0.length : Int) := of_decide_eq_true (by first | (with_reducible assumption) | assumption); omega)] <;> rfl) | (simp only [hji10]; rfl) | (simp only [List.length_drop, List.length_take]; rfl) | (simp only [List.length_drop, List.length_take]; congr 3; omega) | (simp only [List.length_drop, List.length_take]; congr 2; congr 1; omega)) ?_; (with_reducible refine (frame_Put.calls k _ _ ((l0.take ((ji10) : Int).toNat).drop 6) t107 true _ ?side1 ?side2 A8.out).mono ?_); (case side1 => repeat (first | exact HR106.out | (with_reducible refine Kd.C_alloc ?_ _) | (with_reducible refine Kd.C_drewN ?_ _) | (with_reducible refine Kd.C_drew ?_))); (case side2 => exact HC106.out); rintro e w22 ⟨v109, rfl, ho0, hb⟩; have n0_ := Aside0.mk (Kd.R_lower ho0 (below_size (by repeat (first | (with_reducible first | exact HB.out | apply below_alloc | apply pw_below_drewN | apply below_drew1) | exact HB.out)))); have n1_ := Aside0.mk (below_step (by repeat (first | (with_reducible first | exact HB.out | apply below_alloc | apply pw_below_drewN | apply below_drew1) | exact HB.out)) hb); clear HB; have HO110 := n0_; have HB := n1_; clear n0_ n1_; (try clear hb); (try clear hb2); (try clear hk); (try clear hi); (try clear ho0); obtain ⟨i023, hi023, _, hsz23, _⟩ := info_parts info5; obtain ⟨hcut23, hA23, hC23⟩ := print_take_of (P := Try.prog) (Value.int .u8) 0 22 5 .i64 Try.underlying22 hi023 hsz23 (some ad104) c0 l0 (ji10) (of_decide_eq_true (by first | (with_reducible assumption) | assumption)) (of_decide_eq_true (by first | (with_reducible assumption) | assumption)) HC0.out; have HR111 := Aside0.mk (Kd.C_of_reads (h1 := fun _ => rfl) (hA23 _ (Kd.reads_of_C HR0.out))); have HC111 := Aside0.mk hC23; clear hA23 hC23 hi023 hsz23; obtain ⟨Ao24, co24, eo24⟩ := Kd.R_slice HO110.out; subst eo24) | (go_at_call 76; refine calls_of_args (args' := #[.slice Ao24 t107.length co24, .slice (some ad104) (l0.take ((ji10) : Int).toNat).length c0]) (by first | rfl | (rw [show (l0.take ((ji10) : Int).toNat).length = (ji10).toNat from (by rw [List.length_take]; have h_ : ((ji10) : Int) ≤ (l0.length : Int) := of_decide_eq_true (by first | (with_reducible assumption) | assumption); omega)] <;> rfl) | (simp only [hji10]; rfl) | (simp only [List.length_drop, List.length_take]; rfl) | (simp only [List.length_drop, List.length_take]; congr 3; omega) | (simp only [List.length_drop, List.length_take]; congr 2; congr 1; omega)) ?_; (with_reducible refine (bytes_Equal.calls _ _ t107 _ _ (l0.take ((ji10) : Int).toNat) false _ ?side1 ?side2 ?side3 ?side4 A13.out).mono ?_); (case side1 => repeat (first | exact (Kd.R_reads' HO110.out).2.2 | (with_reducible refine Kd.C_alloc ?_ _) | (with_reducible refine Kd.C_drewN ?_ _) | (with_reducible refine Kd.C_drew ?_))); (case side2 => exact (Kd.R_reads' HO110.out).2.1); (case side3 => repeat (first | exact (Kd.C_below HR111.out HB.out) | (with_reducible refine Kd.C_alloc ?_ _) | (with_reducible refine Kd.C_drewN ?_ _) | (with_reducible refine Kd.C_drew ?_))); (case side4 => exact HC111.out); rintro e w' ⟨rfl, ⟨nd, rfl⟩⟩; (try first | exact ⟨rfl, _, World.drewN_drewN _ _ _⟩ | exact ⟨rfl, _, Eq.trans (World.drewN_drewN _ _ _) (congrArg (World.drewN _) (Nat.add_assoc _ _ _))⟩))); try go_wp2_with (first | (go_at_call 47; refine calls_of_args (args' := #[.slice A21 ((l0.take ((ji10) : Int).toNat).drop 6).length (c0 - 6)]) (by first | rfl | (rw [show ((l0.take ((ji10) : Int).toNat).drop 6).length = ((ji10).toNat - 6) from (by rw [List.length_drop, List.length_take]; have h_ : ((ji10) : Int) ≤ (l0.length : Int) := of_decide_eq_true (by first | (with_reducible assumption) | assumption); omega)] <;> rfl) | (simp only [hji10]; rfl) | (simp only [List.length_drop, List.length_take]; rfl) | (simp only [List.length_drop, List.length_take]; congr 3; omega) | (simp only [List.length_drop, List.length_take]; congr 2; congr 1; omega)) ?_; (with_reducible refine (frame_Put.calls k _ _ ((l0.take ((ji10) : Int).toNat).drop 6) t107 true _ ?side1 ?side2 A8.out).mono ?_); (case side1 => repeat (first | exact HR106.out | (with_reducible refine Kd.C_alloc ?_ _) | (with_reducible refine Kd.C_drewN ?_ _) | (with_reducible refine Kd.C_drew ?_))); (case side2 => exact HC106.out); rintro e w22 ⟨v109, rfl, ho0, hb⟩; have n0_ := Aside0.mk (Kd.R_lower ho0 (below_size (by repeat (first | (with_reducible first | exact HB.out | apply below_alloc | apply pw_below_drewN | apply below_drew1) | exact HB.out)))); have n1_ := Aside0.mk (below_step (by repeat (first | (with_reducible first | exact HB.out | apply below_alloc | apply pw_below_drewN | apply below_drew1) | exact HB.out)) hb); clear HB; have HO110 := n0_; have HB := n1_; clear n0_ n1_; (try clear hb); (try clear hb2); (try clear hk); (try clear hi); (try clear ho0); obtain ⟨i023, hi023, _, hsz23, _⟩ := info_parts info5; obtain ⟨hcut23, hA23, hC23⟩ := print_take_of (P := Try.prog) (Value.int .u8) 0 22 5 .i64 Try.underlying22 hi023 hsz23 (some ad104) c0 l0 (ji10) (of_decide_eq_true (by first | (with_reducible assumption) | assumption)) (of_decide_eq_true (by first | (with_reducible assumption) | assumption)) HC0.out; have HR111 := Aside0.mk (Kd.C_of_reads (h1 := fun _ => rfl) (hA23 _ (Kd.reads_of_C HR0.out))); have HC111 := Aside0.mk hC23; clear hA23 hC23 hi023 hsz23; obtain ⟨Ao24, co24, eo24⟩ := Kd.R_slice HO110.out; subst eo24) | (go_at_call 76; refine calls_of_args (args' := #[.slice Ao24 t107.length co24, .slice (some ad104) (l0.take ((ji10) : Int).toNat).length c0]) (by first | rfl | (rw [show (l0.take ((ji10) : Int).toNat).length = (ji10).toNat from (by rw [List.length_take]; have h_ : ((ji10) : Int) ≤ (l0.length : Int) := of_decide_eq_true (by first | (with_reducible assumption) | assumption); omega)] <;> rfl) | (simp only [hji10]; rfl) | (simp only [List.length_drop, List.length_take]; rfl) | (simp only [List.length_drop, List.length_take]; congr 3; omega) | (simp only [List.length_drop, List.length_take]; congr 2; congr 1; omega)) ?_; (with_reducible refine (bytes_Equal.calls _ _ t107 _ _ (l0.take ((ji10) : Int).toNat) false _ ?side1 ?side2 ?side3 ?side4 A13.out).mono ?_); (case side1 => repeat (first | exact (Kd.R_reads' HO110.out).2.2 | (with_reducible refine Kd.C_alloc ?_ _) | (with_reducible refine Kd.C_drewN ?_ _) | (with_reducible refine Kd.C_drew ?_))); (case side2 => exact (Kd.R_reads' HO110.out).2.1); (case side3 => repeat (first | exact (Kd.C_below HR111.out HB.out) | (with_reducible refine Kd.C_alloc ?_ _) | (with_reducible refine Kd.C_drewN ?_ _) | (with_reducible refine Kd.C_drew ?_))); (case side4 => exact HC111.out); rintro e w' ⟨rfl, ⟨nd, rfl⟩⟩; (try first | exact ⟨rfl, _, World.drewN_drewN _ _ _⟩ | exact ⟨rfl, _, Eq.trans (World.drewN_drewN _ _ _) (congrArg (World.drewN _) (Nat.add_assoc _ _ _))⟩))))
                    go_ret3
                    exact ⟨_, by first | rfl | (simp [errW_none, errW_some] <;> rfl) | (simp only [← hji10]; first | rfl | (simp [errW_none, errW_some] <;> rfl)) | (simp [*, errW_none, errW_some] <;> rfl), Kd.Q_of_R (by first | exact Kd.R_nil _ _ _ _ _ | exact Kd.N_nil _ _ _ _ _ | exact Kd.V_nil _ _ _ _ _ | exact Kd.Q_nil _ _ _ _ _ | exact Kd.S_nil _ _ _ _ _), by repeat (first | (with_reducible first | exact HB.out | apply below_alloc | apply pw_below_drewN | apply below_drew1) | exact HB.out)⟩
                · rw [if_neg c11] at H
                  exact absurd H (by simp)
              · replace c9 := Bool.eq_false_iff.mpr c9
                subst c9
                have H1 : (some (([] : List Int), 0, false)) = some (r1, r2, r3) := by rw [if_neg (show ¬ (false = true) by decide)] at H; exact H
                clear H
                have H := H1
                clear H1
                simp only [Option.some.injEq, Prod.mk.injEq] at H
                obtain ⟨rfl, rfl, rfl⟩ := H
                have p104 : 0 ≤ (0 : Int) := (by omega)
                have q104 : 0 < (l0.length : Int) := of_decide_eq_true (by first | (with_reducible assumption) | assumption)
                obtain ⟨ad104, e104, hx104_0⟩ := Kd.at_int HR0.out 0 p104 q104
                cases e104
                have qi104 : (0 < l0.length) = True := eq_true (by omega)
                (try rw [show ((0 : Int)).toNat = 0 from rfl] at hx104_0)
                (try rw [Addr.add_zero'] at hx104_0)
                replace p104 := eq_true p104
                replace q104 := eq_true q104
                have p105 : 0 ≤ (1 : Int) := (by omega)
                have q105 : 1 < (l0.length : Int) := of_decide_eq_true (by first | (with_reducible assumption) | assumption)
                obtain ⟨ad105, e105, hx105_0⟩ := Kd.at_int HR0.out 1 p105 q105
                obtain rfl : ad104 = ad105 := (by injection e105)
                (try simp only [show (1 : Int).toNat = 1 from rfl, Nat.reduceMul, Nat.reduceEqDiff, Go.Addr.add, ↓reduceIte] at hx105_0)
                have qi105 : (1 < l0.length) = True := eq_true (by omega)
                (try rw [show ((1 : Int)).toNat = 1 from rfl] at hx105_0)
                replace p105 := eq_true p105
                replace q105 := eq_true q105
                obtain ⟨i025, hi025, _, hsz25, _⟩ := info_parts info5
                obtain ⟨A25, hcut25, hA25, hC25⟩ := print_mid_of (P := Try.prog) (Value.int .u8) 0 22 5 .i64 .i64 Try.underlying22 hi025 hsz25 (some ad104) c0 l0 6 (wrap64 ((wrap64 (6 + (wrap64 ((wrap64 (rd l0 0)) * 256)))) + (wrap64 (rd l0 1)))) (by omega) (by first | omega | exact of_decide_eq_true (by first | (with_reducible assumption) | assumption)) (of_decide_eq_true (by first | (with_reducible assumption) | assumption)) HC0.out
                have HR106 := Aside0.mk (Kd.C_of_reads (h1 := fun _ => rfl) (hA25 _ (Kd.reads_of_C HR0.out)))
                have HC106 := Aside0.mk hC25
                clear hA25 hC25 hi025 hsz25
                go_enter Try.func49, Try.ntmps49
                go_wp2_with (first | (go_at_call 47; refine calls_of_args (args' := #[.slice A25 ((l0.take ((wrap64 ((wrap64 (6 + (wrap64 ((wrap64 (rd l0 0)) * 256)))) + (wrap64 (rd l0 1)))) : Int).toNat).drop 6).length (c0 - 6)]) (by first | rfl | (rw [show ((l0.take ((wrap64 ((wrap64 (6 + (wrap64 ((wrap64 (rd l0 0)) * 256)))) + (wrap64 (rd l0 1)))) : Int).toNat).drop 6).length = ((wrap64 ((wrap64 (6 + (wrap64 ((wrap64 (rd l0 0)) * 256)))) + (wrap64 (rd l0 1)))).toNat - 6) from (by rw [List.length_drop, List.length_take]; have h_ : ((wrap64 ((wrap64 (6 + (wrap64 ((wrap64 (rd l0 0)) * 256)))) + (wrap64 (rd l0 1)))) : Int) ≤ (l0.length : Int) := of_decide_eq_true (by first | (with_reducible assumption) | assumption); omega)] <;> rfl) | (simp only [List.length_drop, List.length_take]; rfl) | (simp only [List.length_drop, List.length_take]; congr 3; omega) | (simp only [List.length_drop, List.length_take]; congr 2; congr 1; omega)) ?_; (with_reducible refine (frame_Put.calls k _ _ ((l0.take ((wrap64 ((wrap64 (6 + (wrap64 ((wrap64 (rd l0 0)) * 256)))) + (wrap64 (rd l0 1)))) : Int).toNat).drop 6) t107 false _ ?side1 ?side2 A8.out).mono ?_); (case side1 => repeat (first | exact HR106.out | (with_reducible refine Kd.C_alloc ?_ _) | (with_reducible refine Kd.C_drewN ?_ _) | (with_reducible refine Kd.C_drew ?_))); (case side2 => exact HC106.out); rintro e w26 ⟨v109, rfl, ho0, hb⟩; have n0_ := Aside0.mk (Kd.R_lower ho0 (below_size (by repeat (first | (with_reducible first | exact HB.out | apply below_alloc | apply pw_below_drewN | apply below_drew1) | exact HB.out)))); have n1_ := Aside0.mk (below_step (by repeat (first | (with_reducible first | exact HB.out | apply below_alloc | apply pw_below_drewN | apply below_drew1) | exact HB.out)) hb); clear HB; have HO110 := n0_; have HB := n1_; clear n0_ n1_; (try clear hb); (try clear hb2); (try clear hk); (try clear hi); (try clear ho0)))
                repeat (go_quiet (first | (go_at_call 47; refine calls_of_args (args' := #[.slice A25 ((l0.take ((wrap64 ((wrap64 (6 + (wrap64 ((wrap64 (rd l0 0)) * 256)))) + (wrap64 (rd l0 1)))) : Int).toNat).drop 6).length (c0 - 6)]) (by first | rfl | (rw [show ((l0.take ((wrap64 ((wrap64 (6 + (wrap64 ((wrap64 (rd l0 0)) * 256)))) + (wrap64 (rd l0 1)))) : Int).toNat).drop 6).length = ((wrap64 ((wrap64 (6 + (wrap64 ((wrap64 (rd l0 0)) * 256)))) + (wrap64 (rd l0 1)))).toNat - 6) from (by rw [List.length_drop, List.length_take]; have h_ : ((wrap64 ((wrap64 (6 + (wrap64 ((wrap64 (rd l0 0)) * 256)))) + (wrap64 (rd l0 1)))) : Int) ≤ (l0.length : Int) := of_decide_eq_true (by first | (with_reducible assumption) | assumption); omega)] <;> rfl) | (simp only [List.length_drop, List.length_take]; rfl) | (simp only [List.length_drop, List.length_take]; congr 3; omega) | (simp only [List.length_drop, List.length_take]; congr 2; congr 1; omega)) ?_; (with_reducible refine (frame_Put.calls k _ _ ((l0.take ((wrap64 ((wrap64 (6 + (wrap64 ((wrap64 (rd l0 0)) * 256)))) + (wrap64 (rd l0 1)))) : Int).toNat).drop 6) t107 false _ ?side1 ?side2 A8.out).mono ?_); (case side1 => repeat (first | exact HR106.out | (with_reducible refine Kd.C_alloc ?_ _) | (with_reducible refine Kd.C_drewN ?_ _) | (with_reducible refine Kd.C_drew ?_))); (case side2 => exact HC106.out); rintro e w26 ⟨v109, rfl, ho0, hb⟩; have n0_ := Aside0.mk (Kd.R_lower ho0 (below_size (by repeat (first | (with_reducible first | exact HB.out | apply below_alloc | apply pw_below_drewN | apply below_drew1) | exact HB.out)))); have n1_ := Aside0.mk (below_step (by repeat (first | (with_reducible first | exact HB.out | apply below_alloc | apply pw_below_drewN | apply below_drew1) | exact HB.out)) hb); clear HB; have HO110 := n0_; have HB := n1_; clear n0_ n1_; (try clear hb); (try clear hb2); (try clear hk); (try clear hi); (try clear ho0))); try go_wp2_with (first | (go_at_call 47; refine calls_of_args (args' := #[.slice A25 ((l0.take ((wrap64 ((wrap64 (6 + (wrap64 ((wrap64 (rd l0 0)) * 256)))) + (wrap64 (rd l0 1)))) : Int).toNat).drop 6).length (c0 - 6)]) (by first | rfl | (rw [show ((l0.take ((wrap64 ((wrap64 (6 + (wrap64 ((wrap64 (rd l0 0)) * 256)))) + (wrap64 (rd l0 1)))) : Int).toNat).drop 6).length = ((wrap64 ((wrap64 (6 + (wrap64 ((wrap64 (rd l0 0)) * 256)))) + (wrap64 (rd l0 1)))).toNat - 6) from (by rw [List.length_drop, List.length_take]; have h_ : ((wrap64 ((wrap64 (6 + (wrap64 ((wrap64 (rd l0 0)) * 256)))) + (wrap64 (rd l0 1)))) : Int) ≤ (l0.length : Int) := of_decide_eq_true (by first | (with_reducible assumption) | assumption); omega)] <;> rfl) | (simp only [List.length_drop, List.length_take]; rfl) | (simp only [List.length_drop, List.length_take]; congr 3; omega) | (simp only [List.length_drop, List.length_take]; congr 2; congr 1; omega)) ?_; (with_reducible refine (frame_Put.calls k _ _ ((l0.take ((wrap64 ((wrap64 (6 + (wrap64 ((wrap64 (rd l0 0)) * 256)))) + (wrap64 (rd l0 1)))) : Int).toNat).drop 6) t107 false _ ?side1 ?side2 A8.out).mono ?_); (case side1 => repeat (first | exact HR106.out | (with_reducible refine Kd.C_alloc ?_ _) | (with_reducible refine Kd.C_drewN ?_ _) | (with_reducible refine Kd.C_drew ?_))); (case side2 => exact HC106.out); rintro e w26 ⟨v109, rfl, ho0, hb⟩; have n0_ := Aside0.mk (Kd.R_lower ho0 (below_size (by repeat (first | (with_reducible first | exact HB.out | apply below_alloc | apply pw_below_drewN | apply below_drew1) | exact HB.out)))); have n1_ := Aside0.mk (below_step (by repeat (first | (with_reducible first | exact HB.out | apply below_alloc | apply pw_below_drewN | apply below_drew1) | exact HB.out)) hb); clear HB; have HO110 := n0_; have HB := n1_; clear n0_ n1_; (try clear hb); (try clear hb2); (try clear hk); (try clear hi); (try clear ho0))))
                go_ret3
                exact ⟨_, by first | rfl | (simp [errW_none, errW_some] <;> rfl) | (simp [*, errW_none, errW_some] <;> rfl), Kd.Q_of_R (by first | exact Kd.R_nil _ _ _ _ _ | exact Kd.N_nil _ _ _ _ _ | exact Kd.V_nil _ _ _ _ _ | exact Kd.Q_nil _ _ _ _ _ | exact Kd.S_nil _ _ _ _ _), by repeat (first | (with_reducible first | exact HB.out | apply below_alloc | apply pw_below_drewN | apply below_drew1) | exact HB.out)⟩
            · rw [if_neg c7] at H
              exact absurd H (by simp)
          · rw [if_neg c6] at H
            exact absurd H (by simp)
      · rw [if_neg c4] at H
        exact absurd H (by simp)
    · rw [if_neg c3] at H
      exact absurd H (by simp)

-- NOT PRINTED: function 77 (frame_reader_next)

/-! ### frame_All: function 51 (by hand) -/
set_option maxHeartbeats 4000000 in
set_option maxRecDepth 100000 in
theorem reader_next (k : Nat) (A0 : Option Addr) (c0 : Nat) (l0 : List Int) (g : Nat) (at_ : Int) (ld : List Int) (n : Int) (ok_ : Bool) (w : World) (hg : w.heap[g]? = some (.cells #[.slice A0 l0.length c0, .int .i64 at_] 114)) (hr0 : Kd.C (Kd.int .u8) w A0 l0.length l0) (hc0 : l0.length ≤ c0) (h0 : 0 ≤ at_) (h1 : at_ ≤ l0.length)
    (hf : frame_Take.f k (l0.drop at_.toNat) = some (ld, n, ok_)) :
    Calls Try.prog 77 #[.pointer (some ⟨g, 0, none⟩)] w fun e w' => ∃ v0_ : Value, e = .returned (.tuple #[v0_, .bool ok_]) ∧ Kd.Q (Kd.int .u8) 5 w' w.heap.size (fun _ => True) v0_ ld ∧ w'.heap[g]? = some (.cells #[.slice A0 l0.length c0, .int .i64 (wrap64 (at_ + n))] 114) ∧ (∀ B, B ≤ g → Below B w w') ∧ w.heap.size ≤ w'.heap.size ∧ ∀ j, j < w.heap.size → j ≠ g → w'.heap[j]? = w.heap[j]? := by
  have q0 : w.cell? ⟨g, 0, none⟩ = some (.slice A0 l0.length c0) := by rw [blk_cell hg]; rfl
  have q1 : w.cell? ⟨g, 1, none⟩ = some (.int .i64 at_) := by rw [blk_cell hg]; rfl
  have HG := Aside0.mk hg
  obtain ⟨i0, hi0, _, hsz, _⟩ := info_parts info5
  obtain ⟨A1, hcut, hA, hC⟩ := print_drop_of (P := Try.prog) (Value.int .u8) 0 22 5 .i64 Try.underlying22 hi0 hsz A0 c0 l0 at_ h0 h1 hc0
  have hR := Kd.C_of_reads (h1 := fun _ => rfl) (hA _ (Kd.reads_of_C hr0))
  obtain ⟨l1, hl1⟩ : ∃ l1, l0.drop at_.toNat = l1 := ⟨_, rfl⟩
  obtain ⟨c1, hc1⟩ : ∃ c1, c0 - at_.toNat = c1 := ⟨_, rfl⟩
  rw [hl1] at hR hC hf hcut
  rw [hc1] at hC hcut
  have HF := Aside0.mk hf
  have HR := Aside0.mk hR
  have HC := Aside0.mk hC
  clear hg hf hR hC hA hl1 hc1 hi0 hsz hc0 hr0 h0 h1
  go_enter Try.func77, Try.ntmps77
  go_wp2_with fail
  go_region_with (go_at_call 49; refine (frame_Take.calls k A1 c1 l1 ld n ok_ _ (Kd.C_drew HR.out) HC.out HF.out).mono ?_; rintro e w2 ⟨v0, rfl, ho, hb⟩)
  all_goals
    have G2 := Aside0.mk (blk_below (w := w.drew) HG.out hb)
    have HO := Aside0.mk ho
    have HB := Aside0.mk hb
    clear ho hb q0 q1 hcut
    have q1 : w2.cell? ⟨g, 1, none⟩ = some (.int .i64 at_) := by rw [blk_cell G2.out]; rfl
    have f1 := blk_frozen G2.out 1
    go_wp2_with fail
    have HQ : Kd.Q (Kd.int .u8) 5 (w2.setCell ⟨g, 1, none⟩ (.int .i64 (wrap64 (at_ + n)))) w.heap.size (fun _ => True) v0 ld :=
      Kd.Q_mono (Kd.Q_far (p := ⟨g, 1, none⟩) (Kd.Q_mono (ok' := fun k_ => w.heap.size ≤ k_) (Kd.Q_bound HO.out) (fun _ hk => hk.2.1)) (fun k_ hk => Nat.ne_of_gt (Nat.lt_of_lt_of_le (blk_lt HG.out) hk)) _) (fun _ _ => trivial)
    have HBB : ∀ B, B ≤ g → Below B w (w2.setCell ⟨g, 1, none⟩ (.int .i64 (wrap64 (at_ + n)))) := fun B hB =>
      ((below_drew (Below.refl B w)).trans (HB.out.mono (Nat.le_trans hB (Nat.le_of_lt (blk_lt HG.out))))).setCell hB _
    go_ret2
    exact ⟨_, rfl, HQ, blk_set G2.out 1 _, HBB, (HBB 0 (Nat.zero_le _)).size, fun j hj hne => (Below.heap_setCell w2 ⟨g, 1, none⟩ _ j hne).trans (HB.out.block j hj)⟩
mutual
def frame_All.l0 : Nat → List Int → List (List Int) → Int → Option (List (List Int) × Int)
  | 0, _, _, _ => none
  | k + 1, l0, out, at_ => if 0 ≤ at_ then (if at_ ≤ (l0.length : Int) then ((frame_Take.f k (l0.drop at_.toNat)).bind fun t => frame_All.l1 k l0 out t.1 (wrap64 (at_ + t.2.1)) t.2.2) else none) else none
def frame_All.l1 : Nat → List Int → List (List Int) → List Int → Int → Bool → Option (List (List Int) × Int)
  | 0, _, _, _, _, _ => none
  | k + 1, l0, out, ld, at_, ok_ => if ok_ = true then (if out.length ≤ 1000000 then frame_All.l0 k l0 (out ++ [ld]) at_ else none) else some (out, at_)
end
def frame_All.f (k : Nat) (l0 : List Int) : Option (List (List Int) × Int) := frame_All.l0 k l0 [] 0
theorem frame_All.mono_l : ∀ k, (∀ a b c, LeO (frame_All.l0 k a b c) (frame_All.l0 (k + 1) a b c)) ∧ (∀ a b c d e, LeO (frame_All.l1 k a b c d e) (frame_All.l1 (k + 1) a b c d e))
  | 0 => ⟨fun _ _ _ r h => by simp [frame_All.l0] at h, fun _ _ _ _ _ r h => by simp [frame_All.l1] at h⟩
  | k + 1 => by
    obtain ⟨ih0, ih1⟩ := frame_All.mono_l k
    refine ⟨fun a b c => ?_, fun a b c d e => ?_⟩
    · rw [frame_All.l0, frame_All.l0]
      exact LeO.ite (LeO.ite (LeO.bind (frame_Take.mono _ _) (fun _ => ih1 _ _ _ _ _)) (LeO.none _)) (LeO.none _)
    · rw [frame_All.l1, frame_All.l1]
      exact LeO.ite (LeO.ite (ih0 _ _ _) (LeO.none _)) (LeO.refl _)
theorem frame_All.mono : ∀ a0 k, LeO (frame_All.f k a0) (frame_All.f (k + 1) a0) := fun a0 k => (frame_All.mono_l k).1 _ _ _
theorem Q_tight {α : Type} {d : Kd α} {e base : Nat} {ok : Nat → Prop} {w : World} {v : Value} {xs : List α} (hE : d.E = []) (h : d.Q e w base ok v xs) : d.Q e w base (fun k => some k = v.ownBlock) v xs := by
  obtain ⟨h0, inner, ho, hr⟩ := h
  refine ⟨fun k hk => hk.symm, inner, ho, hr.imp_ (fun p c hp => d.M_mono (fun k hk => ?_) (d.M_bound hp))⟩
  obtain ⟨_, _, _, q, hq, _⟩ := hk
  rw [hE] at hq
  cases hq
theorem all_size (w : World) (o : Obj) : (w.alloc o).heap.size = w.heap.size + 1 := Array.size_push _
set_option maxHeartbeats 4000000 in
set_option maxRecDepth 100000 in
theorem frame_All.calls (k : Nat) (A0 : Option Addr) (c0 : Nat) (l0 : List Int) (r1 : List (List Int)) (r2 : Int) (w : World) (hr0 : Kd.C (Kd.int .u8) w A0 l0.length l0) (hc0 : l0.length ≤ c0) (h : frame_All.f k l0 = some (r1, r2)) :
    Calls Try.prog 51 #[.slice A0 l0.length c0] w fun e w' => ∃ v0_ : Value, e = .returned (.tuple #[v0_, .int .i64 r2]) ∧ Kd.S (sliceQ 5 (Kd.int .u8)) 22 w' w.heap.size (fun _ => True) v0_ r1 ∧ Below w.heap.size w w' := by
  have HR0 := Aside0.mk hr0
  have HC0 := Aside0.mk hc0
  clear hr0 hc0
  cases k with
  | zero => exact absurd h (by simp [frame_All.f, frame_All.l0])
  | succ k =>
    rw [frame_All.f, frame_All.l0, if_pos (Int.le_refl 0), if_pos (by omega)] at h
    obtain ⟨⟨ld, n, okk⟩, hT, h⟩ := Option.bind_eq_some_iff.1 h
    have HT := Aside0.mk hT
    have H := Aside0.mk h
    clear hT h
    have X1 := Aside0.mk (Kd.C_below HR0.out (below_alloc (Below.refl _ w) (Obj.cells #[Value.slice A0 l0.length c0, Value.int IntKind.i64 0] 114)))
    go_enter Try.func51, Try.ntmps51
    go_wp2_with fail
    refine (reader_next k A0 c0 l0 w.heap.size 0 ld n okk _ (blk_new w _) X1.out HC0.out (Int.le_refl 0) (by omega) HT.out).mono ?_
    rintro e w2 ⟨v2, rfl, hQ, hG, hB, hsz, _⟩
    rw [all_size] at hQ hsz
    have HQ := Aside0.mk (Kd.Q_lower (Kd.Q_mono (Kd.Q_bound hQ) (ok' := fun k_ => k_ ≠ w.heap.size) (fun k_ hk => Nat.ne_of_gt (Nat.lt_of_succ_le hk.2.1))) (Nat.le_succ _))
    have HG := Aside0.mk hG
    have HB := Aside0.mk ((below_alloc (Below.refl _ w) (Obj.cells #[Value.slice A0 l0.length c0, Value.int IntKind.i64 0] 114)).trans (hB _ (Nat.le_refl _)))
    clear hQ hG hB hsz X1
    go_wp2_with fail
    go_loopg [2, 6, 7] k (fun kq v2_ v6_ v7_ w' => ∃ (out : List (List Int)) (ld : List Int) (at_ : Int) (okk : Bool), v7_ = .bool okk ∧ Aside0 (frame_All.l1 kq l0 out ld at_ okk = some (r1, r2)) ∧ Aside0 (Kd.S (sliceQ 5 (Kd.int .u8)) 22 w' w.heap.size (fun k_ => k_ ≠ w.heap.size ∧ some k_ ≠ v6_.ownBlock) v2_ out) ∧ Aside0 (Kd.Q (Kd.int .u8) 5 w' w.heap.size (fun k_ => k_ ≠ w.heap.size) v6_ ld) ∧ Aside0 (w'.heap[w.heap.size]? = some (.cells #[.slice A0 l0.length c0, .int .i64 at_] 114)) ∧ Aside0 (Below w.heap.size w w'))
    case atStart => exact ⟨[], ld, _, okk, rfl, H, ⟨Kd.S_nil _ _ _ _ _⟩, HQ, HG, HB⟩
    case round =>
      clear H HQ HG HB HT
      obtain ⟨out, ld, at_, okk, rfl, H, HS, HQ, HG, HB⟩ := hrel
      cases gk with
      | zero => exact absurd H.out (by simp [frame_All.l1])
      | succ k1 =>
        have h := H.out
        clear H
        rw [frame_All.l1] at h
        cases okk with
        | true =>
          rw [if_pos rfl] at h
          by_cases hl : out.length ≤ 1000000
          · rw [if_pos hl] at h
            have HL : Aside0 ((out.length + 1) * 24 ≤ 140737488355328) := ⟨by omega⟩
            clear hl
            cases k1 with
            | zero => exact absurd h (by simp [frame_All.l0])
            | succ k2 =>
              rw [frame_All.l0] at h
              by_cases p0 : 0 ≤ at_
              · rw [if_pos p0] at h
                by_cases p1 : at_ ≤ (l0.length : Int)
                · rw [if_pos p1] at h
                  obtain ⟨⟨ld2, n2, ok2⟩, hT, h⟩ := Option.bind_eq_some_iff.1 h
                  have HT := Aside0.mk hT
                  have H := Aside0.mk h
                  have P0 := Aside0.mk p0
                  have P1 := Aside0.mk p1
                  clear hT h p0 p1
                  have SZ := Aside0.mk (below_size HB.out)
                  obtain ⟨A6, c6, hu6, _⟩ := Kd.Q_slice HQ.out
                  subst hu6
                  go_wp2_with (first | ((with_reducible refine gate_builtin (b := .append) (xs := #[.tmp 24, .tmp 26]) rfl ?_); (try (refine gate_guard (by rfl) ?_; dsimp only)); at_builtin; refine Kd.S_append (sliceQ 5 (Kd.int .u8)) (w0 := w) w.heap.size rfl (.tmp 24) (.tmp 26) 70 22 (.slice none 0 0) 24 rfl Try.underlying70 info22 rfl (by decide) (by omega) u2 out ld [.slice A6 ld.length c6] (fun k_ => k_ ≠ w.heap.size) (fun k_ => some k_ = (Value.slice A6 ld.length c6).ownBlock) rfl rfl ⟨_, rfl, Q_tight rfl HQ.out⟩ (fun k_ hk_ => ⟨HQ.out.1 k_ hk_.symm, fun he => ((Kd.S_R HS.out).1 k_ he.symm).2 hk_⟩) (fun k_ hk_ => Nat.ne_of_gt (Nat.lt_of_lt_of_le (blk_lt HG.out) hk_)) (Kd.S_mono HS.out (fun k_ hk => ⟨hk.1, fun e_ => hk.2 e_⟩)) HB.out SZ.out HL.out ?_; intro v1 w3 ho hb hg hat; have HS3 := Aside0.mk ho; have HB3 := Aside0.mk hb; have HG3 := Aside0.mk (blk_grown HG.out hg (fun he => ((Kd.S_R HS.out).1 _ he.symm).1 rfl)); clear ho hb hg hat))
                  have X3 := Aside0.mk (Kd.C_below HR0.out HB3.out)
                  clear HS HQ HG HB SZ
                  refine (reader_next k2 A0 c0 l0 w.heap.size at_ ld2 n2 ok2 w3 HG3.out X3.out HC0.out P0.out P1.out HT.out).mono ?_
                  rintro e w4 ⟨v4, rfl, hQ, hG, hBB, hsz, hK⟩
                  have s1 := Kd.S_step (Kd.S_bound HS3.out) (fun j hj hlt => hK j hlt hj.1)
                  have HS4 := Aside0.mk (Kd.S_mono (ok' := fun k_ => k_ ≠ w.heap.size ∧ some k_ ≠ v4.ownBlock) s1 (fun j hj => ⟨hj.1, fun he => by have := Kd.Q_base hQ j he.symm; have := hj.2.2.1; omega⟩))
                  have HQ4 := Aside0.mk (Kd.Q_lower (Kd.Q_mono (Kd.Q_bound hQ) (ok' := fun k_ => k_ ≠ w.heap.size) (fun k_ hk => Nat.ne_of_gt (Nat.lt_of_lt_of_le (blk_lt HG3.out) hk.2.1))) (below_size HB3.out))
                  have HG4 := Aside0.mk hG
                  have HB4 := Aside0.mk (HB3.out.trans (hBB _ (Nat.le_refl _)))
                  clear hQ hG hBB hsz hK s1 HS3 HB3 HG3 X3
                  go_wp2_with fail
                  go_roundg k2
                  case measure => omega
                  case rel => exact ⟨out ++ [ld], ld2, _, ok2, rfl, H, HS4, HQ4, HG4, HB4⟩
                · rw [if_neg p1] at h; cases h
              · rw [if_neg p0] at h; cases h
          · rw [if_neg hl] at h; cases h
        | false =>
          rw [if_neg (by decide)] at h
          obtain ⟨rfl, rfl⟩ := Prod.mk.inj (Option.some.inj h)
          clear h
          have q1 : wr.cell? ⟨w.heap.size, 1, none⟩ = some (.int .i64 at_) := by rw [blk_cell HG.out]; rfl
          go_wp2_with fail
          repeat (go_quiet (fail); try go_wp2)
          go_ret2
          exact ⟨_, rfl, Kd.S_drewN (Kd.S_mono HS.out (fun _ _ => trivial)) _, pw_below_drewN HB.out _⟩


end Go.Proofs.Ytkipbilnhpeacaa.PFrame
