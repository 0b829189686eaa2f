/-
  FrameRow: frames are read whatever stands behind them, and that is read as it is by itself.
-/
import Derived.Test.YtkipbilnhpeacaaFrameAllPure
import Derived.Test.YtkipbilnhpeacaaPFramex4
namespace Go.Proofs.Ytkipbilnhpeacaa.Pure
open Go.RowKit Go.Proofs.Ytkipbilnhpeacaa.PFrame Go.Proofs.YtkipbilnhpeacaaW.PrintWords Go.Proofs.Ytkipbilnhpeacaa.CrcP Go.Proofs.Ytkipbilnhpeacaa.FrameP
theorem lift_all (j : Nat) : ∀ (k : Nat) (b : List Int) (o : List (List Int)) (a : Int) (r : List (List Int) × Int), frame_All.l0 k b o a = some r → frame_All.l0 (k + j) b o a = some r := by
  induction j with
  | zero => intro k b o a r h; exact h
  | succ j ih => intro k b o a r h; exact (frame_All.mono_l (k + j)).1 b o a r (ih k b o a r h)
theorem rd_in (ls : List (List Int)) (i : Nat) (h : i < ls.length) : ∃ l, ls[i]? = some l ∧ rd_L1 ls (i : Int) = l ∧ l ∈ ls := by
  refine ⟨ls[i], List.getElem?_eq_getElem h, ?_, List.getElem_mem h⟩
  unfold rd_L1
  rw [Int.toNat_natCast, List.getD_eq_getElem?_getD, List.getElem?_eq_getElem h]
  rfl
theorem row_l1 (ls more : List (List Int)) (hn : ls.length ≤ 6) (d : Nat) : ∀ (i k : Nat), i + d = ls.length → d < k → diwanlaw3_FrameRow.l1 k ls (ls ++ more) (i : Int) = some true := by
  induction d with
  | zero =>
    intro i k hi hk
    obtain ⟨k, rfl⟩ : ∃ m, k = m + 1 := ⟨k - 1, by omega⟩
    rw [diwanlaw3_FrameRow.l1, if_neg (by omega)]
  | succ d ih =>
    intro i k hi hk
    obtain ⟨k, rfl⟩ : ∃ m, k = m + 1 := ⟨k - 1, by omega⟩
    obtain ⟨l, h1, h2, _⟩ := rd_in ls i (by omega)
    obtain ⟨l', h3, h4, _⟩ := rd_in (ls ++ more) i (by rw [List.length_append]; omega)
    rw [List.getElem?_append_left (by omega), h1] at h3
    obtain rfl := Option.some.inj h3
    have c3 : (i : Int) < (((ls ++ more).length : Nat) : Int) := by rw [List.length_append]; omega
    rw [diwanlaw3_FrameRow.l1, if_pos (by omega), if_pos (Int.natCast_nonneg _), if_pos c3, h2, h4, if_pos rfl]
    exact (congrArg (diwanlaw3_FrameRow.l1 k ls (ls ++ more)) (up (a := i) (n := 1) (by omega))).trans (ih (i + 1) k (by omega) (by omega))
theorem frms_length (ls : List (List Int)) (h : ∀ l ∈ ls, l.length ≤ 60) : (frms ls).length ≤ 66 * ls.length := by
  induction ls with
  | nil => simp [frms]
  | cons l ls ih =>
    have h1 := ih (fun x hx => h x (by simp [hx]))
    have h2 := h l (by simp)
    have h3 := frm_length l
    have : (frms (l :: ls)).length = (frm l).length + (frms ls).length := by simp [frms]
    rw [this, List.length_cons]
    omega
theorem row_end (ls : List (List Int)) (b : List Int) (hls : ∀ l ∈ ls, Bytes l ∧ l.length ≤ 60) (hn : ls.length ≤ 6) (hb : Bytes b) (hl : b.length ≤ 50) (k : Nat) (hk : 30000 ≤ k) :
    diwanlaw3_FrameRow.l0 (k + 1) ls b (frms ls) (ls.length : Int) = some true := by
  have hfl := frms_length ls (fun l h => (hls l h).2)
  obtain ⟨k', hk'⟩ : ∃ k', k = k' + 2 * ls.length := ⟨k - 2 * ls.length, by omega⟩
  obtain ⟨more, e, he, hm, g1, g2⟩ := all_shift (frms ls) b hb (by omega) (by omega) b.length 0 k' ([] ++ ls) [] (by omega) (by omega) (by simp; omega) (by simp; omega)
  have g3 := lift_all (2 * ls.length) _ _ _ _ _ g2
  have g4 := all_frames ls [] b k' [] (fun l h => ⟨(hls l h).1, by have := (hls l h).2; omega⟩) hb (by simp; omega) (by omega) (by simp; omega)
  rw [List.length_nil, Nat.zero_add, Nat.add_zero] at *
  rw [List.nil_append, List.nil_append] at g4
  rw [List.nil_append] at g1 g3
  rw [g1] at g4
  rw [← hk'] at g3 g4
  rw [diwanlaw3_FrameRow.l0, if_neg (by omega)]
  refine (bind_of (show frame_All.f k b = some (more, (e : Int)) from g3)).trans ?_
  refine (bind_of (rfl : (some ([] : List Int)) = some [])).trans ?_
  refine (if_pos (show ([] : List Int).length + (frms ls).length < 140737488355328 by rw [List.length_nil]; omega)).trans ?_
  refine (bind_of (rfl : (some ([] ++ frms ls : List Int)) = some ([] ++ frms ls))).trans ?_
  refine (if_pos (show ([] ++ frms ls).length + b.length < 140737488355328 by rw [List.nil_append]; omega)).trans ?_
  refine (bind_of (show frame_All.f k ([] ++ frms ls ++ b) = some (ls ++ more, (((frms ls).length + e : Nat) : Int)) from g4)).trans ?_
  refine (if_pos (show (((ls ++ more).length : Nat) : Int) = wrap64 ((ls.length : Int) + (more.length : Int)) by rw [up (by omega), List.length_append])).trans ?_
  have hne : ((((frms ls).length + e : Nat) : Int) != wrap64 (((frms ls).length : Int) + (e : Int))) = false := by rw [up (by omega)]; exact bne_self_eq_false' ..
  obtain ⟨k0, hk0⟩ : ∃ k0, k = k0 + 1 := ⟨k - 1, by omega⟩
  refine (congrArg (diwanlaw3_FrameRow.j2 k ls (ls ++ more)) hne).trans ?_
  rw [hk0, diwanlaw3_FrameRow.j2, if_neg (by decide)]
  exact row_l1 ls more hn ls.length 0 k0 (by omega) (by omega)
theorem row_l0 (ls : List (List Int)) (b : List Int) (hls : ∀ l ∈ ls, Bytes l) (hn : ls.length ≤ 6) (hb : Bytes b) (hl : b.length ≤ 50) (d : Nat) : ∀ (i k : Nat), i + d = ls.length → 40000 + d ≤ k → (∀ l ∈ ls.take i, l.length ≤ 60) →
    diwanlaw3_FrameRow.l0 k ls b (frms (ls.take i)) (i : Int) = some true := by
  induction d with
  | zero =>
    intro i k hi hk hs
    obtain ⟨k, rfl⟩ : ∃ m, k = m + 1 := ⟨k - 1, by omega⟩
    obtain rfl : i = ls.length := by omega
    rw [List.take_length] at hs ⊢
    exact row_end ls b (fun l h => ⟨hls l h, hs l h⟩) hn hb hl k (by omega)
  | succ d ih =>
    intro i k hi hk hs
    obtain ⟨k, rfl⟩ : ∃ m, k = m + 1 := ⟨k - 1, by omega⟩
    obtain ⟨l, h1, h2, h3⟩ := rd_in ls i (by omega)
    have hf := frms_length (ls.take i) hs
    rw [List.length_take] at hf
    rw [diwanlaw3_FrameRow.l0, if_pos (by omega), if_pos (Int.natCast_nonneg _), h2]
    by_cases h60 : (l.length : Int) > 60
    · rw [if_pos h60]
    · rw [if_neg h60]
      refine (bind_of (put_f l (hls l h3) (by omega) k (by omega))).trans ?_
      have hfl := frm_length l
      refine (if_pos (show (frms (ls.take i)).length + (frm l).length < 140737488355328 by omega)).trans ?_
      have ht : frms (ls.take (i + 1)) = frms (ls.take i) ++ frm l := by
        unfold frms
        rw [List.take_add_one, h1]
        simp
      refine (congrArg (diwanlaw3_FrameRow.l0 k ls b (frms (ls.take i) ++ frm l)) (up (a := i) (n := 1) (by omega))).trans ?_
      rw [← ht]
      refine ih (i + 1) k (by omega) (by omega) (fun x hx => ?_)
      rw [List.take_add_one, h1] at hx
      rcases List.mem_append.1 hx with hx | hx
      · exact hs x hx
      · obtain rfl : x = l := by simpa using hx
        omega
theorem FrameRow : diwanlaw3_FrameRow.Pure := by
  intro ls b h0 h1
  have hls : ∀ l ∈ ls, Bytes l := fun l h => bytes_of (h0.1 l h).1
  have hb := bytes_of h1.1
  clear h0 h1
  refine ⟨50001, ?_⟩
  obtain ⟨K, hK⟩ : ∃ K : Nat, K = 50000 := ⟨_, rfl⟩
  rw [show (50001 : Nat) = K + 1 from by omega]
  unfold diwanlaw3_FrameRow.f
  refine (bind_yes (rfl : diwanlaw3_begun.f = some true)).trans ?_
  by_cases h : (ls.length : Int) > 6
  · rw [if_pos h, diwanlaw3_FrameRow.j0, if_pos rfl]
  · rw [if_neg h]
    by_cases h2 : (b.length : Int) > 50
    · rw [decide_eq_true h2, diwanlaw3_FrameRow.j0, if_pos rfl]
    · rw [decide_eq_false h2, diwanlaw3_FrameRow.j0, if_neg (by decide)]
      exact row_l0 ls b hls (by omega) hb (by omega) ls.length 0 K (by omega) (by omega) (by simp)
end Go.Proofs.Ytkipbilnhpeacaa.Pure
