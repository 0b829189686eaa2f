/-
  What frame.All, as it is printed, comes to: on any bytes it ends; frames ahead of other bytes are read first, what stands behind as it is by itself.
-/
import Derived.Test.YtkipbilnhpeacaaFramePure
import Derived.Test.YtkipbilnhpeacaaPFramex1
namespace Go.Proofs.Ytkipbilnhpeacaa.FrameP
open Go.RowKit Go.Proofs.Ytkipbilnhpeacaa.PFrame Go.Proofs.YtkipbilnhpeacaaW.PrintWords Go.Proofs.Ytkipbilnhpeacaa.CrcP Go.Proofs.Ytkipbilnhpeacaa.CrcMath
theorem take_E (x y : Int) (hx : 0 ≤ x ∧ x < 256) (hy : 0 ≤ y ∧ y < 256) : wrap64 ((wrap64 (6 + (wrap64 ((wrap64 x) * 256)))) + (wrap64 y)) = 6 + 256 * x + y := by
  have e1 : wrap64 x = x := by unfold wrap64; omega
  rw [e1]
  clear e1
  have e2 : wrap64 (x * 256) = x * 256 := by unfold wrap64; omega
  rw [e2]
  clear e2
  have e3 : wrap64 (6 + x * 256) = 6 + x * 256 := by unfold wrap64; omega
  rw [e3]
  clear e3
  have e4 : wrap64 y = y := by unfold wrap64; omega
  rw [e4]
  clear e4
  unfold wrap64; omega
theorem take_short (b : List Int) (K : Nat) (h : b.length < 6) : frame_Take.f K b = some ([], 0, false) := by
  unfold frame_Take.f
  rw [if_pos (by omega)]
theorem take_long (b : List Int) (hb : Bytes b) (K : Nat) (h6 : 6 ≤ b.length) (hgt : (b.length : Int) < 6 + 256 * rd b 0 + rd b 1) : frame_Take.f K b = some ([], 0, false) := by
  obtain ⟨x, hx, ex, mx⟩ := rd_at b 0 (by omega) (by omega)
  obtain ⟨y, hy, ey, my⟩ := rd_at b 1 (by omega) (by omega)
  have hE := take_E (rd b 0) (rd b 1) (ex ▸ hb x mx) (ey ▸ hb y my)
  unfold frame_Take.f
  rw [if_neg (by omega), if_pos (by omega), if_pos (by omega)]
  simp only [hE]
  rw [if_pos (by omega)]
/-- On any bytes: none, or one that lies within. -/
theorem take_any (b : List Int) (hb : Bytes b) (hl : b.length ≤ 10000) (K : Nat) (hK : 20000 ≤ K) :
    frame_Take.f K b = some ([], 0, false) ∨ ∃ (l : List Int) (n : Nat), frame_Take.f K b = some (l, (n : Int), true) ∧ 6 ≤ n ∧ n ≤ b.length ∧ Bytes l := by
  by_cases h6 : b.length < 6
  · exact .inl (take_short b K h6)
  · obtain ⟨x, hx, ex, mx⟩ := rd_at b 0 (by omega) (by omega)
    obtain ⟨y, hy, ey, my⟩ := rd_at b 1 (by omega) (by omega)
    have bx := hb x mx
    have bY := hb y my
    rw [← ex] at bx
    rw [← ey] at bY
    by_cases hgt : (b.length : Int) < 6 + 256 * rd b 0 + rd b 1
    · exact .inl (take_long b hb K (by omega) hgt)
    · obtain ⟨n, hn⟩ := Int.eq_ofNat_of_zero_le (show 0 ≤ 6 + 256 * rd b 0 + rd b 1 by omega)
      have := take_f b hb K n (by omega) hn.symm (by omega) (by omega) (by omega)
      rw [this]
      by_cases e : frm ((b.take n).drop 6) = b.take n
      · rw [if_pos e]
        exact .inr ⟨_, n, rfl, by omega, by omega, fun z hz => hb z (List.mem_of_mem_take (List.mem_of_mem_drop hz))⟩
      · rw [if_neg e]
        exact .inl rfl
/-- A frame ahead is read. -/
theorem take_frm (l rest : List Int) (hb : Bytes l) (hr : Bytes rest) (hl : l.length ≤ 5000) (K : Nat) (hK : 20000 ≤ K) : frame_Take.f K (frm l ++ rest) = some (l, ((6 + l.length : Nat) : Int), true) := by
  have hlen := frm_length l
  have r0 : rd (frm l ++ rest) 0 = (l.length : Int) / 256 := rfl
  have r1 : rd (frm l ++ rest) 1 = (l.length : Int) % 256 := rfl
  have ht : (frm l ++ rest).take (6 + l.length) = frm l := by rw [List.take_append_of_le_length (by omega), List.take_of_length_le (by omega)]
  have hd : (frm l).drop 6 = l := by
    unfold frm
    rw [List.drop_append_of_le_length (by rw [List.length_append, long_length, four_length]; omega)]
    rfl
  have := take_f (frm l ++ rest) (append_bytes (frm_bytes l hb (by omega)) hr) K (6 + l.length) (by rw [List.length_append]; omega) (by rw [r0, r1]; omega) (by rw [List.length_append]; omega) (by omega) (by omega)
  rw [this, ht, hd, if_pos rfl]
theorem up {a n : Nat} (h : a + n ≤ 100000) : wrap64 ((a : Int) + (n : Int)) = ((a + n : Nat) : Int) := by unfold wrap64; omega
/-- What stands behind is read as it is by itself, and it ends. -/
theorem all_shift (pre b : List Int) (hb : Bytes b) (hl : b.length ≤ 10000) (hp : pre.length ≤ 10000) (d : Nat) : ∀ (at_ k : Nat) (out out' : List (List Int)), at_ + d = b.length → 20002 + 2 * d ≤ k → out.length + d ≤ 100000 → out'.length + d ≤ 100000 →
    ∃ (more : List (List Int)) (e : Nat), e ≤ b.length ∧ more.length ≤ d ∧ frame_All.l0 k (pre ++ b) out ((pre.length + at_ : Nat) : Int) = some (out ++ more, ((pre.length + e : Nat) : Int)) ∧ frame_All.l0 k b out' (at_ : Int) = some (out' ++ more, (e : Int)) := by
  induction d using Nat.strongRecOn with
  | _ d ih =>
    intro at_ k out out' hd hk ho ho'
    obtain ⟨k, rfl⟩ : ∃ m, k = m + 2 := ⟨k - 2, by omega⟩
    have hdr : (pre ++ b).drop (pre.length + at_) = b.drop at_ := by
      rw [← List.drop_drop, List.drop_left]
    have hbd : Bytes (b.drop at_) := fun z hz => hb z (List.mem_of_mem_drop hz)
    have h1 : (0 : Int) ≤ ((pre.length + at_ : Nat) : Int) := Int.natCast_nonneg _
    have h2 : ((pre.length + at_ : Nat) : Int) ≤ (((pre ++ b).length : Nat) : Int) := by rw [List.length_append]; exact Int.ofNat_le.2 (by omega)
    have h3 : (0 : Int) ≤ (at_ : Int) := Int.natCast_nonneg _
    have h4 : (at_ : Int) ≤ ((b.length : Nat) : Int) := Int.ofNat_le.2 (by omega)
    rcases take_any (b.drop at_) hbd (by rw [List.length_drop]; omega) (k + 1) (by omega) with ht | ⟨l, n, ht, hn6, hnl, _⟩
    · refine ⟨[], at_, by omega, Nat.zero_le _, ?_, ?_⟩
      · rw [frame_All.l0, if_pos h1, if_pos h2, Int.toNat_natCast, hdr]
        refine (bind_of ht).trans ?_
        rw [frame_All.l1, if_neg (by decide), List.append_nil]
        exact congrArg some (congrArg (Prod.mk out) (up (a := pre.length + at_) (n := 0) (by omega)))
      · rw [frame_All.l0, if_pos h3, if_pos h4, Int.toNat_natCast]
        refine (bind_of ht).trans ?_
        rw [frame_All.l1, if_neg (by decide), List.append_nil]
        exact congrArg some (congrArg (Prod.mk out') (up (a := at_) (n := 0) (by omega)))
    · rw [List.length_drop] at hnl
      obtain ⟨more, e, he, hm, g1, g2⟩ := ih (d - n) (by omega) (at_ + n) k (out ++ [l]) (out' ++ [l]) (by omega) (by omega) (by rw [List.length_append]; simp; omega) (by rw [List.length_append]; simp; omega)
      refine ⟨l :: more, e, he, by rw [List.length_cons]; omega, ?_, ?_⟩
      · rw [frame_All.l0, if_pos h1, if_pos h2, Int.toNat_natCast, hdr]
        refine (bind_of ht).trans ?_
        rw [frame_All.l1, if_pos rfl, if_pos (by omega)]
        refine (congrArg (frame_All.l0 k (pre ++ b) (out ++ [l])) (up (a := pre.length + at_) (n := n) (by omega))).trans ?_
        rw [Nat.add_assoc, g1]
        simp
      · rw [frame_All.l0, if_pos h3, if_pos h4, Int.toNat_natCast]
        refine (bind_of ht).trans ?_
        rw [frame_All.l1, if_pos rfl, if_pos (by omega)]
        refine (congrArg (frame_All.l0 k b (out' ++ [l])) (up (a := at_) (n := n) (by omega))).trans ?_
        rw [g2]
        simp
def frms (ls : List (List Int)) : List Int := (ls.map frm).flatten
/-- Frames ahead are read, one behind the other. -/
theorem all_frames (ls : List (List Int)) : ∀ (pre b : List Int) (k : Nat) (out : List (List Int)), (∀ l ∈ ls, Bytes l ∧ l.length ≤ 5000) → Bytes b → pre.length + (frms ls).length ≤ 50000 → 20000 ≤ k → out.length + ls.length ≤ 1000 →
    frame_All.l0 (k + 2 * ls.length) (pre ++ (frms ls ++ b)) out (pre.length : Int) = frame_All.l0 k (pre ++ (frms ls ++ b)) (out ++ ls) ((pre.length + (frms ls).length : Nat) : Int) := by
  induction ls with
  | nil => intro pre b k out _ _ _ _ _; simp [frms]
  | cons l ls ih =>
    intro pre b k out hls hb hp hk ho
    have hL := hls l (by simp)
    have hfl : (frms (l :: ls)).length = (frm l).length + (frms ls).length := by simp [frms]
    have hfb : Bytes (frms ls) := by
      intro z hz
      obtain ⟨f, hf, hzf⟩ := List.mem_flatten.1 hz
      obtain ⟨x, hx, rfl⟩ := List.mem_map.1 hf
      have := hls x (by simp [hx])
      exact frm_bytes x this.1 (by omega) z hzf
    have hsplit : pre ++ (frms (l :: ls) ++ b) = (pre ++ frm l) ++ (frms ls ++ b) := by simp [frms]
    have hdr : (pre ++ (frms (l :: ls) ++ b)).drop pre.length = frm l ++ (frms ls ++ b) := by rw [List.drop_left]; simp [frms]
    have ht := take_frm l (frms ls ++ b) hL.1 (append_bytes hfb hb) hL.2 (k + 2 * ls.length + 1) (by omega)
    have h2 : ((pre.length : Nat) : Int) ≤ (((pre ++ (frms (l :: ls) ++ b)).length : Nat) : Int) := by rw [List.length_append]; exact Int.ofNat_le.2 (by omega)
    simp only [List.length_cons] at ho
    rw [List.length_cons, show k + 2 * (ls.length + 1) = k + 2 * ls.length + 1 + 1 from by omega, frame_All.l0, if_pos (Int.natCast_nonneg _), if_pos h2, Int.toNat_natCast, hdr]
    refine (bind_of ht).trans ?_
    rw [frame_All.l1, if_pos rfl, if_pos (by omega)]
    have hfrl := frm_length l
    refine (congrArg (frame_All.l0 (k + 2 * ls.length) (pre ++ (frms (l :: ls) ++ b)) (out ++ [l])) (up (a := pre.length) (n := 6 + l.length) (by omega))).trans ?_
    rw [← hfrl, ← List.length_append, hsplit, ih (pre ++ frm l) b k (out ++ [l]) (fun x hx => hls x (by simp [hx])) hb (by rw [List.length_append]; omega) hk (by rw [List.length_append]; simp; omega)]
    rw [List.append_assoc out, hfl, List.length_append, Nat.add_assoc]
    rfl
end Go.Proofs.Ytkipbilnhpeacaa.FrameP
