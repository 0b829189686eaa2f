/-
  FrameCut: of frames one behind the other, cut off anywhere, there are just those that are whole. For every ten texts of up to 50 bytes, wherever it is cut.
-/
import Derived.Test.YtkipbilnhpeacaaFrameAllPure
import Derived.Test.YtkipbilnhpeacaaPFramex3
namespace Go.Proofs.Ytkipbilnhpeacaa.Pure
open Go.RowKit Go.Proofs.Ytkipbilnhpeacaa.PFrame Go.Proofs.YtkipbilnhpeacaaW.PrintWords Go.Proofs.Ytkipbilnhpeacaa.CrcP Go.Proofs.Ytkipbilnhpeacaa.FrameP
/-- Where the first i frames end. -/
def fend (ls : List (List Int)) (i : Nat) : Nat := (frms (ls.take i)).length
theorem fend_succ (ls : List (List Int)) (i : Nat) (l : List Int) (h : ls[i]? = some l) : fend ls (i + 1) = fend ls i + (6 + l.length) := by
  unfold fend frms
  rw [List.take_add_one, h]
  simp [frm_length]
theorem frms_split (ls : List (List Int)) (i : Nat) (l : List Int) (h : ls[i]? = some l) : ∃ rest, frms ls = frms (ls.take i) ++ (frm l ++ rest) := by
  obtain ⟨hi, rfl⟩ := List.getElem?_eq_some_iff.1 h
  refine ⟨frms (ls.drop (i + 1)), ?_⟩
  have e : ls = ls.take i ++ ls[i] :: ls.drop (i + 1) := by rw [← List.drop_eq_getElem_cons hi, List.take_append_drop]
  have h2 := congrArg (fun z => (z.map frm).flatten) e
  simp only [List.map_append, List.flatten_append, List.map_cons, List.flatten_cons] at h2
  exact h2
/-- How many are whole within n bytes. -/
theorem whole (ls : List (List Int)) (n m : Nat) : ∃ k, k ≤ m ∧ fend ls k ≤ n ∧ (k < m → n < fend ls (k + 1)) := by
  induction m with
  | zero => exact ⟨0, Nat.le_refl _, by simp [fend, frms], fun h => absurd h (by omega)⟩
  | succ m ih =>
    obtain ⟨k, h1, h2, h3⟩ := ih
    by_cases hk : k < m
    · exact ⟨k, by omega, h2, fun _ => h3 hk⟩
    · obtain rfl : k = m := by omega
      by_cases hn : fend ls (k + 1) ≤ n
      · exact ⟨k + 1, Nat.le_refl _, hn, fun h => absurd h (by omega)⟩
      · exact ⟨k, by omega, h2, fun _ => by omega⟩
theorem cut_take (ls : List (List Int)) (hls : ∀ l ∈ ls, Bytes l ∧ l.length ≤ 50) (n k : Nat) (hk : k ≤ ls.length) (h1 : fend ls k ≤ n) (h2 : k < ls.length → n < fend ls (k + 1)) (hn : n ≤ (frms ls).length) (K : Nat) (hK : 20000 ≤ K) :
    ∃ rest, (frms ls).take n = frms (ls.take k) ++ rest ∧ Bytes rest ∧ frame_Take.f K rest = some ([], 0, false) := by
  by_cases hlt : k < ls.length
  · obtain ⟨l, hl⟩ : ∃ l, ls[k]? = some l := ⟨_, List.getElem?_eq_getElem hlt⟩
    have hL := hls l (List.mem_of_getElem? hl)
    obtain ⟨rest, hr⟩ := frms_split ls k l hl
    have hs := fend_succ ls k l hl
    have h3 := h2 hlt
    have hf := frm_length l
    have e : (frms ls).take n = frms (ls.take k) ++ (frm l).take (n - fend ls k) := by
      rw [hr, List.take_append, List.take_of_length_le (show (frms (ls.take k)).length ≤ n from h1)]
      congr 1
      rw [List.take_append_of_le_length (by show n - fend ls k ≤ _; omega)]
      rfl
    refine ⟨_, e, fun z hz => frm_bytes l hL.1 (by omega) z (List.mem_of_mem_take hz), ?_⟩
    by_cases h6 : n - fend ls k < 6
    · exact take_short _ K (by rw [List.length_take]; omega)
    · obtain ⟨m, hm⟩ : ∃ m, n - fend ls k = m + 2 := ⟨n - fend ls k - 2, by omega⟩
      have r0 : rd ((frm l).take (m + 2)) 0 = (l.length : Int) / 256 := rfl
      have r1 : rd ((frm l).take (m + 2)) 1 = (l.length : Int) % 256 := rfl
      rw [hm]
      refine take_long _ (fun z hz => frm_bytes l hL.1 (by omega) z (List.mem_of_mem_take hz)) K (by rw [List.length_take]; omega) ?_
      rw [r0, r1, List.length_take]
      omega
  · obtain rfl : k = ls.length := by omega
    refine ⟨[], ?_, (fun z hz => absurd hz (by simp)), take_short [] K (by decide)⟩
    unfold fend at h1
    rw [List.take_length] at h1 ⊢
    rw [List.append_nil, List.take_of_length_le (by omega)]
theorem cut_all (ls : List (List Int)) (hls : ∀ l ∈ ls, Bytes l ∧ l.length ≤ 50) (hc : ls.length ≤ 10) (n k : Nat) (hk : k ≤ ls.length) (h1 : fend ls k ≤ n) (h2 : k < ls.length → n < fend ls (k + 1)) (hn : n ≤ (frms ls).length) (hm : (frms ls).length ≤ 5000) (K : Nat) (hK : 30000 ≤ K) :
    frame_All.f K ((frms ls).take n) = some (ls.take k, (fend ls k : Int)) := by
  obtain ⟨K', hK'⟩ : ∃ K', K = (K' + 2) + 2 * (ls.take k).length := ⟨K - 2 - 2 * (ls.take k).length, by rw [List.length_take]; omega⟩
  have hl : (ls.take k).length = k := by rw [List.length_take]; omega
  obtain ⟨rest, e, hb, ht⟩ := cut_take ls hls n k hk h1 h2 hn (K' + 1) (by omega)
  have hlen := congrArg List.length e
  rw [List.length_take, List.length_append] at hlen
  have g := all_frames (ls.take k) [] rest (K' + 2) [] (fun l h => ⟨(hls l (List.mem_of_mem_take h)).1, by have := (hls l (List.mem_of_mem_take h)).2; omega⟩) hb (by simp; omega) (by omega) (by simp; omega)
  rw [List.nil_append, List.nil_append, List.length_nil, Nat.zero_add] at g
  unfold frame_All.f
  rw [e, hK']
  refine g.trans ?_
  have hz : (0 : Int) ≤ (((frms (ls.take k)).length : Nat) : Int) := Int.natCast_nonneg _
  have hy : (((frms (ls.take k)).length : Nat) : Int) ≤ (((frms (ls.take k) ++ rest).length : Nat) : Int) := by rw [List.length_append]; exact Int.ofNat_le.2 (by omega)
  rw [frame_All.l0, if_pos hz, if_pos hy, Int.toNat_natCast, List.drop_left]
  refine (bind_of ht).trans ?_
  rw [frame_All.l1, if_neg (by decide)]
  exact congrArg some (congrArg (Prod.mk (ls.take k)) (up (a := (frms (ls.take k)).length) (n := 0) (by omega)))
theorem rd_in (ls : List (List Int)) (i : Nat) (h : i < ls.length) : ∃ l, ls[i]? = some l ∧ rd_L1 ls (i : Int) = l ∧ l ∈ ls := by
  refine ⟨ls[i], List.getElem?_eq_getElem h, ?_, List.getElem_mem h⟩
  unfold rd_L1
  rw [Int.toNat_natCast, List.getD_eq_getElem?_getD, List.getElem?_eq_getElem h]
  rfl
theorem cut_l2 (ls : List (List Int)) (m : Nat) (hm : m ≤ ls.length) (hn : ls.length ≤ 10) (d : Nat) : ∀ (i k : Nat), i + d = m → d < k → diwanlaw3_FrameCut.l2 k ls (ls.take m) (m : Int) (i : Int) = some true := by
  induction d with
  | zero =>
    intro i k hi hk
    obtain ⟨k, rfl⟩ : ∃ j, k = j + 1 := ⟨k - 1, by omega⟩
    rw [diwanlaw3_FrameCut.l2, if_neg (by omega)]
  | succ d ih =>
    intro i k hi hk
    obtain ⟨k, rfl⟩ : ∃ j, k = j + 1 := ⟨k - 1, by omega⟩
    obtain ⟨l, h1, h2, _⟩ := rd_in ls i (by omega)
    obtain ⟨l', h3, h4, _⟩ := rd_in (ls.take m) i (by rw [List.length_take]; omega)
    rw [List.getElem?_take, if_pos (by omega), h1] at h3
    obtain rfl := Option.some.inj h3
    have c3 : (i : Int) < (((ls.take m).length : Nat) : Int) := by rw [List.length_take]; omega
    rw [diwanlaw3_FrameCut.l2, if_pos (by omega), if_pos (Int.natCast_nonneg _), if_pos c3, if_pos (by omega), h2, h4, if_pos rfl]
    exact (congrArg (diwanlaw3_FrameCut.l2 k ls (ls.take m) (m : Int)) (up (a := i) (n := 1) (by omega))).trans (ih (i + 1) k (by omega) (by omega))
theorem fend_mono (ls : List (List Int)) (d : Nat) : ∀ i, i + d ≤ ls.length → fend ls i ≤ fend ls (i + d) := by
  induction d with
  | zero => intro i _; exact Nat.le_refl _
  | succ d ih =>
    intro i h
    have h1 := ih i (by omega)
    have h2 := fend_succ ls (i + d) ls[i + d] (List.getElem?_eq_getElem (by omega))
    rw [show i + (d + 1) = i + d + 1 from rfl, h2]
    omega
def ends (ls : List (List Int)) : List Int := (List.range ls.length).map fun i => ((fend ls (i + 1) : Nat) : Int)
theorem ends_rd (ls : List (List Int)) (i : Nat) (h : i < ls.length) : rd (ends ls) (i : Int) = ((fend ls (i + 1) : Nat) : Int) := by
  unfold rd ends
  rw [Int.toNat_natCast, List.getD_eq_getElem?_getD, List.getElem?_map, List.getElem?_range h]
  rfl
theorem cut_l1 (ls : List (List Int)) (hc : ls.length ≤ 10) (n k : Nat) (hk : k ≤ ls.length) (h1 : fend ls k ≤ n) (h2 : k < ls.length → n < fend ls (k + 1)) (d : Nat) : ∀ (i K : Nat), i + d = ls.length → d + 100 < K →
    diwanlaw3_FrameCut.l1 K ls (ends ls) (n : Int) (ls.take k) ((fend ls k : Nat) : Int) ((min i k : Nat) : Int) ((fend ls (min i k) : Nat) : Int) (i : Int) = some true := by
  have hel : (ends ls).length = ls.length := by unfold ends; rw [List.length_map, List.length_range]
  induction d with
  | zero =>
    intro i K hi hK
    obtain ⟨K, rfl⟩ : ∃ j, K = j + 2 := ⟨K - 2, by omega⟩
    rw [show min i k = k from by omega, diwanlaw3_FrameCut.l1, if_neg (by omega), if_pos (by rw [List.length_take]; omega), bne_self_eq_false]
    rw [diwanlaw3_FrameCut.j2, if_neg (by decide)]
    exact cut_l2 ls k hk hc k 0 K (by omega) (by omega)
  | succ d ih =>
    intro i K hi hK
    obtain ⟨K, rfl⟩ : ∃ j, K = j + 1 := ⟨K - 1, by omega⟩
    rw [diwanlaw3_FrameCut.l1, if_pos (by omega), if_pos (Int.natCast_nonneg _), ends_rd ls i (by omega)]
    have g := ih (i + 1) K (by omega) (by omega)
    have hu : wrap64 ((i : Int) + 1) = ((i + 1 : Nat) : Int) := up (a := i) (n := 1) (by omega)
    rw [hu]
    by_cases hik : i < k
    · have hm := fend_mono ls (k - (i + 1)) (i + 1) (by omega)
      rw [show i + 1 + (k - (i + 1)) = k from by omega] at hm
      rw [if_pos (Int.ofNat_le.2 (by omega))]
      rw [show min (i + 1) k = i + 1 from by omega] at g
      exact g
    · have hm := fend_mono ls (i - k) (k + 1) (by omega)
      rw [show k + 1 + (i - k) = i + 1 from by omega] at hm
      have h3 := h2 (by omega)
      rw [if_neg (show ¬ ((fend ls (i + 1) : Nat) : Int) ≤ (n : Int) from fun hh => by have h4 := Int.ofNat_le.1 hh; omega)]
      rw [show min (i + 1) k = min i k from by omega] at g
      exact g
theorem frms_le (ls : List (List Int)) (h : ∀ l ∈ ls, l.length ≤ 50) : (frms ls).length ≤ 56 * ls.length := by
  induction ls with
  | nil => simp [frms]
  | cons l ls ih =>
    have h1 := ih (fun x hx => h x (by simp [hx]))
    have h2 := h l (by simp)
    have h3 := frm_length l
    have : (frms (l :: ls)).length = (frm l).length + (frms ls).length := by simp [frms]
    rw [this, List.length_cons]
    omega
theorem cut_place (a1 : Int) (m : Nat) (h0 : 0 ≤ a1) (h1 : a1 ≤ 65535) (hm : m ≤ 5000) : ∃ n : Nat, n ≤ m ∧ Int.tmod (wrap64 a1) (wrap64 ((m : Int) + 1)) = (n : Int) ∧ ¬ wrap64 ((m : Int) + 1) = 0 := by
  have e1 : wrap64 a1 = a1 := by unfold wrap64; omega
  have e2 : wrap64 ((m : Int) + 1) = ((m + 1 : Nat) : Int) := up (a := m) (n := 1) (by omega)
  rw [e1, e2, Int.tmod_eq_emod_of_nonneg h0]
  clear e1 e2
  obtain ⟨a, rfl⟩ := Int.eq_ofNat_of_zero_le h0
  refine ⟨a % (m + 1), by have := Nat.mod_lt a (show 0 < m + 1 by omega); omega, (Int.natCast_emod a (m + 1)).symm, by omega⟩
theorem cut_end (ls : List (List Int)) (a1 : Int) (ha : 0 ≤ a1 ∧ a1 ≤ 65535) (hls : ∀ l ∈ ls, Bytes l ∧ l.length ≤ 50) (hc : ls.length ≤ 10) (K : Nat) (hK : 30000 ≤ K) :
    diwanlaw3_FrameCut.l0 (K + 1) ls a1 (frms ls) (ends ls) (ls.length : Int) = some true := by
  have hm := frms_le ls (fun l h => (hls l h).2)
  obtain ⟨n, hn, hT, hN⟩ := cut_place a1 (frms ls).length ha.1 ha.2 (by omega)
  obtain ⟨k, hk, h1, h2⟩ := whole ls n ls.length
  have g := cut_all ls hls hc n k hk h1 h2 hn (by omega) K (by omega)
  have g1 := cut_l1 ls hc n k hk h1 h2 ls.length 0 K (by omega) (by omega)
  rw [show min 0 k = 0 from by omega, show fend ls 0 = 0 from by simp [fend, frms]] at g1
  rw [diwanlaw3_FrameCut.l0, if_neg (by omega)]
  rw [hT]
  refine (if_neg hN).trans ((if_pos (Int.natCast_nonneg n)).trans ((if_pos (Int.ofNat_le.2 hn)).trans ?_))
  rw [Int.toNat_natCast]
  exact (bind_of g).trans g1
theorem cut_l0 (ls : List (List Int)) (a1 : Int) (ha : 0 ≤ a1 ∧ a1 ≤ 65535) (hls : ∀ l ∈ ls, Bytes l) (hc : ls.length ≤ 10) (d : Nat) : ∀ (i K : Nat), i + d = ls.length → 40000 + d ≤ K → (∀ l ∈ ls.take i, l.length ≤ 50) →
    diwanlaw3_FrameCut.l0 K ls a1 (frms (ls.take i)) ((ends ls).take i) (i : Int) = some true := by
  have hel : (ends ls).length = ls.length := by unfold ends; rw [List.length_map, List.length_range]
  induction d with
  | zero =>
    intro i K hi hK hs
    obtain ⟨K, rfl⟩ : ∃ j, K = j + 1 := ⟨K - 1, by omega⟩
    obtain rfl : i = ls.length := by omega
    rw [List.take_length] at hs ⊢
    rw [List.take_of_length_le (by omega)]
    exact cut_end ls a1 ha (fun l h => ⟨hls l h, hs l h⟩) hc K (by omega)
  | succ d ih =>
    intro i K hi hK hs
    obtain ⟨K, rfl⟩ : ∃ j, K = j + 1 := ⟨K - 1, by omega⟩
    obtain ⟨l, h1, h2, h3⟩ := rd_in ls i (by omega)
    have hf := frms_le (ls.take i) hs
    rw [List.length_take] at hf
    rw [diwanlaw3_FrameCut.l0, if_pos (by omega), if_pos (Int.natCast_nonneg _), h2]
    by_cases h50 : (l.length : Int) > 50
    · rw [if_pos h50]
    · rw [if_neg h50]
      refine (bind_of (put_f l (hls l h3) (by omega) K (by omega))).trans ?_
      refine (if_pos (rfl : ((frm l, true) : List Int × Bool).2 = true)).trans ?_
      have hfl := frm_length l
      have hw : ((frm l).length : Int) = wrap64 (6 + (l.length : Int)) := ((up (a := 6) (n := l.length) (by omega)).trans (by rw [hfl])).symm
      refine (if_pos hw).trans ?_
      clear hw
      refine (if_pos (show (frms (ls.take i)).length + (frm l).length < 140737488355328 by omega)).trans ?_
      refine (bind_of (rfl : (some (frms (ls.take i) ++ frm l : List Int)) = some (frms (ls.take i) ++ frm l))).trans ?_
      refine (if_pos (show ((ends ls).take i).length < 17592186044416 by rw [List.length_take]; omega)).trans ?_
      have ht : frms (ls.take (i + 1)) = frms (ls.take i) ++ frm l := by
        unfold frms
        rw [List.take_add_one, h1]
        simp
      have he : (ends ls).take (i + 1) = (ends ls).take i ++ [((frms (ls.take i) ++ frm l).length : Int)] := by
        have : (ends ls)[i]? = some ((fend ls (i + 1) : Nat) : Int) := by unfold ends; rw [List.getElem?_map, List.getElem?_range (by omega)]; rfl
        rw [List.take_add_one, this, ← ht]
        rfl
      refine (congrArg (diwanlaw3_FrameCut.l0 K ls a1 (frms (ls.take i) ++ frm l) ((ends ls).take i ++ [((frms (ls.take i) ++ frm l).length : Int)])) (up (a := i) (n := 1) (by omega))).trans ?_
      rw [← he, ← ht]
      refine ih (i + 1) K (by omega) (by omega) (fun x hx => ?_)
      rw [List.take_add_one, h1] at hx
      rcases List.mem_append.1 hx with hx | hx
      · exact hs x hx
      · obtain rfl : x = l := by simpa using hx
        omega
theorem FrameCut : diwanlaw3_FrameCut.Pure := by
  intro ls a1 h0 w1
  have hls : ∀ l ∈ ls, Bytes l := fun l h => bytes_of (h0.1 l h).1
  have ha : 0 ≤ a1 ∧ a1 ≤ 65535 := by
    have m3 : IntKind.u16.min = 0 := rfl
    have m4 : IntKind.u16.max = 65535 := rfl
    simp only [Lit.wf, Bool.and_eq_true, decide_eq_true_eq] at w1
    omega
  clear h0 w1
  obtain ⟨K, hK⟩ : ∃ K : Nat, K = 50000 := ⟨_, rfl⟩
  refine ⟨K, ?_⟩
  unfold diwanlaw3_FrameCut.f
  refine (bind_yes (rfl : diwanlaw3_begun.f = some true)).trans ?_
  by_cases h : (ls.length : Int) > 10
  · exact if_pos h
  · exact (if_neg h).trans (cut_l0 ls a1 ha hls (by omega) ls.length 0 K (by omega) (by omega) (by simp))
end Go.Proofs.Ytkipbilnhpeacaa.Pure
