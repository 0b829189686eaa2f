/-
  FrameTurned: a frame of which a bit of the sum or of the text is turned is none. For every text of up to 100 bytes.
-/
import Derived.Test.YtkipbilnhpeacaaFramePure
import Derived.Test.YtkipbilnhpeacaaPFramex2
namespace Go.Proofs.Ytkipbilnhpeacaa.Pure
open Go.RowKit Go.Proofs.Ytkipbilnhpeacaa.PFrame Go.Proofs.YtkipbilnhpeacaaW.PrintWords Go.Proofs.Ytkipbilnhpeacaa.CrcP Go.Proofs.Ytkipbilnhpeacaa.FrameP
theorem xor_u8 (a : Nat) (j : Nat) (ha : a < 256) (hj : j < 8) : Go.bits .xor .u8 (a : Int) (shl .u8 1 (j : Int)) = ((a ^^^ 2 ^ j : Nat) : Int) := by
  have : ∀ a : Fin 256, ∀ j : Fin 8, Go.bits .xor .u8 ((a.val : Nat) : Int) (shl .u8 1 ((j.val : Nat) : Int)) = ((a.val ^^^ 2 ^ j.val : Nat) : Int) := by decide +kernel
  exact this ⟨a, ha⟩ ⟨j, hj⟩
theorem turned_not (l : List Int) (hb : Bytes l) (hl : l.length ≤ 60000) (q : Nat) (x v : Int) (hx : (frame_Put.four (S l) ++ l)[q]? = some x) (hv : 0 ≤ v ∧ v < 256) (hne : v ≠ x) :
    frm (((frame_Put.four (S l) ++ l).set q v).drop 4) ≠ frame_Put.long l ++ (frame_Put.four (S l) ++ l).set q v := by
  intro h
  by_cases hq : q < 4
  · rw [List.set_append_left _ _ (by rw [four_length]; exact hq)] at h
    have hd : ((frame_Put.four (S l)).set q v ++ l).drop 4 = l := by
      rw [List.drop_append_of_le_length (by rw [List.length_set, four_length]; omega), List.drop_of_length_le (by rw [List.length_set, four_length]; omega), List.nil_append]
    rw [hd] at h
    unfold frm at h
    rw [List.append_assoc] at h
    have h2 := List.append_cancel_right (List.append_cancel_left h)
    rw [List.getElem?_append_left (by rw [four_length]; exact hq)] at hx
    have h3 := congrArg (fun z => z[q]?) h2
    simp only [List.getElem?_set, if_pos, four_length, hq] at h3
    rw [hx] at h3
    simp at h3
    exact hne h3.symm
  · rw [List.set_append_right _ _ (by rw [four_length]; omega), four_length] at h
    have hd : (frame_Put.four (S l) ++ l.set (q - 4) v).drop 4 = l.set (q - 4) v := rfl
    rw [hd] at h
    unfold frm at h
    have el : frame_Put.long (l.set (q - 4) v) = frame_Put.long l := by unfold frame_Put.long; rw [List.length_set]
    rw [el, List.append_assoc] at h
    have h2 := List.append_cancel_right (List.append_cancel_left h)
    rw [List.getElem?_append_right (by rw [four_length]; omega), four_length] at hx
    exact S_set_ne l hb hl (q - 4) x v hx hv hne (four_inj (S_range _) (S_range _) h2)
theorem w_small {x : Int} (h0 : -1000000 ≤ x) (h : x ≤ 1000000) : wrap64 x = x := by unfold wrap64; omega
theorem place (a1 : Int) (n : Nat) (h0 : 0 ≤ a1) (h1 : a1 ≤ 65535) (hn : n ≤ 100) : ∃ q : Nat, q < 4 + n ∧ wrap64 (2 + Int.tmod (wrap64 a1) (wrap64 (((6 + n : Nat) : Int) - 2))) = ((q + 2 : Nat) : Int) ∧ ¬ wrap64 (((6 + n : Nat) : Int) - 2) = 0 := by
  rw [w_small (x := a1) (by omega) (by omega), w_small (x := ((6 + n : Nat) : Int) - 2) (by omega) (by omega), Int.tmod_eq_emod_of_nonneg h0]
  have z : ¬ ((6 + n : Nat) : Int) - 2 = 0 := by omega
  have e : ((6 + n : Nat) : Int) - 2 = ((4 + n : Nat) : Int) := by omega
  rw [e] at z ⊢
  obtain ⟨a, rfl⟩ := Int.eq_ofNat_of_zero_le h0
  refine ⟨a % (4 + n), Nat.mod_lt _ (by omega), ?_, z⟩
  rw [← Int.natCast_emod]
  have hq : a % (4 + n) < 4 + n := Nat.mod_lt _ (by omega)
  generalize a % (4 + n) = q at hq
  rw [w_small (by omega) (by omega)]
  omega
theorem turned_tail (K : Nat) (b : List Int) (w6 N T J : Int) (h1 : (b.length : Int) = w6) (h2 : ¬ N = 0) (h3 : 0 ≤ T) (h4 : T < (b.length : Int)) (h5 : 0 ≤ J)
    (hr : frame_Take.f K (b.set T.toNat (Go.bits .xor .u8 (rd b T) (shl .u8 1 J))) = some ([], 0, false)) :
    (if (b.length : Int) = w6 then (if N = 0 then none else (if 0 ≤ T then (if T < (b.length : Int) then (if 0 ≤ J then ((frame_Take.f K (b.set T.toNat (Go.bits .xor .u8 (rd b T) (shl .u8 1 J)))).bind fun bt123 => (if bt123.2.2 = true then (some false) else (some (bt123.2.1 == 0)))) else none) else none) else none)) else some false) = some true := by
  rw [if_pos h1, if_neg h2, if_pos h3, if_pos h4, if_pos h5, hr]; rfl
theorem turned_take (K : Nat) (hK : K = 1000) (l : List Int) (hb : Bytes l) (hl : l.length ≤ 100) (q j : Nat) (hq : q < 4 + l.length) (hj8 : j < 8) :
    frame_Take.f K ((frm l).set (q + 2) (Go.bits .xor .u8 (rd (frm l) ((q + 2 : Nat) : Int)) (shl .u8 1 (j : Int)))) = some ([], 0, false) := by
  have hfr : frm l = frame_Put.long l ++ (frame_Put.four (S l) ++ l) := List.append_assoc _ _ _
  have hql : q < (frame_Put.four (S l) ++ l).length := by rw [List.length_append, four_length]; omega
  have hx : (frame_Put.four (S l) ++ l)[q]? = some (frame_Put.four (S l) ++ l)[q] := List.getElem?_eq_getElem hql
  have hxb := append_bytes (four_bytes (S l)) hb _ (List.mem_of_getElem? hx)
  have hrd : rd (frm l) ((q + 2 : Nat) : Int) = (frame_Put.four (S l) ++ l)[q] := by
    unfold rd
    rw [Int.toNat_natCast, hfr, List.getD_eq_getElem?_getD, List.getElem?_append_right (by rw [long_length]; omega), long_length, Nat.add_sub_cancel, hx]
    rfl
  rw [hrd]
  generalize (frame_Put.four (S l) ++ l)[q] = x at hx hxb
  obtain ⟨c, rfl⟩ := Int.eq_ofNat_of_zero_le hxb.1
  have hlt : c ^^^ 2 ^ j < 256 := Nat.xor_lt_two_pow (n := 8) (by omega) (Nat.pow_lt_pow_right (by decide) hj8)
  have hne : c ^^^ 2 ^ j ≠ c := by
    intro he
    have h1 : c ^^^ (c ^^^ 2 ^ j) = c ^^^ c := by rw [he]
    rw [← Nat.xor_assoc, Nat.xor_self, Nat.zero_xor] at h1
    have := Nat.two_pow_pos j
    omega
  rw [xor_u8 c j (by omega) hj8]
  generalize c ^^^ 2 ^ j = v at hlt hne
  have hset : (frm l).set (q + 2) (v : Int) = frame_Put.long l ++ (frame_Put.four (S l) ++ l).set q (v : Int) := by
    rw [hfr, List.set_append_right _ _ (by rw [long_length]; omega), long_length, Nat.add_sub_cancel]
  have hn := turned_not l hb (by omega) q c (v : Int) hx (by omega) (by omega)
  have hb2 : Bytes ((frm l).set (q + 2) (v : Int)) := by
    intro z hz
    rcases List.mem_or_eq_of_mem_set hz with hz | rfl
    · exact frm_bytes l hb (by omega) z hz
    · omega
  have hlen : ((frm l).set (q + 2) (v : Int)).length = 6 + l.length := by rw [List.length_set, frm_length]
  rw [hset] at hb2 hlen ⊢
  have r0 : rd (frame_Put.long l ++ (frame_Put.four (S l) ++ l).set q (v : Int)) 0 = (l.length : Int) / 256 := rfl
  have r1 : rd (frame_Put.long l ++ (frame_Put.four (S l) ++ l).set q (v : Int)) 1 = (l.length : Int) % 256 := rfl
  have hn2 : ¬ frm (List.drop 6 (frame_Put.long l ++ (frame_Put.four (S l) ++ l).set q (v : Int))) = frame_Put.long l ++ (frame_Put.four (S l) ++ l).set q (v : Int) := hn
  generalize frame_Put.long l ++ (frame_Put.four (S l) ++ l).set q (v : Int) = b at hb2 hlen r0 r1 hn2
  have ht := take_f b hb2 K (6 + l.length) (by omega) (by rw [r0, r1]; omega) (by omega) (by omega) (by omega)
  rw [ht, List.take_of_length_le (by omega), if_neg hn2]
theorem FrameTurned : diwanlaw3_FrameTurned.Pure := by
  intro l a1 a2 _ _ hw wa wb
  have hb := bytes_of hw
  have ha : 0 ≤ a1 ∧ a1 ≤ 65535 := by
    have m3 : IntKind.u16.min = 0 := rfl
    have m4 : IntKind.u16.max = 65535 := rfl
    simp only [Lit.wf, Bool.and_eq_true, decide_eq_true_eq] at wa
    omega
  have hc : 0 ≤ a2 := by
    have m1 : IntKind.u8.min = 0 := rfl
    simp only [Lit.wf, Bool.and_eq_true, decide_eq_true_eq] at wb
    omega
  obtain ⟨K, hK⟩ : ∃ K : Nat, K = 1000 := ⟨_, rfl⟩
  refine ⟨K, ?_⟩
  unfold diwanlaw3_FrameTurned.f
  refine (bind_yes (rfl : diwanlaw3_begun.f = some true)).trans ?_
  by_cases h : (l.length : Int) > 100
  · exact if_pos h
  · have hl : l.length ≤ 100 := by omega
    obtain ⟨q, hq, hT, hN⟩ := place a1 l.length ha.1 ha.2 hl
    obtain ⟨j, hj⟩ : ∃ j : Nat, a2 % 8 = (j : Int) := Int.eq_ofNat_of_zero_le (Int.emod_nonneg a2 (by decide))
    have hj8 : j < 8 := by omega
    have hJ : Int.tmod a2 8 = (j : Int) := (Int.tmod_eq_emod_of_nonneg hc).trans hj
    refine (if_neg h).trans ((bind_of (put_f l hb (by omega) K (by omega))).trans ?_)
    refine (if_pos (rfl : ((frm l, true) : List Int × Bool).2 = true)).trans ?_
    have hW : ((frm l).length : Int) = wrap64 (6 + (l.length : Int)) := by
      rw [frm_length, w_small (by omega) (by omega)]; omega
    rw [← frm_length] at hT hN
    refine turned_tail K (frm l) _ _ _ _ hW hN ?_ ?_ ?_ ?_
    · rw [hT]; exact Int.natCast_nonneg _
    · rw [hT, frm_length]; exact Int.ofNat_lt.2 (by omega)
    · rw [hJ]; exact Int.natCast_nonneg _
    · rw [hT, hJ, Int.toNat_natCast]; exact turned_take K hK l hb hl q j hq hj8
end Go.Proofs.Ytkipbilnhpeacaa.Pure
