/- Texts of this session, merged: ALawBitsStay. -/
import Derived.Test.YtpggknkhldecaaaBBitsStay4
import Derived.Test.YtpggknkhldecaaaBBitsStay3
set_option linter.unusedVariables false
set_option linter.unusedSimpArgs false
section
/-
  What is noted stays, whatever is noted behind, and an Open verdict misses one at least.
-/
namespace Go.Proofs.Ytpggknkhldecaaa.Abs

theorem pkTx_keyl (l : List UInt8) (n most : Nat) : (∀ r ∈ (pkTx l n most).1.reads, r.key.length ≤ 8) ∧ ∀ r ∈ (pkTx l n most).1.writes, r.key.length ≤ 8 := by
  have h := pkTx_may l n most
  unfold mayTxB at h
  simp only [Bool.and_eq_true, decide_eq_true_eq] at h
  obtain ⟨_, _, _, _, _, h6, _, h8, _, _⟩ := h
  exact ⟨fun r hr => (mayB_len (rising_key h6 _ (List.mem_map_of_mem hr))).2, fun r hr => (mayB_len (rising_key h8 _ (List.mem_map_of_mem hr))).2⟩

set_option maxRecDepth 100000 in
set_option maxHeartbeats 8000000 in
theorem law_BitsStay (x0 : List ((Int) × (Int) × (Int))) (x1 : List UInt8) (x2 : Int)
    (g0 : (fun l : List ((Int) × (Int) × (Int)) => (∀ x ∈ l, (fun p : (Int) × (Int) × (Int) => (fun n : Int => (Lit.int .u8 n).wf = true) p.1 ∧ (fun n : Int => (Lit.int .u8 n).wf = true) p.2.1 ∧ (fun n : Int => (Lit.int .u8 n).wf = true) p.2.2) x) ∧ l.length ≤ reachBytes) x0)
    (g1 : (fun l : List UInt8 => l.length ≤ reachBytes) x1)
    (g2 : (fun n : Int => (Lit.int .u8 n).wf = true) x2) :
    AC Try.prog 5 [(fun l : List ((Int) × (Int) × (Int)) => AV.sl 3 (l.map (fun p : (Int) × (Int) × (Int) => AV.agg (((AV.int .u8) p.1).cells ++ ((AV.int .u8) p.2.1).cells ++ ((AV.int .u8) p.2.2).cells)))) x0, (fun l : List UInt8 => AV.sl 1 (bl l)) x1, (AV.int .u8) x2] [] 0 false (fun r _ _ => r = .bool true) := by
  have hb := law_begun21.yes
  have hbl1 : (bl x1).length = x1.length := bl_len x1
  obtain ⟨g0, _⟩ := g0
  dsimp only at g0 g1 ⊢
  show AC Try.prog 5 [.sl 3 (x0.map triA), .sl 1 (bl x1), .int .u8 x2] [] 0 false (fun r _ _ => r = .bool true)
  have hxl : (x0.map triA).length = x0.length := List.length_map _
  by_cases h0 : x0.length ≤ 40
  · by_cases h1 : x1.length ≤ 30
    · skip
      refine ac_fn Try.func5 rfl rfl rfl rfl (fun w0 S0 r0 => ?_)
      refine aw_seq ?_
      refine aw_region ?_
      refine st_p (mva rfl) rfl ?_
      refine al_nil ?_
      refine nm ?_
      refine aw_seq ?_
      refine aw_seq ?_
      refine aw_region ?_
      -- STOP: call diwan/diwanlaw21.begun() -> 18
      refine st_o ((op_callq (hb) Try.func24 ⟨rfl, rfl⟩ rfl rfl (fun nx => .nil) (by rintro _ _ _ ⟨rfl, rfl, rfl⟩; exact .same rfl)).ok) rfl ?_
      refine st_p (op_notT rfl) rfl ?_
      refine al_nil ?_
      refine nm ?_
      -- IF t19
      refine aw_no (rfl) ?_
      refine aw_skip ?_
      refine nm ?_
      refine aw_seq ?_
      refine aw_seq ?_
      refine aw_region ?_
      refine st_p (mv rfl) rfl ?_
      refine st_p (op_len Try.underlying43 rfl) rfl ?_
      refine st_p (OpP.conv (op_gt rfl rfl) (no (by first | assumption | omega))) rfl ?_
      refine st_p (mv rfl) rfl ?_
      refine st_pg rfl rfl rfl (mv rfl) rfl ?_
      refine st_pg rfl rfl rfl (op_len Try.underlying22 rfl) rfl ?_
      refine st_pg rfl rfl rfl (OpP.conv (op_gt rfl rfl) (no (by first | assumption | omega))) rfl ?_
      refine st_p (pkF rfl rfl) rfl ?_
      refine al_nil ?_
      refine nm ?_
      -- IF t27
      refine aw_no (rfl) ?_
      refine aw_skip ?_
      refine nm ?_
      refine aw_seq ?_
      refine aw_region ?_
      refine st_p (mva rfl) rfl ?_
      refine al_nil ?_
      refine nm ?_
      refine aw_seq ?_
      refine aw_region ?_
      refine st_o (op_alloc a60 rfl rfl) rfl ?_
      refine al_nil ?_
      refine nm ?_
      refine aw_seq ?_
      refine aw_seq ?_
      refine aw_region ?_
      refine st_p (mva rfl) rfl ?_
      refine al_nil ?_
      refine nm ?_
      refine aw_block ?_
      -- LOOP
      refine aw_cutB (⟨[(1, .sl 1 (bl x1)), (2, .int .u8 x2), (7, .own 1 0 (noteL x0).length), (8, .ptr 0 0 0)], [(0, .cells 27 [.agg (firstV (noteL x0))]), (1, .cells 3 (nts (noteL x0)))], 2⟩) ?_ ?_
      · skip
        refine aw_loop (fun p : {p : Nat × List NT // p.1 ≤ x0.length ∧ p.2 = noteL (x0.take p.1) ∧ RisN p.2 ∧ OkN p.2 ∧ p.2.length ≤ p.1} => ⟨[(0, .sl 3 (x0.map triA)), (1, .sl 1 (bl x1)), (2, .int .u8 x2), (7, aV p.1.2), (8, .ptr 0 0 0), (9, .int .i64 p.1.1)], (0, .cells 27 [.agg (firstV p.1.2)]) :: aH p.1.2, aN p.1.2⟩) (fun p => x0.length - p.1.1) ⟨(0, []), Nat.zero_le _, rfl, risN_nil, okN_nil, Nat.le_refl _⟩ ?_ ?_
        · exact le_to [] rfl rfl rfl rfl rfl ⟨rfl, rfl, rfl, rfl, rfl, rfl, trivial⟩ ⟨rfl, trivial⟩
        · rintro ⟨⟨i, l⟩, hi, hl, hr, ho, hn⟩
          dsimp only at hi hl hr ho hn ⊢
          have hfl := firstV_len l
          by_cases hlt : i < x0.length
          · obtain ⟨⟨a, b, c⟩, hx⟩ : ∃ x, x0[i]? = some x := ⟨_, List.getElem?_eq_getElem hlt⟩
            obtain ⟨ga, gb, gc⟩ := g0 _ (List.mem_of_getElem? hx)
            have hxb : (x0.map triA)[((i : Nat) : Int).toNat]? = some (.agg [.int .u8 a, .int .u8 b, .int .u8 c]) := by rw [Int.toNat_natCast, List.getElem?_map, hx]; rfl
            have hst := noteL_step hx
            rw [← hl] at hst
            unfold noteS at hst
            dsimp only at hst ga gb gc
            obtain ⟨P, hP, hP9⟩ := u8_rem (m := 9) ga (by decide) (by decide)
            obtain ⟨Q, hQ, hQ3⟩ := u8_rem (m := 3) gb (by decide) (by decide)
            obtain ⟨B, hB, hB4⟩ := u8_rem (m := 4) gc (by decide) (by decide)
            have hP : IntKind.i64.wrap (a.tmod 9) = (P : Int) := hP
            have hQ : IntKind.i64.wrap (b.tmod 3) = (Q : Int) := hQ
            have hB : IntKind.i64.wrap (c.tmod 4) = (B : Int) := hB
            rw [hP, hQ, hB] at hst
            have hr2 := addN_rises (p := (P : Int)) (s := (Q : Int)) (b := (B : Int)) hr
            have ho2 := addN_ok (p := (P : Int)) (s := (Q : Int)) (b := (B : Int)) ho
            have hn2 := addN_len l (P : Int) (Q : Int) (B : Int)
            have hget : (firstV l)[0 + (IntKind.i64.wrap (a.tmod 9)).toNat * 3 + (IntKind.i64.wrap (b.tmod 3)).toNat * 1]? = some (.int .i64 (ofN l (P : Int) (Q : Int))) := by
              rw [hP, hQ, Int.toNat_natCast, Int.toNat_natCast, Nat.mul_one, Nat.zero_add]; exact firstV_get l hP9 hQ3
            have hset : ofN l (P : Int) (Q : Int) = 0 → (B : Int) = 1 ∨ (B : Int) = 2 → (firstV l).set (0 + (IntKind.i64.wrap (a.tmod 9)).toNat * 3 + (IntKind.i64.wrap (b.tmod 3)).toNat * 1) (.int .i64 (IntKind.i64.wrap (c.tmod 4))) = firstV (addN l (P : Int) (Q : Int) (B : Int)) := fun hz h12 => by
              rw [hP, hQ, hB, Int.toNat_natCast, Int.toNat_natCast, Nat.mul_one, Nat.zero_add]; exact firstV_set hP9 hQ3 ho hz h12
            have hsame := fun h => firstV_same (p := P) (s := Q) (b := (B : Int)) ho h
            by_cases hne : l = []
            · subst hne
              rw [show aV [] = AV.nils from rfl, show aH [] = [] from rfl, show aN [] = 1 from rfl]
              have hz : ofN [] (P : Int) (Q : Int) = 0 := rfl
              by_cases hb12 : (B : Int) ≠ 1 ∧ (B : Int) ≠ 2
              · have hadd : AC Try.prog 35 [.nils, .int .i64 (IntKind.i64.wrap (a.tmod 9)), .int .i64 (IntKind.i64.wrap (b.tmod 3)), .int .i64 (IntKind.i64.wrap (c.tmod 4))] [] 0 false (fun v h nx => v = .nils ∧ h = [] ∧ nx = 0) := by rw [hP, hQ, hB]; exact bits_Add0_no _ _ _ hb12
                have em : addN [] (P : Int) (Q : Int) (B : Int) = [] := by rw [addN_nil, if_pos hb12]
                rw [em] at hst hr2 ho2
                refine aw_seq ?_
                refine aw_seq ?_
                refine aw_region ?_
                refine st_p (mv rfl) rfl ?_
                refine st_p (mv rfl) rfl ?_
                refine st_p (op_len Try.underlying43 rfl) rfl ?_
                refine st_p (OpP.conv (op_lt rfl rfl) (yes (by first | assumption | omega))) rfl ?_
                refine al_nil ?_
                refine nm ?_
                -- IF t31
                refine aw_yes (rfl) ?_
                refine aw_skip ?_
                refine nm ?_
                refine aw_seq ?_
                refine aw_block ?_
                refine aw_seq ?_
                refine dr_go ?_
                refine dr_f 0 0 [0] rfl (fun H => mv rfl) ?_
                refine dr_f 0 0 [9] rfl (fun H => mv rfl) ?_
                refine dr_q 0 0 [34, 35] rfl (op_indexAddrL Try.underlying43 z61 rfl rfl (by omega) (by first | assumption | rfl)) ?_
                refine dr_q 0 0 [36] rfl (op_indexAddrAL Try.underlying61 z5 rfl rfl (by omega) (by omega)) ?_
                refine dr_q 0 0 [37] rfl (op_load1L Try.underlying5 rfl rfl rfl) ?_
                refine dr_f 0 0 [38] rfl (fun H => op_rem rfl rfl (by omega)) ?_
                refine dr_f 0 0 [39] rfl (fun H => op_conv (by rw [Try.underlying5]; rfl) Try.underlying3 rfl) ?_
                refine dr_f 0 0 [0] rfl (fun H => mv rfl) ?_
                refine dr_f 0 0 [9] rfl (fun H => mv rfl) ?_
                refine dr_q 0 0 [41, 42] rfl (op_indexAddrL Try.underlying43 z61 rfl rfl (by omega) (by first | assumption | rfl)) ?_
                refine dr_q 0 0 [43] rfl (op_indexAddrAL Try.underlying61 z5 rfl rfl (by omega) (by omega)) ?_
                refine dr_q 0 0 [44] rfl (op_load1L Try.underlying5 rfl rfl rfl) ?_
                refine dr_f 0 0 [45] rfl (fun H => op_rem rfl rfl (by omega)) ?_
                refine dr_f 0 0 [46] rfl (fun H => op_conv (by rw [Try.underlying5]; rfl) Try.underlying3 rfl) ?_
                refine dr_f 0 0 [0] rfl (fun H => mv rfl) ?_
                refine dr_f 0 0 [9] rfl (fun H => mv rfl) ?_
                refine dr_q 0 0 [48, 49] rfl (op_indexAddrL Try.underlying43 z61 rfl rfl (by omega) (by first | assumption | rfl)) ?_
                refine dr_q 0 0 [50] rfl (op_indexAddrAL Try.underlying61 z5 rfl rfl (by omega) (by omega)) ?_
                refine dr_q 0 0 [51] rfl (op_load1L Try.underlying5 rfl rfl rfl) ?_
                refine dr_f 0 0 [52] rfl (fun H => op_rem rfl rfl (by omega)) ?_
                refine dr_f 0 0 [53] rfl (fun H => op_conv (by rw [Try.underlying5]; rfl) Try.underlying3 rfl) ?_
                refine dr_f 0 0 [40] rfl (fun H => mva rfl) ?_
                refine dr_f 0 0 [47] rfl (fun H => mva rfl) ?_
                refine dr_f 0 0 [54] rfl (fun H => mva rfl) ?_
                refine dr_end [] (by kernel_rfl) (by kernel_rfl) (by kernel_rfl) (by kernel_rfl) trivial ?_
                refine nm ?_
                refine aw_seq ?_
                refine aw_region ?_
                refine st_p (mv rfl) rfl ?_
                refine st_p (mv rfl) rfl ?_
                refine st_p (mv rfl) rfl ?_
                refine st_p (mv rfl) rfl ?_
                -- STOP: call diwan/bits.Add(t55, t56, t57, t58) -> 59
                refine st_o ((op_callq (hadd) Try.func35 ⟨rfl, rfl⟩ rfl rfl (fun nx => (.cons (.same (by rfl)) (.cons (.same (by rfl)) (.cons (.same (by rfl)) (.cons (.same (by rfl)) .nil))))) (by rintro _ _ _ ⟨rfl, rfl, rfl⟩; exact .same rfl)).ok) rfl ?_
                refine st_p (mva rfl) rfl ?_
                refine al_nil ?_
                refine nm ?_
                refine aw_seq ?_
                refine aw_region ?_
                refine st_p (mv rfl) rfl ?_
                refine st_p (mv rfl) rfl ?_
                refine st_p (op_indexAddrA Try.underlying60 z59 rfl rfl (by omega) (by omega)) rfl ?_
                refine st_p (op_indexAddrA Try.underlying59 z3 rfl rfl (by omega) (by omega)) rfl ?_
                refine st_p (op_load1 Try.underlying3 rfl rfl rfl rfl (by assumption)) rfl ?_
                refine st_p (OpP.conv (op_eq rfl rfl) (yes (by first | assumption | omega))) rfl ?_
                refine st_p (mv rfl) rfl ?_
                refine st_pg rfl rfl rfl (mv rfl) rfl ?_
                refine st_pg rfl rfl rfl (OpP.conv (op_eq rfl rfl) (no (by first | assumption | omega))) rfl ?_
                refine st_pg rfl rfl rfl (mv rfl) rfl ?_
                refine st_pg rfl rfl rfl (mv rfl) rfl ?_
                refine st_pg rfl rfl rfl (OpP.conv (op_eq rfl rfl) (no (by first | assumption | omega))) rfl ?_
                refine st_pg rfl rfl rfl (pkF rfl rfl) rfl ?_
                refine st_p (pkT rfl rfl) rfl ?_
                refine al_nil ?_
                refine nm ?_
                -- IF t73
                refine aw_no (rfl) ?_
                refine aw_skip ?_
                refine nmb ?_
                refine nm ?_
                refine aw_region ?_
                refine st_p (mv rfl) rfl ?_
                refine st_p (op_addi rfl rfl (by omega)) rfl ?_
                refine st_p (mva rfl) rfl ?_
                refine al_nil ?_
                refine nm ?_
                exact ⟨⟨(i + 1, []), by dsimp only; exact ⟨hlt, hst.symm, hr2, ho2, Nat.zero_le _⟩⟩, by dsimp only; omega, le_to [] rfl rfl rfl rfl rfl ⟨rfl, rfl, rfl, rfl, rfl, rfl, trivial⟩ ⟨by rw [ren_firstV]; rfl, trivial⟩⟩
              · have em : addN [] (P : Int) (Q : Int) (B : Int) = [⟨(P : Int), (Q : Int), (B : Int)⟩] := by rw [addN_nil, if_neg hb12]
                have hadd : AC Try.prog 35 [.nils, .int .i64 (IntKind.i64.wrap (a.tmod 9)), .int .i64 (IntKind.i64.wrap (b.tmod 3)), .int .i64 (IntKind.i64.wrap (c.tmod 4))] [] 0 false (fun v h nx => v = .own 0 0 1 ∧ h = [(0, .cells 3 (nts [⟨(P : Int), (Q : Int), (B : Int)⟩]))] ∧ nx = 1) := by rw [hP, hQ, hB]; exact bits_Add0 _ _ _ hb12
                have hm : ([⟨(P : Int), (Q : Int), (B : Int)⟩] : List NT) ≠ [] := by simp
                rw [em] at hst hr2 ho2 hset
                have hset := hset hz
                by_cases hb1 : (B : Int) = 1
                · have hset := hset (.inl hb1)
                  refine aw_seq ?_
                  refine aw_seq ?_
                  refine aw_region ?_
                  refine st_p (mv rfl) rfl ?_
                  refine st_p (mv rfl) rfl ?_
                  refine st_p (op_len Try.underlying43 rfl) rfl ?_
                  refine st_p (OpP.conv (op_lt rfl rfl) (yes (by first | assumption | omega))) rfl ?_
                  refine al_nil ?_
                  refine nm ?_
                  -- IF t31
                  refine aw_yes (rfl) ?_
                  refine aw_skip ?_
                  refine nm ?_
                  refine aw_seq ?_
                  refine aw_block ?_
                  refine aw_seq ?_
                  refine dr_go ?_
                  refine dr_f 0 0 [0] rfl (fun H => mv rfl) ?_
                  refine dr_f 0 0 [9] rfl (fun H => mv rfl) ?_
                  refine dr_q 0 0 [34, 35] rfl (op_indexAddrL Try.underlying43 z61 rfl rfl (by omega) (by first | assumption | rfl)) ?_
                  refine dr_q 0 0 [36] rfl (op_indexAddrAL Try.underlying61 z5 rfl rfl (by omega) (by omega)) ?_
                  refine dr_q 0 0 [37] rfl (op_load1L Try.underlying5 rfl rfl rfl) ?_
                  refine dr_f 0 0 [38] rfl (fun H => op_rem rfl rfl (by omega)) ?_
                  refine dr_f 0 0 [39] rfl (fun H => op_conv (by rw [Try.underlying5]; rfl) Try.underlying3 rfl) ?_
                  refine dr_f 0 0 [0] rfl (fun H => mv rfl) ?_
                  refine dr_f 0 0 [9] rfl (fun H => mv rfl) ?_
                  refine dr_q 0 0 [41, 42] rfl (op_indexAddrL Try.underlying43 z61 rfl rfl (by omega) (by first | assumption | rfl)) ?_
                  refine dr_q 0 0 [43] rfl (op_indexAddrAL Try.underlying61 z5 rfl rfl (by omega) (by omega)) ?_
                  refine dr_q 0 0 [44] rfl (op_load1L Try.underlying5 rfl rfl rfl) ?_
                  refine dr_f 0 0 [45] rfl (fun H => op_rem rfl rfl (by omega)) ?_
                  refine dr_f 0 0 [46] rfl (fun H => op_conv (by rw [Try.underlying5]; rfl) Try.underlying3 rfl) ?_
                  refine dr_f 0 0 [0] rfl (fun H => mv rfl) ?_
                  refine dr_f 0 0 [9] rfl (fun H => mv rfl) ?_
                  refine dr_q 0 0 [48, 49] rfl (op_indexAddrL Try.underlying43 z61 rfl rfl (by omega) (by first | assumption | rfl)) ?_
                  refine dr_q 0 0 [50] rfl (op_indexAddrAL Try.underlying61 z5 rfl rfl (by omega) (by omega)) ?_
                  refine dr_q 0 0 [51] rfl (op_load1L Try.underlying5 rfl rfl rfl) ?_
                  refine dr_f 0 0 [52] rfl (fun H => op_rem rfl rfl (by omega)) ?_
                  refine dr_f 0 0 [53] rfl (fun H => op_conv (by rw [Try.underlying5]; rfl) Try.underlying3 rfl) ?_
                  refine dr_f 0 0 [40] rfl (fun H => mva rfl) ?_
                  refine dr_f 0 0 [47] rfl (fun H => mva rfl) ?_
                  refine dr_f 0 0 [54] rfl (fun H => mva rfl) ?_
                  refine dr_end [] (by kernel_rfl) (by kernel_rfl) (by kernel_rfl) (by kernel_rfl) trivial ?_
                  refine nm ?_
                  refine aw_seq ?_
                  refine aw_region ?_
                  refine st_p (mv rfl) rfl ?_
                  refine st_p (mv rfl) rfl ?_
                  refine st_p (mv rfl) rfl ?_
                  refine st_p (mv rfl) rfl ?_
                  -- STOP: call diwan/bits.Add(t55, t56, t57, t58) -> 59
                  refine st_o (op_callg [] 0 false [] [] (hadd) Try.func35 ⟨rfl, rfl⟩ rfl rfl rfl rfl (by omega) (by intro p hp; cases hp) rfl (.cons (.same (by rfl)) (.cons (.same (by rfl)) (.cons (.same (by rfl)) (.cons (.same (by rfl)) .nil)))) rfl rfl rfl) rfl ?_
                  refine st_p (mva rfl) rfl ?_
                  refine al_nil ?_
                  refine nm ?_
                  refine aw_seq ?_
                  refine aw_region ?_
                  refine st_p (mv rfl) rfl ?_
                  refine st_p (mv rfl) rfl ?_
                  refine st_p (op_indexAddrA Try.underlying60 z59 rfl rfl (by omega) (by omega)) rfl ?_
                  refine st_p (op_indexAddrA Try.underlying59 z3 rfl rfl (by omega) (by omega)) rfl ?_
                  refine st_p (op_load1 Try.underlying3 rfl rfl rfl rfl (by assumption)) rfl ?_
                  refine st_p (OpP.conv (op_eq rfl rfl) (yes (by first | assumption | omega))) rfl ?_
                  refine st_p (mv rfl) rfl ?_
                  refine st_pg rfl rfl rfl (mv rfl) rfl ?_
                  refine st_pg rfl rfl rfl (OpP.conv (op_eq rfl rfl) (yes (by first | assumption | omega))) rfl ?_
                  refine st_pg rfl rfl rfl (mv rfl) rfl ?_
                  refine st_s rfl rfl rfl rfl rfl ?_
                  refine st_s rfl rfl rfl rfl rfl ?_
                  refine st_pg rfl rfl rfl (pkT rfl rfl) rfl ?_
                  refine st_p (pkT rfl rfl) rfl ?_
                  refine al_nil ?_
                  refine nm ?_
                  -- IF t73
                  refine aw_yes (rfl) ?_
                  refine aw_region ?_
                  refine st_p (mv rfl) rfl ?_
                  refine st_p (mv rfl) rfl ?_
                  refine st_p (mv rfl) rfl ?_
                  refine st_p (op_indexAddrA Try.underlying60 z59 rfl rfl (by omega) (by omega)) rfl ?_
                  refine st_p (op_indexAddrA Try.underlying59 z3 rfl rfl (by omega) (by omega)) rfl ?_
                  refine st_n (stE z3 rfl rfl rfl rfl (by omega) rfl rfl) ?_
                  refine al_nil ?_
                  refine nmb ?_
                  refine nm ?_
                  refine aw_region ?_
                  refine st_p (mv rfl) rfl ?_
                  refine st_p (op_addi rfl rfl (by omega)) rfl ?_
                  refine st_p (mva rfl) rfl ?_
                  refine al_nil ?_
                  refine nm ?_
                  refine ⟨⟨(i + 1, [⟨(P : Int), (Q : Int), (B : Int)⟩]), by dsimp only; exact ⟨hlt, hst.symm, hr2, ho2, by first | omega | simp⟩⟩, by dsimp only; omega, ?_⟩
                  dsimp only
                  rw [aV_ne hm, aH_ne hm, aN_ne hm]
                  exact le_to [(1, 1)] rfl rfl rfl rfl rfl ⟨rfl, rfl, rfl, rfl, rfl, rfl, trivial⟩ ⟨by rw [ren_firstV, ← hset]; rfl, by simp only [Blk.ren, ren_nts, List.map_cons, List.map_nil]; rfl, trivial⟩
                · have hb2 : (B : Int) = 2 := Decidable.byContradiction fun h2 => hb12 ⟨hb1, h2⟩
                  have hset := hset (.inr hb2)
                  refine aw_seq ?_
                  refine aw_seq ?_
                  refine aw_region ?_
                  refine st_p (mv rfl) rfl ?_
                  refine st_p (mv rfl) rfl ?_
                  refine st_p (op_len Try.underlying43 rfl) rfl ?_
                  refine st_p (OpP.conv (op_lt rfl rfl) (yes (by first | assumption | omega))) rfl ?_
                  refine al_nil ?_
                  refine nm ?_
                  -- IF t31
                  refine aw_yes (rfl) ?_
                  refine aw_skip ?_
                  refine nm ?_
                  refine aw_seq ?_
                  refine aw_block ?_
                  refine aw_seq ?_
                  refine dr_go ?_
                  refine dr_f 0 0 [0] rfl (fun H => mv rfl) ?_
                  refine dr_f 0 0 [9] rfl (fun H => mv rfl) ?_
                  refine dr_q 0 0 [34, 35] rfl (op_indexAddrL Try.underlying43 z61 rfl rfl (by omega) (by first | assumption | rfl)) ?_
                  refine dr_q 0 0 [36] rfl (op_indexAddrAL Try.underlying61 z5 rfl rfl (by omega) (by omega)) ?_
                  refine dr_q 0 0 [37] rfl (op_load1L Try.underlying5 rfl rfl rfl) ?_
                  refine dr_f 0 0 [38] rfl (fun H => op_rem rfl rfl (by omega)) ?_
                  refine dr_f 0 0 [39] rfl (fun H => op_conv (by rw [Try.underlying5]; rfl) Try.underlying3 rfl) ?_
                  refine dr_f 0 0 [0] rfl (fun H => mv rfl) ?_
                  refine dr_f 0 0 [9] rfl (fun H => mv rfl) ?_
                  refine dr_q 0 0 [41, 42] rfl (op_indexAddrL Try.underlying43 z61 rfl rfl (by omega) (by first | assumption | rfl)) ?_
                  refine dr_q 0 0 [43] rfl (op_indexAddrAL Try.underlying61 z5 rfl rfl (by omega) (by omega)) ?_
                  refine dr_q 0 0 [44] rfl (op_load1L Try.underlying5 rfl rfl rfl) ?_
                  refine dr_f 0 0 [45] rfl (fun H => op_rem rfl rfl (by omega)) ?_
                  refine dr_f 0 0 [46] rfl (fun H => op_conv (by rw [Try.underlying5]; rfl) Try.underlying3 rfl) ?_
                  refine dr_f 0 0 [0] rfl (fun H => mv rfl) ?_
                  refine dr_f 0 0 [9] rfl (fun H => mv rfl) ?_
                  refine dr_q 0 0 [48, 49] rfl (op_indexAddrL Try.underlying43 z61 rfl rfl (by omega) (by first | assumption | rfl)) ?_
                  refine dr_q 0 0 [50] rfl (op_indexAddrAL Try.underlying61 z5 rfl rfl (by omega) (by omega)) ?_
                  refine dr_q 0 0 [51] rfl (op_load1L Try.underlying5 rfl rfl rfl) ?_
                  refine dr_f 0 0 [52] rfl (fun H => op_rem rfl rfl (by omega)) ?_
                  refine dr_f 0 0 [53] rfl (fun H => op_conv (by rw [Try.underlying5]; rfl) Try.underlying3 rfl) ?_
                  refine dr_f 0 0 [40] rfl (fun H => mva rfl) ?_
                  refine dr_f 0 0 [47] rfl (fun H => mva rfl) ?_
                  refine dr_f 0 0 [54] rfl (fun H => mva rfl) ?_
                  refine dr_end [] (by kernel_rfl) (by kernel_rfl) (by kernel_rfl) (by kernel_rfl) trivial ?_
                  refine nm ?_
                  refine aw_seq ?_
                  refine aw_region ?_
                  refine st_p (mv rfl) rfl ?_
                  refine st_p (mv rfl) rfl ?_
                  refine st_p (mv rfl) rfl ?_
                  refine st_p (mv rfl) rfl ?_
                  -- STOP: call diwan/bits.Add(t55, t56, t57, t58) -> 59
                  refine st_o (op_callg [] 0 false [] [] (hadd) Try.func35 ⟨rfl, rfl⟩ rfl rfl rfl rfl (by omega) (by intro p hp; cases hp) rfl (.cons (.same (by rfl)) (.cons (.same (by rfl)) (.cons (.same (by rfl)) (.cons (.same (by rfl)) .nil)))) rfl rfl rfl) rfl ?_
                  refine st_p (mva rfl) rfl ?_
                  refine al_nil ?_
                  refine nm ?_
                  refine aw_seq ?_
                  refine aw_region ?_
                  refine st_p (mv rfl) rfl ?_
                  refine st_p (mv rfl) rfl ?_
                  refine st_p (op_indexAddrA Try.underlying60 z59 rfl rfl (by omega) (by omega)) rfl ?_
                  refine st_p (op_indexAddrA Try.underlying59 z3 rfl rfl (by omega) (by omega)) rfl ?_
                  refine st_p (op_load1 Try.underlying3 rfl rfl rfl rfl (by assumption)) rfl ?_
                  refine st_p (OpP.conv (op_eq rfl rfl) (yes (by first | assumption | omega))) rfl ?_
                  refine st_p (mv rfl) rfl ?_
                  refine st_pg rfl rfl rfl (mv rfl) rfl ?_
                  refine st_pg rfl rfl rfl (OpP.conv (op_eq rfl rfl) (no (by first | assumption | omega))) rfl ?_
                  refine st_pg rfl rfl rfl (mv rfl) rfl ?_
                  refine st_pg rfl rfl rfl (mv rfl) rfl ?_
                  refine st_pg rfl rfl rfl (OpP.conv (op_eq rfl rfl) (yes (by first | assumption | omega))) rfl ?_
                  refine st_pg rfl rfl rfl (pkF rfl rfl) rfl ?_
                  refine st_p (pkT rfl rfl) rfl ?_
                  refine al_nil ?_
                  refine nm ?_
                  -- IF t73
                  refine aw_yes (rfl) ?_
                  refine aw_region ?_
                  refine st_p (mv rfl) rfl ?_
                  refine st_p (mv rfl) rfl ?_
                  refine st_p (mv rfl) rfl ?_
                  refine st_p (op_indexAddrA Try.underlying60 z59 rfl rfl (by omega) (by omega)) rfl ?_
                  refine st_p (op_indexAddrA Try.underlying59 z3 rfl rfl (by omega) (by omega)) rfl ?_
                  refine st_n (stE z3 rfl rfl rfl rfl (by omega) rfl rfl) ?_
                  refine al_nil ?_
                  refine nmb ?_
                  refine nm ?_
                  refine aw_region ?_
                  refine st_p (mv rfl) rfl ?_
                  refine st_p (op_addi rfl rfl (by omega)) rfl ?_
                  refine st_p (mva rfl) rfl ?_
                  refine al_nil ?_
                  refine nm ?_
                  refine ⟨⟨(i + 1, [⟨(P : Int), (Q : Int), (B : Int)⟩]), by dsimp only; exact ⟨hlt, hst.symm, hr2, ho2, by first | omega | simp⟩⟩, by dsimp only; omega, ?_⟩
                  dsimp only
                  rw [aV_ne hm, aH_ne hm, aN_ne hm]
                  exact le_to [(1, 1)] rfl rfl rfl rfl rfl ⟨rfl, rfl, rfl, rfl, rfl, rfl, trivial⟩ ⟨by rw [ren_firstV, ← hset]; rfl, by simp only [Blk.ren, ren_nts, List.map_cons, List.map_nil]; rfl, trivial⟩
            · have h0l : 0 < l.length := List.length_pos_iff.2 hne
              have hm := addN_ne (p := (P : Int)) (s := (Q : Int)) (b := (B : Int)) hne
              have hadd : AC Try.prog 35 [.sl 3 (nts l), .int .i64 (IntKind.i64.wrap (a.tmod 9)), .int .i64 (IntKind.i64.wrap (b.tmod 3)), .int .i64 (IntKind.i64.wrap (c.tmod 4))] [] 0 false (fun v h nx => v = .own 0 0 (addN l (P : Int) (Q : Int) (B : Int)).length ∧ h = [(0, .cells 3 (nts (addN l (P : Int) (Q : Int) (B : Int))))] ∧ nx = 1) := by rw [hP, hQ, hB]; exact bits_Add l _ _ _ (by omega) h0l hr
              rw [aV_ne hne, aH_ne hne, aN_ne hne]
              have hnl := nts_len l
              have hpl := nts_plain l
              generalize addN l (P : Int) (Q : Int) (B : Int) = m at hadd hst hr2 ho2 hn2 hset hsame hm
              by_cases hz : ofN l (P : Int) (Q : Int) = 0
              · have hset := hset hz
                by_cases hb1 : (B : Int) = 1
                · have hset := hset (.inl hb1)
                  refine aw_seq ?_
                  refine aw_seq ?_
                  refine aw_region ?_
                  refine st_p (mv rfl) rfl ?_
                  refine st_p (mv rfl) rfl ?_
                  refine st_p (op_len Try.underlying43 rfl) rfl ?_
                  refine st_p (OpP.conv (op_lt rfl rfl) (yes (by first | assumption | omega))) rfl ?_
                  refine al_nil ?_
                  refine nm ?_
                  -- IF t31
                  refine aw_yes (rfl) ?_
                  refine aw_skip ?_
                  refine nm ?_
                  refine aw_seq ?_
                  refine aw_block ?_
                  refine aw_seq ?_
                  refine dr_go ?_
                  refine dr_f 0 0 [0] rfl (fun H => mv rfl) ?_
                  refine dr_f 0 0 [9] rfl (fun H => mv rfl) ?_
                  refine dr_q 0 0 [34, 35] rfl (op_indexAddrL Try.underlying43 z61 rfl rfl (by omega) (by first | assumption | rfl)) ?_
                  refine dr_q 0 0 [36] rfl (op_indexAddrAL Try.underlying61 z5 rfl rfl (by omega) (by omega)) ?_
                  refine dr_q 0 0 [37] rfl (op_load1L Try.underlying5 rfl rfl rfl) ?_
                  refine dr_f 0 0 [38] rfl (fun H => op_rem rfl rfl (by omega)) ?_
                  refine dr_f 0 0 [39] rfl (fun H => op_conv (by rw [Try.underlying5]; rfl) Try.underlying3 rfl) ?_
                  refine dr_f 0 0 [0] rfl (fun H => mv rfl) ?_
                  refine dr_f 0 0 [9] rfl (fun H => mv rfl) ?_
                  refine dr_q 0 0 [41, 42] rfl (op_indexAddrL Try.underlying43 z61 rfl rfl (by omega) (by first | assumption | rfl)) ?_
                  refine dr_q 0 0 [43] rfl (op_indexAddrAL Try.underlying61 z5 rfl rfl (by omega) (by omega)) ?_
                  refine dr_q 0 0 [44] rfl (op_load1L Try.underlying5 rfl rfl rfl) ?_
                  refine dr_f 0 0 [45] rfl (fun H => op_rem rfl rfl (by omega)) ?_
                  refine dr_f 0 0 [46] rfl (fun H => op_conv (by rw [Try.underlying5]; rfl) Try.underlying3 rfl) ?_
                  refine dr_f 0 0 [0] rfl (fun H => mv rfl) ?_
                  refine dr_f 0 0 [9] rfl (fun H => mv rfl) ?_
                  refine dr_q 0 0 [48, 49] rfl (op_indexAddrL Try.underlying43 z61 rfl rfl (by omega) (by first | assumption | rfl)) ?_
                  refine dr_q 0 0 [50] rfl (op_indexAddrAL Try.underlying61 z5 rfl rfl (by omega) (by omega)) ?_
                  refine dr_q 0 0 [51] rfl (op_load1L Try.underlying5 rfl rfl rfl) ?_
                  refine dr_f 0 0 [52] rfl (fun H => op_rem rfl rfl (by omega)) ?_
                  refine dr_f 0 0 [53] rfl (fun H => op_conv (by rw [Try.underlying5]; rfl) Try.underlying3 rfl) ?_
                  refine dr_f 0 0 [40] rfl (fun H => mva rfl) ?_
                  refine dr_f 0 0 [47] rfl (fun H => mva rfl) ?_
                  refine dr_f 0 0 [54] rfl (fun H => mva rfl) ?_
                  refine dr_end [] (by kernel_rfl) (by kernel_rfl) (by kernel_rfl) (by kernel_rfl) trivial ?_
                  refine nm ?_
                  refine aw_seq ?_
                  refine aw_region ?_
                  refine st_p (mv rfl) rfl ?_
                  refine st_p (mv rfl) rfl ?_
                  refine st_p (mv rfl) rfl ?_
                  refine st_p (mv rfl) rfl ?_
                  -- STOP: call diwan/bits.Add(t55, t56, t57, t58) -> 59
                  refine st_o (op_callg [] 0 false [] [] (hadd) Try.func35 ⟨rfl, rfl⟩ rfl rfl rfl rfl (by omega) (by intro p hp; cases hp) rfl (.cons (.whole rfl rfl rfl hnl.symm rfl hpl) (.cons (.same (by rfl)) (.cons (.same (by rfl)) (.cons (.same (by rfl)) .nil)))) rfl rfl rfl) rfl ?_
                  refine st_p (mva rfl) rfl ?_
                  refine al_nil ?_
                  refine nm ?_
                  refine aw_seq ?_
                  refine aw_region ?_
                  refine st_p (mv rfl) rfl ?_
                  refine st_p (mv rfl) rfl ?_
                  refine st_p (op_indexAddrA Try.underlying60 z59 rfl rfl (by omega) (by omega)) rfl ?_
                  refine st_p (op_indexAddrA Try.underlying59 z3 rfl rfl (by omega) (by omega)) rfl ?_
                  refine st_p (op_load1 Try.underlying3 rfl rfl rfl rfl (by assumption)) rfl ?_
                  refine st_p (OpP.conv (op_eq rfl rfl) (yes (by first | assumption | omega))) rfl ?_
                  refine st_p (mv rfl) rfl ?_
                  refine st_pg rfl rfl rfl (mv rfl) rfl ?_
                  refine st_pg rfl rfl rfl (OpP.conv (op_eq rfl rfl) (yes (by first | assumption | omega))) rfl ?_
                  refine st_pg rfl rfl rfl (mv rfl) rfl ?_
                  refine st_s rfl rfl rfl rfl rfl ?_
                  refine st_s rfl rfl rfl rfl rfl ?_
                  refine st_pg rfl rfl rfl (pkT rfl rfl) rfl ?_
                  refine st_p (pkT rfl rfl) rfl ?_
                  refine al_nil ?_
                  refine nm ?_
                  -- IF t73
                  refine aw_yes (rfl) ?_
                  refine aw_region ?_
                  refine st_p (mv rfl) rfl ?_
                  refine st_p (mv rfl) rfl ?_
                  refine st_p (mv rfl) rfl ?_
                  refine st_p (op_indexAddrA Try.underlying60 z59 rfl rfl (by omega) (by omega)) rfl ?_
                  refine st_p (op_indexAddrA Try.underlying59 z3 rfl rfl (by omega) (by omega)) rfl ?_
                  refine st_n (stE z3 rfl rfl rfl rfl (by omega) rfl rfl) ?_
                  refine al_nil ?_
                  refine nmb ?_
                  refine nm ?_
                  refine aw_region ?_
                  refine st_p (mv rfl) rfl ?_
                  refine st_p (op_addi rfl rfl (by omega)) rfl ?_
                  refine st_p (mva rfl) rfl ?_
                  refine al_nil ?_
                  refine nm ?_
                  refine ⟨⟨(i + 1, m), by dsimp only; exact ⟨hlt, hst.symm, hr2, ho2, by first | omega | simp⟩⟩, by dsimp only; omega, ?_⟩
                  dsimp only
                  rw [aV_ne hm, aH_ne hm, aN_ne hm]
                  exact le_to [(1, 2)] rfl rfl rfl rfl rfl ⟨rfl, rfl, rfl, rfl, rfl, rfl, trivial⟩ ⟨by rw [ren_firstV, ← hset]; rfl, by simp only [Blk.ren, ren_nts, List.map_cons, List.map_nil]; rfl, trivial⟩
                · by_cases hb2 : (B : Int) = 2
                  · have hset := hset (.inr hb2)
                    refine aw_seq ?_
                    refine aw_seq ?_
                    refine aw_region ?_
                    refine st_p (mv rfl) rfl ?_
                    refine st_p (mv rfl) rfl ?_
                    refine st_p (op_len Try.underlying43 rfl) rfl ?_
                    refine st_p (OpP.conv (op_lt rfl rfl) (yes (by first | assumption | omega))) rfl ?_
                    refine al_nil ?_
                    refine nm ?_
                    -- IF t31
                    refine aw_yes (rfl) ?_
                    refine aw_skip ?_
                    refine nm ?_
                    refine aw_seq ?_
                    refine aw_block ?_
                    refine aw_seq ?_
                    refine dr_go ?_
                    refine dr_f 0 0 [0] rfl (fun H => mv rfl) ?_
                    refine dr_f 0 0 [9] rfl (fun H => mv rfl) ?_
                    refine dr_q 0 0 [34, 35] rfl (op_indexAddrL Try.underlying43 z61 rfl rfl (by omega) (by first | assumption | rfl)) ?_
                    refine dr_q 0 0 [36] rfl (op_indexAddrAL Try.underlying61 z5 rfl rfl (by omega) (by omega)) ?_
                    refine dr_q 0 0 [37] rfl (op_load1L Try.underlying5 rfl rfl rfl) ?_
                    refine dr_f 0 0 [38] rfl (fun H => op_rem rfl rfl (by omega)) ?_
                    refine dr_f 0 0 [39] rfl (fun H => op_conv (by rw [Try.underlying5]; rfl) Try.underlying3 rfl) ?_
                    refine dr_f 0 0 [0] rfl (fun H => mv rfl) ?_
                    refine dr_f 0 0 [9] rfl (fun H => mv rfl) ?_
                    refine dr_q 0 0 [41, 42] rfl (op_indexAddrL Try.underlying43 z61 rfl rfl (by omega) (by first | assumption | rfl)) ?_
                    refine dr_q 0 0 [43] rfl (op_indexAddrAL Try.underlying61 z5 rfl rfl (by omega) (by omega)) ?_
                    refine dr_q 0 0 [44] rfl (op_load1L Try.underlying5 rfl rfl rfl) ?_
                    refine dr_f 0 0 [45] rfl (fun H => op_rem rfl rfl (by omega)) ?_
                    refine dr_f 0 0 [46] rfl (fun H => op_conv (by rw [Try.underlying5]; rfl) Try.underlying3 rfl) ?_
                    refine dr_f 0 0 [0] rfl (fun H => mv rfl) ?_
                    refine dr_f 0 0 [9] rfl (fun H => mv rfl) ?_
                    refine dr_q 0 0 [48, 49] rfl (op_indexAddrL Try.underlying43 z61 rfl rfl (by omega) (by first | assumption | rfl)) ?_
                    refine dr_q 0 0 [50] rfl (op_indexAddrAL Try.underlying61 z5 rfl rfl (by omega) (by omega)) ?_
                    refine dr_q 0 0 [51] rfl (op_load1L Try.underlying5 rfl rfl rfl) ?_
                    refine dr_f 0 0 [52] rfl (fun H => op_rem rfl rfl (by omega)) ?_
                    refine dr_f 0 0 [53] rfl (fun H => op_conv (by rw [Try.underlying5]; rfl) Try.underlying3 rfl) ?_
                    refine dr_f 0 0 [40] rfl (fun H => mva rfl) ?_
                    refine dr_f 0 0 [47] rfl (fun H => mva rfl) ?_
                    refine dr_f 0 0 [54] rfl (fun H => mva rfl) ?_
                    refine dr_end [] (by kernel_rfl) (by kernel_rfl) (by kernel_rfl) (by kernel_rfl) trivial ?_
                    refine nm ?_
                    refine aw_seq ?_
                    refine aw_region ?_
                    refine st_p (mv rfl) rfl ?_
                    refine st_p (mv rfl) rfl ?_
                    refine st_p (mv rfl) rfl ?_
                    refine st_p (mv rfl) rfl ?_
                    -- STOP: call diwan/bits.Add(t55, t56, t57, t58) -> 59
                    refine st_o (op_callg [] 0 false [] [] (hadd) Try.func35 ⟨rfl, rfl⟩ rfl rfl rfl rfl (by omega) (by intro p hp; cases hp) rfl (.cons (.whole rfl rfl rfl hnl.symm rfl hpl) (.cons (.same (by rfl)) (.cons (.same (by rfl)) (.cons (.same (by rfl)) .nil)))) rfl rfl rfl) rfl ?_
                    refine st_p (mva rfl) rfl ?_
                    refine al_nil ?_
                    refine nm ?_
                    refine aw_seq ?_
                    refine aw_region ?_
                    refine st_p (mv rfl) rfl ?_
                    refine st_p (mv rfl) rfl ?_
                    refine st_p (op_indexAddrA Try.underlying60 z59 rfl rfl (by omega) (by omega)) rfl ?_
                    refine st_p (op_indexAddrA Try.underlying59 z3 rfl rfl (by omega) (by omega)) rfl ?_
                    refine st_p (op_load1 Try.underlying3 rfl rfl rfl rfl (by assumption)) rfl ?_
                    refine st_p (OpP.conv (op_eq rfl rfl) (yes (by first | assumption | omega))) rfl ?_
                    refine st_p (mv rfl) rfl ?_
                    refine st_pg rfl rfl rfl (mv rfl) rfl ?_
                    refine st_pg rfl rfl rfl (OpP.conv (op_eq rfl rfl) (no (by first | assumption | omega))) rfl ?_
                    refine st_pg rfl rfl rfl (mv rfl) rfl ?_
                    refine st_pg rfl rfl rfl (mv rfl) rfl ?_
                    refine st_pg rfl rfl rfl (OpP.conv (op_eq rfl rfl) (yes (by first | assumption | omega))) rfl ?_
                    refine st_pg rfl rfl rfl (pkF rfl rfl) rfl ?_
                    refine st_p (pkT rfl rfl) rfl ?_
                    refine al_nil ?_
                    refine nm ?_
                    -- IF t73
                    refine aw_yes (rfl) ?_
                    refine aw_region ?_
                    refine st_p (mv rfl) rfl ?_
                    refine st_p (mv rfl) rfl ?_
                    refine st_p (mv rfl) rfl ?_
                    refine st_p (op_indexAddrA Try.underlying60 z59 rfl rfl (by omega) (by omega)) rfl ?_
                    refine st_p (op_indexAddrA Try.underlying59 z3 rfl rfl (by omega) (by omega)) rfl ?_
                    refine st_n (stE z3 rfl rfl rfl rfl (by omega) rfl rfl) ?_
                    refine al_nil ?_
                    refine nmb ?_
                    refine nm ?_
                    refine aw_region ?_
                    refine st_p (mv rfl) rfl ?_
                    refine st_p (op_addi rfl rfl (by omega)) rfl ?_
                    refine st_p (mva rfl) rfl ?_
                    refine al_nil ?_
                    refine nm ?_
                    refine ⟨⟨(i + 1, m), by dsimp only; exact ⟨hlt, hst.symm, hr2, ho2, by first | omega | simp⟩⟩, by dsimp only; omega, ?_⟩
                    dsimp only
                    rw [aV_ne hm, aH_ne hm, aN_ne hm]
                    exact le_to [(1, 2)] rfl rfl rfl rfl rfl ⟨rfl, rfl, rfl, rfl, rfl, rfl, trivial⟩ ⟨by rw [ren_firstV, ← hset]; rfl, by simp only [Blk.ren, ren_nts, List.map_cons, List.map_nil]; rfl, trivial⟩
                  · have hsame := hsame (fun h => h.2.elim hb1 hb2)
                    refine aw_seq ?_
                    refine aw_seq ?_
                    refine aw_region ?_
                    refine st_p (mv rfl) rfl ?_
                    refine st_p (mv rfl) rfl ?_
                    refine st_p (op_len Try.underlying43 rfl) rfl ?_
                    refine st_p (OpP.conv (op_lt rfl rfl) (yes (by first | assumption | omega))) rfl ?_
                    refine al_nil ?_
                    refine nm ?_
                    -- IF t31
                    refine aw_yes (rfl) ?_
                    refine aw_skip ?_
                    refine nm ?_
                    refine aw_seq ?_
                    refine aw_block ?_
                    refine aw_seq ?_
                    refine dr_go ?_
                    refine dr_f 0 0 [0] rfl (fun H => mv rfl) ?_
                    refine dr_f 0 0 [9] rfl (fun H => mv rfl) ?_
                    refine dr_q 0 0 [34, 35] rfl (op_indexAddrL Try.underlying43 z61 rfl rfl (by omega) (by first | assumption | rfl)) ?_
                    refine dr_q 0 0 [36] rfl (op_indexAddrAL Try.underlying61 z5 rfl rfl (by omega) (by omega)) ?_
                    refine dr_q 0 0 [37] rfl (op_load1L Try.underlying5 rfl rfl rfl) ?_
                    refine dr_f 0 0 [38] rfl (fun H => op_rem rfl rfl (by omega)) ?_
                    refine dr_f 0 0 [39] rfl (fun H => op_conv (by rw [Try.underlying5]; rfl) Try.underlying3 rfl) ?_
                    refine dr_f 0 0 [0] rfl (fun H => mv rfl) ?_
                    refine dr_f 0 0 [9] rfl (fun H => mv rfl) ?_
                    refine dr_q 0 0 [41, 42] rfl (op_indexAddrL Try.underlying43 z61 rfl rfl (by omega) (by first | assumption | rfl)) ?_
                    refine dr_q 0 0 [43] rfl (op_indexAddrAL Try.underlying61 z5 rfl rfl (by omega) (by omega)) ?_
                    refine dr_q 0 0 [44] rfl (op_load1L Try.underlying5 rfl rfl rfl) ?_
                    refine dr_f 0 0 [45] rfl (fun H => op_rem rfl rfl (by omega)) ?_
                    refine dr_f 0 0 [46] rfl (fun H => op_conv (by rw [Try.underlying5]; rfl) Try.underlying3 rfl) ?_
                    refine dr_f 0 0 [0] rfl (fun H => mv rfl) ?_
                    refine dr_f 0 0 [9] rfl (fun H => mv rfl) ?_
                    refine dr_q 0 0 [48, 49] rfl (op_indexAddrL Try.underlying43 z61 rfl rfl (by omega) (by first | assumption | rfl)) ?_
                    refine dr_q 0 0 [50] rfl (op_indexAddrAL Try.underlying61 z5 rfl rfl (by omega) (by omega)) ?_
                    refine dr_q 0 0 [51] rfl (op_load1L Try.underlying5 rfl rfl rfl) ?_
                    refine dr_f 0 0 [52] rfl (fun H => op_rem rfl rfl (by omega)) ?_
                    refine dr_f 0 0 [53] rfl (fun H => op_conv (by rw [Try.underlying5]; rfl) Try.underlying3 rfl) ?_
                    refine dr_f 0 0 [40] rfl (fun H => mva rfl) ?_
                    refine dr_f 0 0 [47] rfl (fun H => mva rfl) ?_
                    refine dr_f 0 0 [54] rfl (fun H => mva rfl) ?_
                    refine dr_end [] (by kernel_rfl) (by kernel_rfl) (by kernel_rfl) (by kernel_rfl) trivial ?_
                    refine nm ?_
                    refine aw_seq ?_
                    refine aw_region ?_
                    refine st_p (mv rfl) rfl ?_
                    refine st_p (mv rfl) rfl ?_
                    refine st_p (mv rfl) rfl ?_
                    refine st_p (mv rfl) rfl ?_
                    -- STOP: call diwan/bits.Add(t55, t56, t57, t58) -> 59
                    refine st_o (op_callg [] 0 false [] [] (hadd) Try.func35 ⟨rfl, rfl⟩ rfl rfl rfl rfl (by omega) (by intro p hp; cases hp) rfl (.cons (.whole rfl rfl rfl hnl.symm rfl hpl) (.cons (.same (by rfl)) (.cons (.same (by rfl)) (.cons (.same (by rfl)) .nil)))) rfl rfl rfl) rfl ?_
                    refine st_p (mva rfl) rfl ?_
                    refine al_nil ?_
                    refine nm ?_
                    refine aw_seq ?_
                    refine aw_region ?_
                    refine st_p (mv rfl) rfl ?_
                    refine st_p (mv rfl) rfl ?_
                    refine st_p (op_indexAddrA Try.underlying60 z59 rfl rfl (by omega) (by omega)) rfl ?_
                    refine st_p (op_indexAddrA Try.underlying59 z3 rfl rfl (by omega) (by omega)) rfl ?_
                    refine st_p (op_load1 Try.underlying3 rfl rfl rfl rfl (by assumption)) rfl ?_
                    refine st_p (OpP.conv (op_eq rfl rfl) (yes (by first | assumption | omega))) rfl ?_
                    refine st_p (mv rfl) rfl ?_
                    refine st_pg rfl rfl rfl (mv rfl) rfl ?_
                    refine st_pg rfl rfl rfl (OpP.conv (op_eq rfl rfl) (no (by first | assumption | omega))) rfl ?_
                    refine st_pg rfl rfl rfl (mv rfl) rfl ?_
                    refine st_pg rfl rfl rfl (mv rfl) rfl ?_
                    refine st_pg rfl rfl rfl (OpP.conv (op_eq rfl rfl) (no (by first | assumption | omega))) rfl ?_
                    refine st_pg rfl rfl rfl (pkF rfl rfl) rfl ?_
                    refine st_p (pkT rfl rfl) rfl ?_
                    refine al_nil ?_
                    refine nm ?_
                    -- IF t73
                    refine aw_no (rfl) ?_
                    refine aw_skip ?_
                    refine nmb ?_
                    refine nm ?_
                    refine aw_region ?_
                    refine st_p (mv rfl) rfl ?_
                    refine st_p (op_addi rfl rfl (by omega)) rfl ?_
                    refine st_p (mva rfl) rfl ?_
                    refine al_nil ?_
                    refine nm ?_
                    refine ⟨⟨(i + 1, m), by dsimp only; exact ⟨hlt, hst.symm, hr2, ho2, by first | omega | simp⟩⟩, by dsimp only; omega, ?_⟩
                    dsimp only
                    rw [aV_ne hm, aH_ne hm, aN_ne hm]
                    exact le_to [(1, 2)] rfl rfl rfl rfl rfl ⟨rfl, rfl, rfl, rfl, rfl, rfl, trivial⟩ ⟨by rw [ren_firstV, hsame]; rfl, by simp only [Blk.ren, ren_nts, List.map_cons, List.map_nil]; rfl, trivial⟩
              · have hsame := hsame (fun h => hz h.1)
                refine aw_seq ?_
                refine aw_seq ?_
                refine aw_region ?_
                refine st_p (mv rfl) rfl ?_
                refine st_p (mv rfl) rfl ?_
                refine st_p (op_len Try.underlying43 rfl) rfl ?_
                refine st_p (OpP.conv (op_lt rfl rfl) (yes (by first | assumption | omega))) rfl ?_
                refine al_nil ?_
                refine nm ?_
                -- IF t31
                refine aw_yes (rfl) ?_
                refine aw_skip ?_
                refine nm ?_
                refine aw_seq ?_
                refine aw_block ?_
                refine aw_seq ?_
                refine dr_go ?_
                refine dr_f 0 0 [0] rfl (fun H => mv rfl) ?_
                refine dr_f 0 0 [9] rfl (fun H => mv rfl) ?_
                refine dr_q 0 0 [34, 35] rfl (op_indexAddrL Try.underlying43 z61 rfl rfl (by omega) (by first | assumption | rfl)) ?_
                refine dr_q 0 0 [36] rfl (op_indexAddrAL Try.underlying61 z5 rfl rfl (by omega) (by omega)) ?_
                refine dr_q 0 0 [37] rfl (op_load1L Try.underlying5 rfl rfl rfl) ?_
                refine dr_f 0 0 [38] rfl (fun H => op_rem rfl rfl (by omega)) ?_
                refine dr_f 0 0 [39] rfl (fun H => op_conv (by rw [Try.underlying5]; rfl) Try.underlying3 rfl) ?_
                refine dr_f 0 0 [0] rfl (fun H => mv rfl) ?_
                refine dr_f 0 0 [9] rfl (fun H => mv rfl) ?_
                refine dr_q 0 0 [41, 42] rfl (op_indexAddrL Try.underlying43 z61 rfl rfl (by omega) (by first | assumption | rfl)) ?_
                refine dr_q 0 0 [43] rfl (op_indexAddrAL Try.underlying61 z5 rfl rfl (by omega) (by omega)) ?_
                refine dr_q 0 0 [44] rfl (op_load1L Try.underlying5 rfl rfl rfl) ?_
                refine dr_f 0 0 [45] rfl (fun H => op_rem rfl rfl (by omega)) ?_
                refine dr_f 0 0 [46] rfl (fun H => op_conv (by rw [Try.underlying5]; rfl) Try.underlying3 rfl) ?_
                refine dr_f 0 0 [0] rfl (fun H => mv rfl) ?_
                refine dr_f 0 0 [9] rfl (fun H => mv rfl) ?_
                refine dr_q 0 0 [48, 49] rfl (op_indexAddrL Try.underlying43 z61 rfl rfl (by omega) (by first | assumption | rfl)) ?_
                refine dr_q 0 0 [50] rfl (op_indexAddrAL Try.underlying61 z5 rfl rfl (by omega) (by omega)) ?_
                refine dr_q 0 0 [51] rfl (op_load1L Try.underlying5 rfl rfl rfl) ?_
                refine dr_f 0 0 [52] rfl (fun H => op_rem rfl rfl (by omega)) ?_
                refine dr_f 0 0 [53] rfl (fun H => op_conv (by rw [Try.underlying5]; rfl) Try.underlying3 rfl) ?_
                refine dr_f 0 0 [40] rfl (fun H => mva rfl) ?_
                refine dr_f 0 0 [47] rfl (fun H => mva rfl) ?_
                refine dr_f 0 0 [54] rfl (fun H => mva rfl) ?_
                refine dr_end [] (by kernel_rfl) (by kernel_rfl) (by kernel_rfl) (by kernel_rfl) trivial ?_
                refine nm ?_
                refine aw_seq ?_
                refine aw_region ?_
                refine st_p (mv rfl) rfl ?_
                refine st_p (mv rfl) rfl ?_
                refine st_p (mv rfl) rfl ?_
                refine st_p (mv rfl) rfl ?_
                -- STOP: call diwan/bits.Add(t55, t56, t57, t58) -> 59
                refine st_o (op_callg [] 0 false [] [] (hadd) Try.func35 ⟨rfl, rfl⟩ rfl rfl rfl rfl (by omega) (by intro p hp; cases hp) rfl (.cons (.whole rfl rfl rfl hnl.symm rfl hpl) (.cons (.same (by rfl)) (.cons (.same (by rfl)) (.cons (.same (by rfl)) .nil)))) rfl rfl rfl) rfl ?_
                refine st_p (mva rfl) rfl ?_
                refine al_nil ?_
                refine nm ?_
                refine aw_seq ?_
                refine aw_region ?_
                refine st_p (mv rfl) rfl ?_
                refine st_p (mv rfl) rfl ?_
                refine st_p (op_indexAddrA Try.underlying60 z59 rfl rfl (by omega) (by omega)) rfl ?_
                refine st_p (op_indexAddrA Try.underlying59 z3 rfl rfl (by omega) (by omega)) rfl ?_
                refine st_p (op_load1 Try.underlying3 rfl rfl rfl rfl (by assumption)) rfl ?_
                refine st_p (OpP.conv (op_eq rfl rfl) (no (by first | assumption | omega))) rfl ?_
                refine st_p (mv rfl) rfl ?_
                refine st_s rfl rfl rfl rfl rfl ?_
                refine st_s rfl rfl rfl rfl rfl ?_
                refine st_s rfl rfl rfl rfl rfl ?_
                refine st_s rfl rfl rfl rfl rfl ?_
                refine st_s rfl rfl rfl rfl rfl ?_
                refine st_s rfl rfl rfl rfl rfl ?_
                refine st_p (pkF rfl rfl) rfl ?_
                refine al_nil ?_
                refine nm ?_
                -- IF t73
                refine aw_no (rfl) ?_
                refine aw_skip ?_
                refine nmb ?_
                refine nm ?_
                refine aw_region ?_
                refine st_p (mv rfl) rfl ?_
                refine st_p (op_addi rfl rfl (by omega)) rfl ?_
                refine st_p (mva rfl) rfl ?_
                refine al_nil ?_
                refine nm ?_
                refine ⟨⟨(i + 1, m), by dsimp only; exact ⟨hlt, hst.symm, hr2, ho2, by first | omega | simp⟩⟩, by dsimp only; omega, ?_⟩
                dsimp only
                rw [aV_ne hm, aH_ne hm, aN_ne hm]
                exact le_to [(1, 2)] rfl rfl rfl rfl rfl ⟨rfl, rfl, rfl, rfl, rfl, rfl, trivial⟩ ⟨by rw [ren_firstV, hsame]; rfl, by simp only [Blk.ren, ren_nts, List.map_cons, List.map_nil]; rfl, trivial⟩
          · have hin : i = x0.length := by omega
            subst hin
            rw [List.take_length] at hl
            rw [← hl]
            by_cases hne : l = []
            · subst hne
              rw [show aV [] = AV.nils from rfl, show aH [] = [] from rfl, show aN [] = 1 from rfl]
              refine aw_seq ?_
              refine aw_seq ?_
              refine aw_region ?_
              refine st_p (mv rfl) rfl ?_
              refine st_p (mv rfl) rfl ?_
              refine st_p (op_len Try.underlying43 rfl) rfl ?_
              refine st_p (OpP.conv (op_lt rfl rfl) (no (by first | assumption | omega))) rfl ?_
              refine al_nil ?_
              refine nm ?_
              -- IF t31
              refine aw_no (rfl) ?_
              refine aw_exit ?_
              refine xs ?_
              refine xs ?_
              refine xb ?_
              refine nm ?_
              exact (le_virt 7 3 rfl).trans (le_to [] rfl rfl rfl rfl rfl ⟨rfl, rfl, rfl, rfl, trivial⟩ ⟨by rw [ren_firstV]; rfl, by rw [show nts [] = [] from rfl]; rfl, trivial⟩)
            · rw [aV_ne hne, aH_ne hne, aN_ne hne]
              refine aw_seq ?_
              refine aw_seq ?_
              refine aw_region ?_
              refine st_p (mv rfl) rfl ?_
              refine st_p (mv rfl) rfl ?_
              refine st_p (op_len Try.underlying43 rfl) rfl ?_
              refine st_p (OpP.conv (op_lt rfl rfl) (no (by first | assumption | omega))) rfl ?_
              refine al_nil ?_
              refine nm ?_
              -- IF t31
              refine aw_no (rfl) ?_
              refine aw_exit ?_
              refine xs ?_
              refine xs ?_
              refine xb ?_
              refine nm ?_
              exact le_to [] rfl rfl rfl rfl rfl ⟨rfl, rfl, rfl, rfl, trivial⟩ ⟨by rw [ren_firstV]; rfl, by simp only [Blk.ren, ren_nts, List.map_cons, List.map_nil]; rfl, trivial⟩
      · obtain ⟨hr, ho, hn⟩ := noteL_ok x0
        generalize noteL x0 = L at hr ho hn ⊢
        have hnl := nts_len L
        have hpl := nts_plain L
        have hfl := firstV_len L
        obtain ⟨K, hK, hK1, hK3⟩ : ∃ K : Nat, IntKind.i64.wrap (1 + IntKind.i64.wrap (x2.tmod 3)) = (K : Int) ∧ 1 ≤ K ∧ K ≤ 3 := by
          obtain ⟨k, hk, hk3⟩ := u8_rem (m := 3) g2 (by decide) (by decide)
          refine ⟨1 + k, ?_, by omega, by omega⟩
          rw [show IntKind.i64.wrap (x2.tmod 3) = (k : Int) from hk, wrap_i64 (by omega) (by omega)]
          omega
        have hm0 := pk_Made x1
        have ht0 := pk_Txn x1 0 3 (by omega) (by omega) (by omega)
        obtain ⟨hr0, hw0⟩ := pkTx_len x1 0 3
        obtain ⟨hk1, hk2⟩ := pkTx_keyl x1 0 3
        generalize (pkTx x1 0 3).2 = n0 at ht0
        generalize (pkTx x1 0 3).1 = t at ht0 hr0 hw0 hk1 hk2
        have hkr : ∀ r ∈ t.reads, r.key.length ≤ 281474976710656 := fun r hr => by have := hk1 r hr; omega
        have hOf := fun p s : Int => bits_Of L p s (by omega) hr
        have hRow := fun p : Int => bits_Row L p K (by omega) hr (by omega)
        have hVer := fun row : List Int => bits_Verdict t (K : Int) row (by omega) (by omega) hkr (by omega) (by omega)
        have hMis := fun row : List Int => bits_Missing t (K : Int) row (by omega) (by omega) hkr (by omega) (by omega)
        have hMiN := fun row : List Int => bits_Missing_no t (K : Int) row (by omega) (by omega) hkr (by omega) (by omega)
        generalize readsL (t.reads.map RD.key) (K : Int) = RL at hVer hMis hMiN
        obtain ⟨ses, seq, rl, wl⟩ := t
        dsimp only [txA] at ht0 hVer hMis hMiN
        refine aw_seq ?_
        refine aw_frz 1 (xs := nts L) rfl (by first | rfl | assumption | simp [AV.plain, plains, bl_plain, sb]) rfl ?_
        dsimp only [frzS, hdel, List.map_cons, List.map_nil, AV.frz, frzs, Blk.frz, ↓reduceIte, Nat.reduceEqDiff, reduceCtorEq]
        refine aw_le (st' := ⟨[(1, .sl 1 (bl x1)), (2, .int .u8 x2), (7, .sl 3 (nts L)), (8, .ptr 0 0 0)], [(0, .cells 27 [.agg (firstV L)])], 2⟩) (le_to [] rfl rfl rfl rfl rfl ⟨rfl, rfl, ?_, rfl, trivial⟩ ⟨?_, trivial⟩) ?_
        · simp [tget, AV.ren, AV.frz]
          rw [if_pos (Nat.le_of_eq hnl.symm), List.take_of_length_le (Nat.le_of_eq hnl)]
        · rw [ren_firstV]; simp [hget, swp, AV.frz, frz_firstV]
        refine aw_region ?_
        refine st_p (mv rfl) rfl ?_
        -- STOP: call diwan/diwanplay.Made(t79) -> 80
        refine st_o (op_callg [] 0 true [] [] (hm0) Try.func8 ⟨rfl, rfl⟩ rfl rfl rfl rfl (by omega) (by intro p hp; cases hp) rfl (.cons (.same (by rfl)) .nil) rfl rfl rfl) rfl ?_
        -- STOP: call (*diwan/diwanplay.Picks).Txn(t80, ('app', 'Operand.const', [('app', 'Value.int', ['IntKind.i64', 3])])) -> 81
        refine st_o (op_callg [(0, 2)] 1 true [(0, pkB x1 0)] [2] (ht0) Try.func9 ⟨rfl, rfl⟩ rfl rfl rfl rfl (by omega) (by intro p hp; simp only [List.mem_cons, List.not_mem_nil, or_false] at hp; rcases hp with rfl <;> exact ⟨by first | rfl | ((simp [hget, swp, Blk.ren, AV.ren, ints, Function.comp_def, ren_nts, ren_firstV]) <;> rfl), rfl⟩) rfl (.cons (.same (by rfl)) (.cons (.same (by rfl)) .nil)) rfl rfl rfl) rfl ?_
        refine st_o (op_alloc a26 rfl rfl) rfl ?_
        refine st_n (stA z26 rfl rfl rfl rfl rfl rfl rfl rfl rfl rfl) ?_
        refine al_nil ?_
        refine nm ?_
        refine aw_seq ?_
        refine aw_region ?_
        refine st_p (mv rfl) rfl ?_
        refine st_p (op_rem rfl rfl (by omega)) rfl ?_
        refine st_p (op_conv (by rw [Try.underlying5]; rfl) Try.underlying3 rfl) rfl ?_
        refine st_p (op_add rfl rfl) rfl ?_
        refine st_p (mva rfl) rfl ?_
        refine al_nil ?_
        refine nm ?_
        refine aw_seq ?_
        refine aw_seq ?_
        refine aw_region ?_
        refine st_p (mva rfl) rfl ?_
        refine al_nil ?_
        refine nm ?_
        refine aw_block ?_
        -- LOOP
        refine aw_loop (fun p : {p : Nat // p ≤ 9} => ⟨[(7, .sl 3 (nts L)), (8, .ptr 0 0 0), (13, .ptr 1 0 0), (14, .int .i64 K), (15, .int .i64 p.1)], [(0, .cells 27 [.agg (firstV L)]), (1, .cells 4 [.agg [.int .i64 ses, .int .i64 seq, .sl 4 (rl.map rdA), .sl 3 (wl.map wrA)]])], 2⟩) (fun p => 9 - p.1) ⟨0, Nat.zero_le _⟩ ?_ ?_
        · exact le_to [(1, 4)] rfl rfl rfl rfl rfl ⟨rfl, rfl, rfl, congrArg (AV.int .i64) hK, rfl, trivial⟩ ⟨by rw [ren_firstV]; rfl, rfl, trivial⟩
        · rintro ⟨p, hp⟩
          dsimp only
          by_cases hp9 : p < 9
          · skip
            refine aw_seq ?_
            refine aw_seq ?_
            refine aw_region ?_
            refine st_p (mv rfl) rfl ?_
            refine st_p (OpP.conv (op_lt rfl rfl) (yes (by first | assumption | omega))) rfl ?_
            refine al_nil ?_
            refine nm ?_
            -- IF t87
            refine aw_yes (rfl) ?_
            refine aw_skip ?_
            refine nm ?_
            refine aw_seq ?_
            refine aw_block ?_
            refine aw_seq ?_
            refine aw_seq ?_
            refine aw_region ?_
            refine st_p (mva rfl) rfl ?_
            refine al_nil ?_
            refine nm ?_
            refine aw_block ?_
            -- LOOP
            refine aw_loop (fun s : {s : Nat // s ≤ 3} => ⟨[(7, .sl 3 (nts L)), (8, .ptr 0 0 0), (13, .ptr 1 0 0), (14, .int .i64 K), (15, .int .i64 p), (16, .int .i64 s.1)], [(0, .cells 27 [.agg (firstV L)]), (1, .cells 4 [.agg [.int .i64 ses, .int .i64 seq, .sl 4 (rl.map rdA), .sl 3 (wl.map wrA)]])], 2⟩) (fun s => 3 - s.1) ⟨0, Nat.zero_le _⟩ ?_ ?_
            · exact le_to [] rfl rfl rfl rfl rfl ⟨rfl, rfl, rfl, rfl, rfl, rfl, trivial⟩ ⟨by rw [ren_firstV]; rfl, rfl, trivial⟩
            · rintro ⟨s, hs⟩
              dsimp only
              by_cases hs3 : s < 3
              · have hfx : (firstV L)[0 + ((p : Nat) : Int).toNat * 3 + ((s : Nat) : Int).toNat * 1]? = some (.int .i64 (ofN L (p : Int) (s : Int))) := by
                  rw [Int.toNat_natCast, Int.toNat_natCast, Nat.mul_one, Nat.zero_add]; exact firstV_get L hp9 hs3
                have hof := hOf (p : Nat) (s : Nat)
                refine aw_seq ?_
                refine aw_seq ?_
                refine aw_region ?_
                refine st_p (mv rfl) rfl ?_
                refine st_p (OpP.conv (op_lt rfl rfl) (yes (by first | assumption | omega))) rfl ?_
                refine al_nil ?_
                refine nm ?_
                -- IF t91
                refine aw_yes (rfl) ?_
                refine aw_skip ?_
                refine nm ?_
                refine aw_seq ?_
                refine aw_block ?_
                refine aw_seq ?_
                refine dr_go ?_
                refine dr_f 0 0 [7] rfl (fun H => mv rfl) ?_
                refine dr_f 0 0 [15] rfl (fun H => mv rfl) ?_
                refine dr_f 0 0 [16] rfl (fun H => mv rfl) ?_
                -- STOP: call diwan/bits.Of(t94, t95, t96) -> 97
                refine dr_fq 0 0 [94, 95, 96] rfl (fun H => op_callq (hof) Try.func29 ⟨rfl, rfl⟩ rfl rfl (fun nx => (.cons (.same (by rfl)) (.cons (.same (by rfl)) (.cons (.same (by rfl)) .nil)))) (by rintro _ _ _ ⟨rfl, rfl, rfl⟩; exact .same rfl)) ?_
                refine dr_f 0 0 [15] rfl (fun H => mv rfl) ?_
                refine dr_f 0 0 [16] rfl (fun H => mv rfl) ?_
                refine dr_q 0 0 [8, 98] rfl (op_indexAddrA Try.underlying60 z59 rfl rfl (by omega) (by omega)) ?_
                refine dr_q 0 0 [100, 99] rfl (op_indexAddrA Try.underlying59 z3 rfl rfl (by omega) (by omega)) ?_
                refine dr_q 0 0 [101] rfl (op_load1 Try.underlying3 rfl rfl rfl rfl (by assumption)) ?_
                refine dr_f 0 0 [97, 102] rfl (fun H => OpP.conv (op_ne rfl rfl) (no (by first | assumption | omega))) ?_
                refine dr_end [] (by kernel_rfl) (by kernel_rfl) (by kernel_rfl) (by kernel_rfl) trivial ?_
                refine nm ?_
                -- IF t103
                refine aw_no (rfl) ?_
                refine aw_skip ?_
                refine nmb ?_
                refine nm ?_
                refine aw_region ?_
                refine st_p (mv rfl) rfl ?_
                refine st_p (op_addi rfl rfl (by omega)) rfl ?_
                refine st_p (mva rfl) rfl ?_
                refine al_nil ?_
                refine nm ?_
                exact ⟨⟨s + 1, hs3⟩, by dsimp only; omega, le_to [] rfl rfl rfl rfl rfl ⟨rfl, rfl, rfl, rfl, rfl, rfl, trivial⟩ ⟨by rw [ren_firstV]; rfl, rfl, trivial⟩⟩
              · have hrow := hRow (p : Nat)
                have hrl : K = (ints (rowN L (p : Nat) K)).length := by rw [ints_len, rowN_len]
                generalize rowN L (p : Nat) K = row at hrow hrl
                have hV := hVer row
                have hM0 := hMis row
                have hM1 := hMiN row
                have hvm := verd_miss row RL
                have hml := ints_len (missI row RL)
                have hmp : (ints (missI row RL)).all AV.plain = true := by simp [AV.plain, ints]
                generalize missI row RL = M at hM0 hvm hml hmp
                generalize verdI row RL = V at hV hM0 hM1 hvm
                have hrp : (ints row).all AV.plain = true := by simp [AV.plain, ints]
                by_cases hz : V = 0
                · subst hz
                  have hM0 := hM0 rfl
                  have hpos : 0 < M.length := by
                    rw [decide_eq_true (rfl : (0 : Int) = 0)] at hvm
                    exact of_decide_eq_true hvm.symm
                  refine aw_seq ?_
                  refine aw_seq ?_
                  refine aw_region ?_
                  refine st_p (mv rfl) rfl ?_
                  refine st_p (OpP.conv (op_lt rfl rfl) (no (by first | assumption | omega))) rfl ?_
                  refine al_nil ?_
                  refine nm ?_
                  -- IF t91
                  refine aw_no (rfl) ?_
                  refine aw_exit ?_
                  refine xs ?_
                  refine xs ?_
                  refine xb ?_
                  refine nm ?_
                  refine aw_seq ?_
                  refine aw_region ?_
                  refine st_p (mv rfl) rfl ?_
                  refine st_p (mv rfl) rfl ?_
                  refine st_p (mv rfl) rfl ?_
                  -- STOP: call diwan/bits.Row(t104, t105, t106) -> 107
                  refine st_o ((op_callq (hrow) Try.func28 ⟨rfl, rfl⟩ rfl rfl (fun nx => (.cons (.same (by rfl)) (.cons (.same (by rfl)) (.cons (.same (by rfl)) .nil)))) (by rintro _ _ _ ⟨rfl, rfl, rfl⟩; exact (.whole rfl hrl hrp))).ok) rfl ?_
                  refine st_p (mva rfl) rfl ?_
                  refine al_nil ?_
                  refine nm ?_
                  refine aw_seq ?_
                  refine dr_go ?_
                  refine dr_q 0 0 [13] rfl (op_loadA Try.underlying26 rfl z26 rfl rfl rfl rfl) ?_
                  refine dr_f 0 0 [14] rfl (fun H => mv rfl) ?_
                  refine dr_f 0 0 [17] rfl (fun H => mv rfl) ?_
                  -- STOP: call diwan/bits.Verdict(t108, t109, t110) -> 111
                  refine dr_fq 0 0 [108, 109, 110] rfl (fun H => op_callq (hV) Try.func31 ⟨rfl, rfl⟩ rfl rfl (fun nx => (.cons (.same (by rfl)) (.cons (.same (by rfl)) (.cons (.same (by rfl)) .nil)))) (by rintro _ _ _ ⟨rfl, rfl, rfl⟩; exact .same rfl)) ?_
                  refine dr_f 0 0 [111] rfl (fun H => OpP.conv (op_eq rfl rfl) (yes (by first | assumption | omega))) ?_
                  refine dr_q 0 0 [13] rfl (op_loadA Try.underlying26 rfl z26 rfl rfl rfl rfl) ?_
                  refine dr_f 0 0 [14] rfl (fun H => mv rfl) ?_
                  refine dr_f 0 0 [17] rfl (fun H => mv rfl) ?_
                  -- STOP: call diwan/bits.Missing(t113, t114, t115) -> 116
                  refine dr_fq 0 0 [113, 114, 115] rfl (fun H => op_callq (hM0) Try.func33 ⟨rfl, rfl⟩ rfl rfl (fun nx => (.cons (.same (by rfl)) (.cons (.same (by rfl)) (.cons (.same (by rfl)) .nil)))) (by rintro _ _ _ ⟨rfl, rfl, rfl⟩; exact (.whole rfl hml.symm hmp))) ?_
                  refine dr_f 0 0 [116] rfl (fun H => op_len Try.underlying35 rfl) ?_
                  refine dr_f 0 0 [117] rfl (fun H => OpP.conv (op_gt rfl rfl) (yes (by first | assumption | omega))) ?_
                  refine dr_f 0 0 [112, 118] rfl (fun H => op_neb Try.underlying4 rfl rfl) ?_
                  refine dr_end [] (by kernel_rfl) (by kernel_rfl) (by kernel_rfl) (by kernel_rfl) trivial ?_
                  refine nm ?_
                  -- IF t119
                  refine aw_no (rfl) ?_
                  refine aw_skip ?_
                  refine nmb ?_
                  refine nm ?_
                  refine aw_region ?_
                  refine st_p (mv rfl) rfl ?_
                  refine st_p (op_addi rfl rfl (by omega)) rfl ?_
                  refine st_p (mva rfl) rfl ?_
                  refine al_nil ?_
                  refine nm ?_
                  exact ⟨⟨p + 1, hp9⟩, by dsimp only; omega, le_to [] rfl rfl rfl rfl rfl ⟨rfl, rfl, rfl, rfl, rfl, trivial⟩ ⟨by rw [ren_firstV]; rfl, rfl, trivial⟩⟩
                · have hM1 := hM1 hz
                  refine aw_seq ?_
                  refine aw_seq ?_
                  refine aw_region ?_
                  refine st_p (mv rfl) rfl ?_
                  refine st_p (OpP.conv (op_lt rfl rfl) (no (by first | assumption | omega))) rfl ?_
                  refine al_nil ?_
                  refine nm ?_
                  -- IF t91
                  refine aw_no (rfl) ?_
                  refine aw_exit ?_
                  refine xs ?_
                  refine xs ?_
                  refine xb ?_
                  refine nm ?_
                  refine aw_seq ?_
                  refine aw_region ?_
                  refine st_p (mv rfl) rfl ?_
                  refine st_p (mv rfl) rfl ?_
                  refine st_p (mv rfl) rfl ?_
                  -- STOP: call diwan/bits.Row(t104, t105, t106) -> 107
                  refine st_o ((op_callq (hrow) Try.func28 ⟨rfl, rfl⟩ rfl rfl (fun nx => (.cons (.same (by rfl)) (.cons (.same (by rfl)) (.cons (.same (by rfl)) .nil)))) (by rintro _ _ _ ⟨rfl, rfl, rfl⟩; exact (.whole rfl hrl hrp))).ok) rfl ?_
                  refine st_p (mva rfl) rfl ?_
                  refine al_nil ?_
                  refine nm ?_
                  refine aw_seq ?_
                  refine dr_go ?_
                  refine dr_q 0 0 [13] rfl (op_loadA Try.underlying26 rfl z26 rfl rfl rfl rfl) ?_
                  refine dr_f 0 0 [14] rfl (fun H => mv rfl) ?_
                  refine dr_f 0 0 [17] rfl (fun H => mv rfl) ?_
                  -- STOP: call diwan/bits.Verdict(t108, t109, t110) -> 111
                  refine dr_fq 0 0 [108, 109, 110] rfl (fun H => op_callq (hV) Try.func31 ⟨rfl, rfl⟩ rfl rfl (fun nx => (.cons (.same (by rfl)) (.cons (.same (by rfl)) (.cons (.same (by rfl)) .nil)))) (by rintro _ _ _ ⟨rfl, rfl, rfl⟩; exact .same rfl)) ?_
                  refine dr_f 0 0 [111] rfl (fun H => OpP.conv (op_eq rfl rfl) (no (by first | assumption | omega))) ?_
                  refine dr_q 0 0 [13] rfl (op_loadA Try.underlying26 rfl z26 rfl rfl rfl rfl) ?_
                  refine dr_f 0 0 [14] rfl (fun H => mv rfl) ?_
                  refine dr_f 0 0 [17] rfl (fun H => mv rfl) ?_
                  -- STOP: call diwan/bits.Missing(t113, t114, t115) -> 116
                  refine dr_fq 0 0 [113, 114, 115] rfl (fun H => op_callq (hM1) Try.func33 ⟨rfl, rfl⟩ rfl rfl (fun nx => (.cons (.same (by rfl)) (.cons (.same (by rfl)) (.cons (.same (by rfl)) .nil)))) (by rintro _ _ _ ⟨rfl, rfl, rfl⟩; exact .same rfl)) ?_
                  refine dr_f 0 0 [116] rfl (fun H => op_lenn Try.underlying35 rfl) ?_
                  refine dr_f 0 0 [117] rfl (fun H => OpP.conv (op_gt rfl rfl) (no (by first | assumption | omega))) ?_
                  refine dr_f 0 0 [112, 118] rfl (fun H => op_neb Try.underlying4 rfl rfl) ?_
                  refine dr_end [] (by kernel_rfl) (by kernel_rfl) (by kernel_rfl) (by kernel_rfl) trivial ?_
                  refine nm ?_
                  -- IF t119
                  refine aw_no (rfl) ?_
                  refine aw_skip ?_
                  refine nmb ?_
                  refine nm ?_
                  refine aw_region ?_
                  refine st_p (mv rfl) rfl ?_
                  refine st_p (op_addi rfl rfl (by omega)) rfl ?_
                  refine st_p (mva rfl) rfl ?_
                  refine al_nil ?_
                  refine nm ?_
                  exact ⟨⟨p + 1, hp9⟩, by dsimp only; omega, le_to [] rfl rfl rfl rfl rfl ⟨rfl, rfl, rfl, rfl, rfl, trivial⟩ ⟨by rw [ren_firstV]; rfl, rfl, trivial⟩⟩
          · skip
            refine aw_seq ?_
            refine aw_seq ?_
            refine aw_region ?_
            refine st_p (mv rfl) rfl ?_
            refine st_p (OpP.conv (op_lt rfl rfl) (no (by first | assumption | omega))) rfl ?_
            refine al_nil ?_
            refine nm ?_
            -- IF t87
            refine aw_no (rfl) ?_
            refine aw_exit ?_
            refine xs ?_
            refine xs ?_
            refine xb ?_
            refine nm ?_
            refine aw_seq ?_
            refine aw_region ?_
            refine st_p (mva rfl) rfl ?_
            refine al_nil ?_
            refine nm ?_
            refine aw_ret ?_
            exact ret_a ⟨[(6, .bool true)], [], 0⟩ (le_to [] rfl rfl rfl rfl rfl ⟨rfl, trivial⟩ trivial) (res1 Try.results5) (.inr ⟨rfl, rfl⟩) rfl
    · skip
      refine ac_fn Try.func5 rfl rfl rfl rfl (fun w0 S0 r0 => ?_)
      refine aw_seq ?_
      refine aw_region ?_
      refine st_p (mva rfl) rfl ?_
      refine al_nil ?_
      refine nm ?_
      refine aw_seq ?_
      refine aw_seq ?_
      refine aw_region ?_
      -- STOP: call diwan/diwanlaw21.begun() -> 18
      refine st_o ((op_callq (hb) Try.func24 ⟨rfl, rfl⟩ rfl rfl (fun nx => .nil) (by rintro _ _ _ ⟨rfl, rfl, rfl⟩; exact .same rfl)).ok) rfl ?_
      refine st_p (op_notT rfl) rfl ?_
      refine al_nil ?_
      refine nm ?_
      -- IF t19
      refine aw_no (rfl) ?_
      refine aw_skip ?_
      refine nm ?_
      refine aw_seq ?_
      refine aw_seq ?_
      refine aw_region ?_
      refine st_p (mv rfl) rfl ?_
      refine st_p (op_len Try.underlying43 rfl) rfl ?_
      refine st_p (OpP.conv (op_gt rfl rfl) (no (by first | assumption | omega))) rfl ?_
      refine st_p (mv rfl) rfl ?_
      refine st_pg rfl rfl rfl (mv rfl) rfl ?_
      refine st_pg rfl rfl rfl (op_len Try.underlying22 rfl) rfl ?_
      refine st_pg rfl rfl rfl (OpP.conv (op_gt rfl rfl) (yes (by first | assumption | omega))) rfl ?_
      refine st_p (pkF rfl rfl) rfl ?_
      refine al_nil ?_
      refine nm ?_
      -- IF t27
      refine aw_yes (rfl) ?_
      refine aw_seq ?_
      refine aw_region ?_
      refine st_p (mva rfl) rfl ?_
      refine al_nil ?_
      refine nm ?_
      refine aw_ret ?_
      refine rs ?_
      exact ret_v (res1 Try.results5) (.inr ⟨rfl, rfl⟩) rfl
  · skip
    refine ac_fn Try.func5 rfl rfl rfl rfl (fun w0 S0 r0 => ?_)
    refine aw_seq ?_
    refine aw_region ?_
    refine st_p (mva rfl) rfl ?_
    refine al_nil ?_
    refine nm ?_
    refine aw_seq ?_
    refine aw_seq ?_
    refine aw_region ?_
    -- STOP: call diwan/diwanlaw21.begun() -> 18
    refine st_o ((op_callq (hb) Try.func24 ⟨rfl, rfl⟩ rfl rfl (fun nx => .nil) (by rintro _ _ _ ⟨rfl, rfl, rfl⟩; exact .same rfl)).ok) rfl ?_
    refine st_p (op_notT rfl) rfl ?_
    refine al_nil ?_
    refine nm ?_
    -- IF t19
    refine aw_no (rfl) ?_
    refine aw_skip ?_
    refine nm ?_
    refine aw_seq ?_
    refine aw_seq ?_
    refine aw_region ?_
    refine st_p (mv rfl) rfl ?_
    refine st_p (op_len Try.underlying43 rfl) rfl ?_
    refine st_p (OpP.conv (op_gt rfl rfl) (yes (by first | assumption | omega))) rfl ?_
    refine st_p (mv rfl) rfl ?_
    refine st_s rfl rfl rfl rfl rfl ?_
    refine st_s rfl rfl rfl rfl rfl ?_
    refine st_s rfl rfl rfl rfl rfl ?_
    refine st_p (pkT rfl rfl) rfl ?_
    refine al_nil ?_
    refine nm ?_
    -- IF t27
    refine aw_yes (rfl) ?_
    refine aw_seq ?_
    refine aw_region ?_
    refine st_p (mva rfl) rfl ?_
    refine al_nil ?_
    refine nm ?_
    refine aw_ret ?_
    refine rs ?_
    exact ret_v (res1 Try.results5) (.inr ⟨rfl, rfl⟩) rfl

end Go.Proofs.Ytpggknkhldecaaa.Abs
end
