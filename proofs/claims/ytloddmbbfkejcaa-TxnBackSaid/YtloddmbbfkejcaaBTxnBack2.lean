/- Texts of this session, merged: ATxnD, ATxnE, AbsR, AbsS, AConcat, ATxnF, AbsX, AbsU. -/
import Derived.Test.YtloddmbbfkejcaaBTxnBack1
import Derived.RowKit
import Derived.OpenShut
import Derived.Below
import Derived.Deep.Slices
import Derived.ChangeArms
import Derived.ProofKit
import Derived.SizedLaws
set_option linter.unusedVariables false
set_option linter.unusedSimpArgs false
section
/-
  Transactions: which may be.
-/
namespace Go.Proofs.Ytloddmbbfkejcaa.Abs

theorem Lend.whole {h : Heap} {τ : Nat → Nat} {ps : List Nat} {al : Bool} {b len sz : Nat} {xs ys : List AV} (hal : al = false) (hn : ps.contains b = false) (hb : hget h b = some (.cells sz xs)) (hl : len = xs.length) (hy : xs = ys) (hpl : xs.all AV.plain = true) : Lend al h τ ps (.own b 0 len) (.sl sz ys) := by
  have := Lend.own (τ := τ) (st := 0) (len := len) hal hn hb (by omega) hpl
  rw [List.drop_zero, hl, List.take_length, hy] at this
  rwa [hl, hy]

def mayTxB (t : TX) : Bool := decide (1 ≤ t.ses) && (decide (t.ses ≤ 9) && (decide (1 ≤ t.seq) && (decide (t.seq ≤ 1000) && (decide (t.reads.length ≤ 6) && (risingB (t.reads.map RD.key) && (decide (t.writes.length ≤ 4) && (risingB (t.writes.map WR.key) && (t.reads.all readB && t.writes.all writeB))))))))

set_option maxHeartbeats 4000000 in
theorem txn_May (t : TX) (hr : t.reads.length ≤ 1000000) (hw : t.writes.length ≤ 1000000) (hkr : ∀ r ∈ t.reads, r.key.length ≤ 281474976710656) (hkw : ∀ w ∈ t.writes, w.key.length ≤ 281474976710656) :
    AC Try.prog 23 [txA t] [] 0 false (fun v h nx => v = .bool (mayTxB t) ∧ h = [] ∧ nx = 0) := by
  have hkeys := txn_keys t hr hw
  obtain ⟨ses, seq, rs, ws⟩ := t
  dsimp only at hr hw hkr hkw
  dsimp only [txA] at hkeys ⊢
  have h5 := key_Rising (rs.map RD.key) (by rw [List.length_map]; omega) (fun k hk => by obtain ⟨r, hr, rfl⟩ := List.mem_map.1 hk; exact hkr r hr)
  have h7 := key_Rising (ws.map WR.key) (by rw [List.length_map]; omega) (fun k hk => by obtain ⟨w, hw, rfl⟩ := List.mem_map.1 hk; exact hkw w hw)
  have h8 := contains_reads rs hr
  have h9 := contains_writes ws hw
  by_cases c0 : 1 ≤ ses
  · by_cases c1 : ses ≤ 9
    · by_cases c2 : 1 ≤ seq
      · by_cases c3 : seq ≤ 1000
        · by_cases c4 : rs.length ≤ 6
          · cases c5 : risingB (rs.map RD.key) with
            | true =>
              rw [c5] at h5
              by_cases c6 : ws.length ≤ 4
              · cases c7 : risingB (ws.map WR.key) with
                | true =>
                  rw [c7] at h7
                  cases c8 : rs.all readB with
                  | true =>
                    rw [c8] at h8
                    cases c9 : ws.all writeB with
                    | true =>
                      rw [c9] at h9
                      refine ac_fn Try.func23 rfl rfl rfl rfl (fun w0 S0 r0 => ?_)
                      refine aw_seq ?_
                      refine aw_region ?_
                      refine st_o (bx rfl rfl) rfl ?_
                      refine st_p (mva rfl) rfl ?_
                      refine al_nil ?_
                      refine nm ?_
                      refine aw_seq ?_
                      refine aw_region ?_
                      refine st_p (op_loadA Try.underlying26 rfl z26 rfl rfl rfl rfl) rfl ?_
                      -- STOP: call diwan/txn.keys(t6) -> 7
                      refine st_call0 (hkeys) Try.func76 ⟨rfl, rfl⟩ rfl (.cons (.same (by rfl)) .nil) rfl ?_
                      rintro _ _ _ ⟨rfl, rfl, rfl⟩ r2 h2 n2 hr hh hn
                      simp only [AV.ren, rens, Blk.ren, swp, List.map_cons, List.map_nil, List.cons_append, List.nil_append, List.append_nil, Nat.not_lt_zero, if_false, Nat.reduceAdd, Nat.zero_add, Nat.add_zero, ren_bl] at hr hh hn
                      subst hr hh hn
                      refine st_p (mv rfl) rfl ?_
                      refine st_p (op_extract rfl rfl) rfl ?_
                      refine st_p (op_extract rfl rfl) rfl ?_
                      refine st_p (mva rfl) rfl ?_
                      refine st_p (mva rfl) rfl ?_
                      refine al_nil ?_
                      refine nm ?_
                      refine aw_seq ?_
                      refine aw_region ?_
                      refine st_p (op_fieldAddr Try.underlying26 rfl z3 (by decide) rfl) rfl ?_
                      refine st_p (op_load1 Try.underlying3 rfl rfl rfl rfl rfl) rfl ?_
                      refine st_p (OpP.conv (op_ge rfl rfl) (yes (by first | assumption | omega))) rfl ?_
                      refine st_p (mv rfl) rfl ?_
                      refine st_pg rfl rfl rfl (op_fieldAddr Try.underlying26 rfl z3 (by decide) rfl) rfl ?_
                      refine st_pg rfl rfl rfl (op_load1 Try.underlying3 rfl rfl rfl rfl rfl) rfl ?_
                      refine st_pg rfl rfl rfl (OpP.conv (op_le rfl rfl) (yes (by first | assumption | omega))) rfl ?_
                      refine st_p (pkT rfl rfl) rfl ?_
                      refine st_p (mv rfl) rfl ?_
                      refine st_pg rfl rfl rfl (op_fieldAddr Try.underlying26 rfl z3 (by decide) rfl) rfl ?_
                      refine st_pg rfl rfl rfl (op_load1 Try.underlying3 rfl rfl rfl rfl rfl) rfl ?_
                      refine st_pg rfl rfl rfl (OpP.conv (op_ge rfl rfl) (yes (by first | assumption | omega))) rfl ?_
                      refine st_p (pkT rfl rfl) rfl ?_
                      refine st_p (mv rfl) rfl ?_
                      refine st_pg rfl rfl rfl (op_fieldAddr Try.underlying26 rfl z3 (by decide) rfl) rfl ?_
                      refine st_pg rfl rfl rfl (op_load1 Try.underlying3 rfl rfl rfl rfl rfl) rfl ?_
                      refine st_pg rfl rfl rfl (OpP.conv (op_le rfl rfl) (yes (by first | assumption | omega))) rfl ?_
                      refine st_p (pkT rfl rfl) rfl ?_
                      refine st_p (mv rfl) rfl ?_
                      refine st_pg rfl rfl rfl (mv rfl) rfl ?_
                      refine st_pg rfl rfl rfl (op_leno Try.underlying74 rfl) rfl ?_
                      refine st_pg rfl rfl rfl (OpP.conv (op_le rfl rfl) (yes (by first | assumption | omega))) rfl ?_
                      refine st_p (pkT rfl rfl) rfl ?_
                      refine st_p (mv rfl) rfl ?_
                      refine st_pg rfl rfl rfl (mv rfl) rfl ?_
                      -- STOP: call diwan/key.Rising(t34) -> 35
                      refine st_og rfl rfl rfl ((op_callq (h5) Try.func77 ⟨rfl, rfl⟩ rfl rfl (fun nx => (.cons (.whole rfl rfl rfl (by first | rfl | simp) (by first | rfl | simp [Function.comp_def, AV.ren, sb]) (by first | rfl | simp [AV.plain, plains, bl_plain, sb, AV.ren])) .nil)) (by rintro _ _ _ ⟨rfl, rfl, rfl⟩; exact .same rfl)).ok) rfl ?_
                      refine st_p (pkT rfl rfl) rfl ?_
                      refine st_p (mv rfl) rfl ?_
                      refine st_pg rfl rfl rfl (mv rfl) rfl ?_
                      refine st_pg rfl rfl rfl (op_leno Try.underlying74 rfl) rfl ?_
                      refine st_pg rfl rfl rfl (OpP.conv (op_le rfl rfl) (yes (by first | assumption | omega))) rfl ?_
                      refine st_p (pkT rfl rfl) rfl ?_
                      refine st_p (mv rfl) rfl ?_
                      refine st_pg rfl rfl rfl (mv rfl) rfl ?_
                      -- STOP: call diwan/key.Rising(t43) -> 44
                      refine st_og rfl rfl rfl ((op_callq (h7) Try.func77 ⟨rfl, rfl⟩ rfl rfl (fun nx => (.cons (.whole rfl rfl rfl (by first | rfl | simp) (by first | rfl | simp [Function.comp_def, AV.ren, sb]) (by first | rfl | simp [AV.plain, plains, bl_plain, sb, AV.ren])) .nil)) (by rintro _ _ _ ⟨rfl, rfl, rfl⟩; exact .same rfl)).ok) rfl ?_
                      refine st_p (pkT rfl rfl) rfl ?_
                      refine st_p (mv rfl) rfl ?_
                      refine st_pg rfl rfl rfl (op_fieldAddr Try.underlying26 rfl z23 (by decide) rfl) rfl ?_
                      refine st_pg rfl rfl rfl (op_load1 Try.underlying23 rfl rfl rfl rfl rfl) rfl ?_
                      -- STOP: call slices.ContainsFunc[[]diwan/api.Read,diwan/api.Read](t48, ('app', 'Operand.func', [79])) -> 49
                      refine st_og rfl rfl rfl ((op_callq (h8) Try.func78 ⟨rfl, rfl⟩ rfl rfl (fun nx => (.cons (.same (by rfl)) (.cons (.same (by rfl)) .nil))) (by rintro _ _ _ ⟨rfl, rfl, rfl⟩; exact .same rfl)).ok) rfl ?_
                      refine st_pg rfl rfl rfl (op_notF rfl) rfl ?_
                      refine st_p (pkT rfl rfl) rfl ?_
                      refine st_p (mv rfl) rfl ?_
                      refine st_pg rfl rfl rfl (op_fieldAddr Try.underlying26 rfl z24 (by decide) rfl) rfl ?_
                      refine st_pg rfl rfl rfl (op_load1 Try.underlying24 rfl rfl rfl rfl rfl) rfl ?_
                      -- STOP: call slices.ContainsFunc[[]diwan/api.Write,diwan/api.Write](t54, ('app', 'Operand.func', [82])) -> 55
                      refine st_og rfl rfl rfl ((op_callq (h9) Try.func81 ⟨rfl, rfl⟩ rfl rfl (fun nx => (.cons (.same (by rfl)) (.cons (.same (by rfl)) .nil))) (by rintro _ _ _ ⟨rfl, rfl, rfl⟩; exact .same rfl)).ok) rfl ?_
                      refine st_pg rfl rfl rfl (op_notF rfl) rfl ?_
                      refine st_p (pkT rfl rfl) rfl ?_
                      refine st_p (mva rfl) rfl ?_
                      refine al_nil ?_
                      refine nm ?_
                      refine aw_ret ?_
                      exact ret_a ⟨[(2, .bool true)], [], 0⟩ (le_to [] rfl rfl rfl rfl rfl ⟨rfl, trivial⟩ trivial) (res1 Try.results23) (.inr ⟨rfl, rfl⟩) ⟨by simp [mayTxB, tget, c0, c1, c2, c3, c4, c5, c6, c7, c8, c9], rfl, rfl⟩
                    | false =>
                      rw [c9] at h9
                      refine ac_fn Try.func23 rfl rfl rfl rfl (fun w0 S0 r0 => ?_)
                      refine aw_seq ?_
                      refine aw_region ?_
                      refine st_o (bx rfl rfl) rfl ?_
                      refine st_p (mva rfl) rfl ?_
                      refine al_nil ?_
                      refine nm ?_
                      refine aw_seq ?_
                      refine aw_region ?_
                      refine st_p (op_loadA Try.underlying26 rfl z26 rfl rfl rfl rfl) rfl ?_
                      -- STOP: call diwan/txn.keys(t6) -> 7
                      refine st_call0 (hkeys) Try.func76 ⟨rfl, rfl⟩ rfl (.cons (.same (by rfl)) .nil) rfl ?_
                      rintro _ _ _ ⟨rfl, rfl, rfl⟩ r2 h2 n2 hr hh hn
                      simp only [AV.ren, rens, Blk.ren, swp, List.map_cons, List.map_nil, List.cons_append, List.nil_append, List.append_nil, Nat.not_lt_zero, if_false, Nat.reduceAdd, Nat.zero_add, Nat.add_zero, ren_bl] at hr hh hn
                      subst hr hh hn
                      refine st_p (mv rfl) rfl ?_
                      refine st_p (op_extract rfl rfl) rfl ?_
                      refine st_p (op_extract rfl rfl) rfl ?_
                      refine st_p (mva rfl) rfl ?_
                      refine st_p (mva rfl) rfl ?_
                      refine al_nil ?_
                      refine nm ?_
                      refine aw_seq ?_
                      refine aw_region ?_
                      refine st_p (op_fieldAddr Try.underlying26 rfl z3 (by decide) rfl) rfl ?_
                      refine st_p (op_load1 Try.underlying3 rfl rfl rfl rfl rfl) rfl ?_
                      refine st_p (OpP.conv (op_ge rfl rfl) (yes (by first | assumption | omega))) rfl ?_
                      refine st_p (mv rfl) rfl ?_
                      refine st_pg rfl rfl rfl (op_fieldAddr Try.underlying26 rfl z3 (by decide) rfl) rfl ?_
                      refine st_pg rfl rfl rfl (op_load1 Try.underlying3 rfl rfl rfl rfl rfl) rfl ?_
                      refine st_pg rfl rfl rfl (OpP.conv (op_le rfl rfl) (yes (by first | assumption | omega))) rfl ?_
                      refine st_p (pkT rfl rfl) rfl ?_
                      refine st_p (mv rfl) rfl ?_
                      refine st_pg rfl rfl rfl (op_fieldAddr Try.underlying26 rfl z3 (by decide) rfl) rfl ?_
                      refine st_pg rfl rfl rfl (op_load1 Try.underlying3 rfl rfl rfl rfl rfl) rfl ?_
                      refine st_pg rfl rfl rfl (OpP.conv (op_ge rfl rfl) (yes (by first | assumption | omega))) rfl ?_
                      refine st_p (pkT rfl rfl) rfl ?_
                      refine st_p (mv rfl) rfl ?_
                      refine st_pg rfl rfl rfl (op_fieldAddr Try.underlying26 rfl z3 (by decide) rfl) rfl ?_
                      refine st_pg rfl rfl rfl (op_load1 Try.underlying3 rfl rfl rfl rfl rfl) rfl ?_
                      refine st_pg rfl rfl rfl (OpP.conv (op_le rfl rfl) (yes (by first | assumption | omega))) rfl ?_
                      refine st_p (pkT rfl rfl) rfl ?_
                      refine st_p (mv rfl) rfl ?_
                      refine st_pg rfl rfl rfl (mv rfl) rfl ?_
                      refine st_pg rfl rfl rfl (op_leno Try.underlying74 rfl) rfl ?_
                      refine st_pg rfl rfl rfl (OpP.conv (op_le rfl rfl) (yes (by first | assumption | omega))) rfl ?_
                      refine st_p (pkT rfl rfl) rfl ?_
                      refine st_p (mv rfl) rfl ?_
                      refine st_pg rfl rfl rfl (mv rfl) rfl ?_
                      -- STOP: call diwan/key.Rising(t34) -> 35
                      refine st_og rfl rfl rfl ((op_callq (h5) Try.func77 ⟨rfl, rfl⟩ rfl rfl (fun nx => (.cons (.whole rfl rfl rfl (by first | rfl | simp) (by first | rfl | simp [Function.comp_def, AV.ren, sb]) (by first | rfl | simp [AV.plain, plains, bl_plain, sb, AV.ren])) .nil)) (by rintro _ _ _ ⟨rfl, rfl, rfl⟩; exact .same rfl)).ok) rfl ?_
                      refine st_p (pkT rfl rfl) rfl ?_
                      refine st_p (mv rfl) rfl ?_
                      refine st_pg rfl rfl rfl (mv rfl) rfl ?_
                      refine st_pg rfl rfl rfl (op_leno Try.underlying74 rfl) rfl ?_
                      refine st_pg rfl rfl rfl (OpP.conv (op_le rfl rfl) (yes (by first | assumption | omega))) rfl ?_
                      refine st_p (pkT rfl rfl) rfl ?_
                      refine st_p (mv rfl) rfl ?_
                      refine st_pg rfl rfl rfl (mv rfl) rfl ?_
                      -- STOP: call diwan/key.Rising(t43) -> 44
                      refine st_og rfl rfl rfl ((op_callq (h7) Try.func77 ⟨rfl, rfl⟩ rfl rfl (fun nx => (.cons (.whole rfl rfl rfl (by first | rfl | simp) (by first | rfl | simp [Function.comp_def, AV.ren, sb]) (by first | rfl | simp [AV.plain, plains, bl_plain, sb, AV.ren])) .nil)) (by rintro _ _ _ ⟨rfl, rfl, rfl⟩; exact .same rfl)).ok) rfl ?_
                      refine st_p (pkT rfl rfl) rfl ?_
                      refine st_p (mv rfl) rfl ?_
                      refine st_pg rfl rfl rfl (op_fieldAddr Try.underlying26 rfl z23 (by decide) rfl) rfl ?_
                      refine st_pg rfl rfl rfl (op_load1 Try.underlying23 rfl rfl rfl rfl rfl) rfl ?_
                      -- STOP: call slices.ContainsFunc[[]diwan/api.Read,diwan/api.Read](t48, ('app', 'Operand.func', [79])) -> 49
                      refine st_og rfl rfl rfl ((op_callq (h8) Try.func78 ⟨rfl, rfl⟩ rfl rfl (fun nx => (.cons (.same (by rfl)) (.cons (.same (by rfl)) .nil))) (by rintro _ _ _ ⟨rfl, rfl, rfl⟩; exact .same rfl)).ok) rfl ?_
                      refine st_pg rfl rfl rfl (op_notF rfl) rfl ?_
                      refine st_p (pkT rfl rfl) rfl ?_
                      refine st_p (mv rfl) rfl ?_
                      refine st_pg rfl rfl rfl (op_fieldAddr Try.underlying26 rfl z24 (by decide) rfl) rfl ?_
                      refine st_pg rfl rfl rfl (op_load1 Try.underlying24 rfl rfl rfl rfl rfl) rfl ?_
                      -- STOP: call slices.ContainsFunc[[]diwan/api.Write,diwan/api.Write](t54, ('app', 'Operand.func', [82])) -> 55
                      refine st_og rfl rfl rfl ((op_callq (h9) Try.func81 ⟨rfl, rfl⟩ rfl rfl (fun nx => (.cons (.same (by rfl)) (.cons (.same (by rfl)) .nil))) (by rintro _ _ _ ⟨rfl, rfl, rfl⟩; exact .same rfl)).ok) rfl ?_
                      refine st_pg rfl rfl rfl (op_notT rfl) rfl ?_
                      refine st_p (pkT rfl rfl) rfl ?_
                      refine st_p (mva rfl) rfl ?_
                      refine al_nil ?_
                      refine nm ?_
                      refine aw_ret ?_
                      exact ret_a ⟨[(2, .bool false)], [], 0⟩ (le_to [] rfl rfl rfl rfl rfl ⟨rfl, trivial⟩ trivial) (res1 Try.results23) (.inr ⟨rfl, rfl⟩) ⟨by simp [mayTxB, tget, c0, c1, c2, c3, c4, c5, c6, c7, c8, c9], rfl, rfl⟩
                  | false =>
                    rw [c8] at h8
                    refine ac_fn Try.func23 rfl rfl rfl rfl (fun w0 S0 r0 => ?_)
                    refine aw_seq ?_
                    refine aw_region ?_
                    refine st_o (bx rfl rfl) rfl ?_
                    refine st_p (mva rfl) rfl ?_
                    refine al_nil ?_
                    refine nm ?_
                    refine aw_seq ?_
                    refine aw_region ?_
                    refine st_p (op_loadA Try.underlying26 rfl z26 rfl rfl rfl rfl) rfl ?_
                    -- STOP: call diwan/txn.keys(t6) -> 7
                    refine st_call0 (hkeys) Try.func76 ⟨rfl, rfl⟩ rfl (.cons (.same (by rfl)) .nil) rfl ?_
                    rintro _ _ _ ⟨rfl, rfl, rfl⟩ r2 h2 n2 hr hh hn
                    simp only [AV.ren, rens, Blk.ren, swp, List.map_cons, List.map_nil, List.cons_append, List.nil_append, List.append_nil, Nat.not_lt_zero, if_false, Nat.reduceAdd, Nat.zero_add, Nat.add_zero, ren_bl] at hr hh hn
                    subst hr hh hn
                    refine st_p (mv rfl) rfl ?_
                    refine st_p (op_extract rfl rfl) rfl ?_
                    refine st_p (op_extract rfl rfl) rfl ?_
                    refine st_p (mva rfl) rfl ?_
                    refine st_p (mva rfl) rfl ?_
                    refine al_nil ?_
                    refine nm ?_
                    refine aw_seq ?_
                    refine aw_region ?_
                    refine st_p (op_fieldAddr Try.underlying26 rfl z3 (by decide) rfl) rfl ?_
                    refine st_p (op_load1 Try.underlying3 rfl rfl rfl rfl rfl) rfl ?_
                    refine st_p (OpP.conv (op_ge rfl rfl) (yes (by first | assumption | omega))) rfl ?_
                    refine st_p (mv rfl) rfl ?_
                    refine st_pg rfl rfl rfl (op_fieldAddr Try.underlying26 rfl z3 (by decide) rfl) rfl ?_
                    refine st_pg rfl rfl rfl (op_load1 Try.underlying3 rfl rfl rfl rfl rfl) rfl ?_
                    refine st_pg rfl rfl rfl (OpP.conv (op_le rfl rfl) (yes (by first | assumption | omega))) rfl ?_
                    refine st_p (pkT rfl rfl) rfl ?_
                    refine st_p (mv rfl) rfl ?_
                    refine st_pg rfl rfl rfl (op_fieldAddr Try.underlying26 rfl z3 (by decide) rfl) rfl ?_
                    refine st_pg rfl rfl rfl (op_load1 Try.underlying3 rfl rfl rfl rfl rfl) rfl ?_
                    refine st_pg rfl rfl rfl (OpP.conv (op_ge rfl rfl) (yes (by first | assumption | omega))) rfl ?_
                    refine st_p (pkT rfl rfl) rfl ?_
                    refine st_p (mv rfl) rfl ?_
                    refine st_pg rfl rfl rfl (op_fieldAddr Try.underlying26 rfl z3 (by decide) rfl) rfl ?_
                    refine st_pg rfl rfl rfl (op_load1 Try.underlying3 rfl rfl rfl rfl rfl) rfl ?_
                    refine st_pg rfl rfl rfl (OpP.conv (op_le rfl rfl) (yes (by first | assumption | omega))) rfl ?_
                    refine st_p (pkT rfl rfl) rfl ?_
                    refine st_p (mv rfl) rfl ?_
                    refine st_pg rfl rfl rfl (mv rfl) rfl ?_
                    refine st_pg rfl rfl rfl (op_leno Try.underlying74 rfl) rfl ?_
                    refine st_pg rfl rfl rfl (OpP.conv (op_le rfl rfl) (yes (by first | assumption | omega))) rfl ?_
                    refine st_p (pkT rfl rfl) rfl ?_
                    refine st_p (mv rfl) rfl ?_
                    refine st_pg rfl rfl rfl (mv rfl) rfl ?_
                    -- STOP: call diwan/key.Rising(t34) -> 35
                    refine st_og rfl rfl rfl ((op_callq (h5) Try.func77 ⟨rfl, rfl⟩ rfl rfl (fun nx => (.cons (.whole rfl rfl rfl (by first | rfl | simp) (by first | rfl | simp [Function.comp_def, AV.ren, sb]) (by first | rfl | simp [AV.plain, plains, bl_plain, sb, AV.ren])) .nil)) (by rintro _ _ _ ⟨rfl, rfl, rfl⟩; exact .same rfl)).ok) rfl ?_
                    refine st_p (pkT rfl rfl) rfl ?_
                    refine st_p (mv rfl) rfl ?_
                    refine st_pg rfl rfl rfl (mv rfl) rfl ?_
                    refine st_pg rfl rfl rfl (op_leno Try.underlying74 rfl) rfl ?_
                    refine st_pg rfl rfl rfl (OpP.conv (op_le rfl rfl) (yes (by first | assumption | omega))) rfl ?_
                    refine st_p (pkT rfl rfl) rfl ?_
                    refine st_p (mv rfl) rfl ?_
                    refine st_pg rfl rfl rfl (mv rfl) rfl ?_
                    -- STOP: call diwan/key.Rising(t43) -> 44
                    refine st_og rfl rfl rfl ((op_callq (h7) Try.func77 ⟨rfl, rfl⟩ rfl rfl (fun nx => (.cons (.whole rfl rfl rfl (by first | rfl | simp) (by first | rfl | simp [Function.comp_def, AV.ren, sb]) (by first | rfl | simp [AV.plain, plains, bl_plain, sb, AV.ren])) .nil)) (by rintro _ _ _ ⟨rfl, rfl, rfl⟩; exact .same rfl)).ok) rfl ?_
                    refine st_p (pkT rfl rfl) rfl ?_
                    refine st_p (mv rfl) rfl ?_
                    refine st_pg rfl rfl rfl (op_fieldAddr Try.underlying26 rfl z23 (by decide) rfl) rfl ?_
                    refine st_pg rfl rfl rfl (op_load1 Try.underlying23 rfl rfl rfl rfl rfl) rfl ?_
                    -- STOP: call slices.ContainsFunc[[]diwan/api.Read,diwan/api.Read](t48, ('app', 'Operand.func', [79])) -> 49
                    refine st_og rfl rfl rfl ((op_callq (h8) Try.func78 ⟨rfl, rfl⟩ rfl rfl (fun nx => (.cons (.same (by rfl)) (.cons (.same (by rfl)) .nil))) (by rintro _ _ _ ⟨rfl, rfl, rfl⟩; exact .same rfl)).ok) rfl ?_
                    refine st_pg rfl rfl rfl (op_notT rfl) rfl ?_
                    refine st_p (pkT rfl rfl) rfl ?_
                    refine st_p (mv rfl) rfl ?_
                    refine st_s rfl rfl rfl rfl rfl ?_
                    refine st_s rfl rfl rfl rfl rfl ?_
                    -- STOP: call slices.ContainsFunc[[]diwan/api.Write,diwan/api.Write](t54, ('app', 'Operand.func', [82])) -> 55
                    refine st_s rfl rfl rfl rfl rfl ?_
                    refine st_s rfl rfl rfl rfl rfl ?_
                    refine st_p (pkF rfl rfl) rfl ?_
                    refine st_p (mva rfl) rfl ?_
                    refine al_nil ?_
                    refine nm ?_
                    refine aw_ret ?_
                    exact ret_a ⟨[(2, .bool false)], [], 0⟩ (le_to [] rfl rfl rfl rfl rfl ⟨rfl, trivial⟩ trivial) (res1 Try.results23) (.inr ⟨rfl, rfl⟩) ⟨by simp [mayTxB, tget, c0, c1, c2, c3, c4, c5, c6, c7, c8], rfl, rfl⟩
                | false =>
                  rw [c7] at h7
                  refine ac_fn Try.func23 rfl rfl rfl rfl (fun w0 S0 r0 => ?_)
                  refine aw_seq ?_
                  refine aw_region ?_
                  refine st_o (bx rfl rfl) rfl ?_
                  refine st_p (mva rfl) rfl ?_
                  refine al_nil ?_
                  refine nm ?_
                  refine aw_seq ?_
                  refine aw_region ?_
                  refine st_p (op_loadA Try.underlying26 rfl z26 rfl rfl rfl rfl) rfl ?_
                  -- STOP: call diwan/txn.keys(t6) -> 7
                  refine st_call0 (hkeys) Try.func76 ⟨rfl, rfl⟩ rfl (.cons (.same (by rfl)) .nil) rfl ?_
                  rintro _ _ _ ⟨rfl, rfl, rfl⟩ r2 h2 n2 hr hh hn
                  simp only [AV.ren, rens, Blk.ren, swp, List.map_cons, List.map_nil, List.cons_append, List.nil_append, List.append_nil, Nat.not_lt_zero, if_false, Nat.reduceAdd, Nat.zero_add, Nat.add_zero, ren_bl] at hr hh hn
                  subst hr hh hn
                  refine st_p (mv rfl) rfl ?_
                  refine st_p (op_extract rfl rfl) rfl ?_
                  refine st_p (op_extract rfl rfl) rfl ?_
                  refine st_p (mva rfl) rfl ?_
                  refine st_p (mva rfl) rfl ?_
                  refine al_nil ?_
                  refine nm ?_
                  refine aw_seq ?_
                  refine aw_region ?_
                  refine st_p (op_fieldAddr Try.underlying26 rfl z3 (by decide) rfl) rfl ?_
                  refine st_p (op_load1 Try.underlying3 rfl rfl rfl rfl rfl) rfl ?_
                  refine st_p (OpP.conv (op_ge rfl rfl) (yes (by first | assumption | omega))) rfl ?_
                  refine st_p (mv rfl) rfl ?_
                  refine st_pg rfl rfl rfl (op_fieldAddr Try.underlying26 rfl z3 (by decide) rfl) rfl ?_
                  refine st_pg rfl rfl rfl (op_load1 Try.underlying3 rfl rfl rfl rfl rfl) rfl ?_
                  refine st_pg rfl rfl rfl (OpP.conv (op_le rfl rfl) (yes (by first | assumption | omega))) rfl ?_
                  refine st_p (pkT rfl rfl) rfl ?_
                  refine st_p (mv rfl) rfl ?_
                  refine st_pg rfl rfl rfl (op_fieldAddr Try.underlying26 rfl z3 (by decide) rfl) rfl ?_
                  refine st_pg rfl rfl rfl (op_load1 Try.underlying3 rfl rfl rfl rfl rfl) rfl ?_
                  refine st_pg rfl rfl rfl (OpP.conv (op_ge rfl rfl) (yes (by first | assumption | omega))) rfl ?_
                  refine st_p (pkT rfl rfl) rfl ?_
                  refine st_p (mv rfl) rfl ?_
                  refine st_pg rfl rfl rfl (op_fieldAddr Try.underlying26 rfl z3 (by decide) rfl) rfl ?_
                  refine st_pg rfl rfl rfl (op_load1 Try.underlying3 rfl rfl rfl rfl rfl) rfl ?_
                  refine st_pg rfl rfl rfl (OpP.conv (op_le rfl rfl) (yes (by first | assumption | omega))) rfl ?_
                  refine st_p (pkT rfl rfl) rfl ?_
                  refine st_p (mv rfl) rfl ?_
                  refine st_pg rfl rfl rfl (mv rfl) rfl ?_
                  refine st_pg rfl rfl rfl (op_leno Try.underlying74 rfl) rfl ?_
                  refine st_pg rfl rfl rfl (OpP.conv (op_le rfl rfl) (yes (by first | assumption | omega))) rfl ?_
                  refine st_p (pkT rfl rfl) rfl ?_
                  refine st_p (mv rfl) rfl ?_
                  refine st_pg rfl rfl rfl (mv rfl) rfl ?_
                  -- STOP: call diwan/key.Rising(t34) -> 35
                  refine st_og rfl rfl rfl ((op_callq (h5) Try.func77 ⟨rfl, rfl⟩ rfl rfl (fun nx => (.cons (.whole rfl rfl rfl (by first | rfl | simp) (by first | rfl | simp [Function.comp_def, AV.ren, sb]) (by first | rfl | simp [AV.plain, plains, bl_plain, sb, AV.ren])) .nil)) (by rintro _ _ _ ⟨rfl, rfl, rfl⟩; exact .same rfl)).ok) rfl ?_
                  refine st_p (pkT rfl rfl) rfl ?_
                  refine st_p (mv rfl) rfl ?_
                  refine st_pg rfl rfl rfl (mv rfl) rfl ?_
                  refine st_pg rfl rfl rfl (op_leno Try.underlying74 rfl) rfl ?_
                  refine st_pg rfl rfl rfl (OpP.conv (op_le rfl rfl) (yes (by first | assumption | omega))) rfl ?_
                  refine st_p (pkT rfl rfl) rfl ?_
                  refine st_p (mv rfl) rfl ?_
                  refine st_pg rfl rfl rfl (mv rfl) rfl ?_
                  -- STOP: call diwan/key.Rising(t43) -> 44
                  refine st_og rfl rfl rfl ((op_callq (h7) Try.func77 ⟨rfl, rfl⟩ rfl rfl (fun nx => (.cons (.whole rfl rfl rfl (by first | rfl | simp) (by first | rfl | simp [Function.comp_def, AV.ren, sb]) (by first | rfl | simp [AV.plain, plains, bl_plain, sb, AV.ren])) .nil)) (by rintro _ _ _ ⟨rfl, rfl, rfl⟩; exact .same rfl)).ok) rfl ?_
                  refine st_p (pkT rfl rfl) rfl ?_
                  refine st_p (mv rfl) rfl ?_
                  refine st_s rfl rfl rfl rfl rfl ?_
                  refine st_s rfl rfl rfl rfl rfl ?_
                  -- STOP: call slices.ContainsFunc[[]diwan/api.Read,diwan/api.Read](t48, ('app', 'Operand.func', [79])) -> 49
                  refine st_s rfl rfl rfl rfl rfl ?_
                  refine st_s rfl rfl rfl rfl rfl ?_
                  refine st_p (pkF rfl rfl) rfl ?_
                  refine st_p (mv rfl) rfl ?_
                  refine st_s rfl rfl rfl rfl rfl ?_
                  refine st_s rfl rfl rfl rfl rfl ?_
                  -- STOP: call slices.ContainsFunc[[]diwan/api.Write,diwan/api.Write](t54, ('app', 'Operand.func', [82])) -> 55
                  refine st_s rfl rfl rfl rfl rfl ?_
                  refine st_s rfl rfl rfl rfl rfl ?_
                  refine st_p (pkF rfl rfl) rfl ?_
                  refine st_p (mva rfl) rfl ?_
                  refine al_nil ?_
                  refine nm ?_
                  refine aw_ret ?_
                  exact ret_a ⟨[(2, .bool false)], [], 0⟩ (le_to [] rfl rfl rfl rfl rfl ⟨rfl, trivial⟩ trivial) (res1 Try.results23) (.inr ⟨rfl, rfl⟩) ⟨by simp [mayTxB, tget, c0, c1, c2, c3, c4, c5, c6, c7], rfl, rfl⟩
              · skip
                refine ac_fn Try.func23 rfl rfl rfl rfl (fun w0 S0 r0 => ?_)
                refine aw_seq ?_
                refine aw_region ?_
                refine st_o (bx rfl rfl) rfl ?_
                refine st_p (mva rfl) rfl ?_
                refine al_nil ?_
                refine nm ?_
                refine aw_seq ?_
                refine aw_region ?_
                refine st_p (op_loadA Try.underlying26 rfl z26 rfl rfl rfl rfl) rfl ?_
                -- STOP: call diwan/txn.keys(t6) -> 7
                refine st_call0 (hkeys) Try.func76 ⟨rfl, rfl⟩ rfl (.cons (.same (by rfl)) .nil) rfl ?_
                rintro _ _ _ ⟨rfl, rfl, rfl⟩ r2 h2 n2 hr hh hn
                simp only [AV.ren, rens, Blk.ren, swp, List.map_cons, List.map_nil, List.cons_append, List.nil_append, List.append_nil, Nat.not_lt_zero, if_false, Nat.reduceAdd, Nat.zero_add, Nat.add_zero, ren_bl] at hr hh hn
                subst hr hh hn
                refine st_p (mv rfl) rfl ?_
                refine st_p (op_extract rfl rfl) rfl ?_
                refine st_p (op_extract rfl rfl) rfl ?_
                refine st_p (mva rfl) rfl ?_
                refine st_p (mva rfl) rfl ?_
                refine al_nil ?_
                refine nm ?_
                refine aw_seq ?_
                refine aw_region ?_
                refine st_p (op_fieldAddr Try.underlying26 rfl z3 (by decide) rfl) rfl ?_
                refine st_p (op_load1 Try.underlying3 rfl rfl rfl rfl rfl) rfl ?_
                refine st_p (OpP.conv (op_ge rfl rfl) (yes (by first | assumption | omega))) rfl ?_
                refine st_p (mv rfl) rfl ?_
                refine st_pg rfl rfl rfl (op_fieldAddr Try.underlying26 rfl z3 (by decide) rfl) rfl ?_
                refine st_pg rfl rfl rfl (op_load1 Try.underlying3 rfl rfl rfl rfl rfl) rfl ?_
                refine st_pg rfl rfl rfl (OpP.conv (op_le rfl rfl) (yes (by first | assumption | omega))) rfl ?_
                refine st_p (pkT rfl rfl) rfl ?_
                refine st_p (mv rfl) rfl ?_
                refine st_pg rfl rfl rfl (op_fieldAddr Try.underlying26 rfl z3 (by decide) rfl) rfl ?_
                refine st_pg rfl rfl rfl (op_load1 Try.underlying3 rfl rfl rfl rfl rfl) rfl ?_
                refine st_pg rfl rfl rfl (OpP.conv (op_ge rfl rfl) (yes (by first | assumption | omega))) rfl ?_
                refine st_p (pkT rfl rfl) rfl ?_
                refine st_p (mv rfl) rfl ?_
                refine st_pg rfl rfl rfl (op_fieldAddr Try.underlying26 rfl z3 (by decide) rfl) rfl ?_
                refine st_pg rfl rfl rfl (op_load1 Try.underlying3 rfl rfl rfl rfl rfl) rfl ?_
                refine st_pg rfl rfl rfl (OpP.conv (op_le rfl rfl) (yes (by first | assumption | omega))) rfl ?_
                refine st_p (pkT rfl rfl) rfl ?_
                refine st_p (mv rfl) rfl ?_
                refine st_pg rfl rfl rfl (mv rfl) rfl ?_
                refine st_pg rfl rfl rfl (op_leno Try.underlying74 rfl) rfl ?_
                refine st_pg rfl rfl rfl (OpP.conv (op_le rfl rfl) (yes (by first | assumption | omega))) rfl ?_
                refine st_p (pkT rfl rfl) rfl ?_
                refine st_p (mv rfl) rfl ?_
                refine st_pg rfl rfl rfl (mv rfl) rfl ?_
                -- STOP: call diwan/key.Rising(t34) -> 35
                refine st_og rfl rfl rfl ((op_callq (h5) Try.func77 ⟨rfl, rfl⟩ rfl rfl (fun nx => (.cons (.whole rfl rfl rfl (by first | rfl | simp) (by first | rfl | simp [Function.comp_def, AV.ren, sb]) (by first | rfl | simp [AV.plain, plains, bl_plain, sb, AV.ren])) .nil)) (by rintro _ _ _ ⟨rfl, rfl, rfl⟩; exact .same rfl)).ok) rfl ?_
                refine st_p (pkT rfl rfl) rfl ?_
                refine st_p (mv rfl) rfl ?_
                refine st_pg rfl rfl rfl (mv rfl) rfl ?_
                refine st_pg rfl rfl rfl (op_leno Try.underlying74 rfl) rfl ?_
                refine st_pg rfl rfl rfl (OpP.conv (op_le rfl rfl) (no (by first | assumption | omega))) rfl ?_
                refine st_p (pkT rfl rfl) rfl ?_
                refine st_p (mv rfl) rfl ?_
                refine st_s rfl rfl rfl rfl rfl ?_
                -- STOP: call diwan/key.Rising(t43) -> 44
                refine st_s rfl rfl rfl rfl rfl ?_
                refine st_p (pkF rfl rfl) rfl ?_
                refine st_p (mv rfl) rfl ?_
                refine st_s rfl rfl rfl rfl rfl ?_
                refine st_s rfl rfl rfl rfl rfl ?_
                -- STOP: call slices.ContainsFunc[[]diwan/api.Read,diwan/api.Read](t48, ('app', 'Operand.func', [79])) -> 49
                refine st_s rfl rfl rfl rfl rfl ?_
                refine st_s rfl rfl rfl rfl rfl ?_
                refine st_p (pkF rfl rfl) rfl ?_
                refine st_p (mv rfl) rfl ?_
                refine st_s rfl rfl rfl rfl rfl ?_
                refine st_s rfl rfl rfl rfl rfl ?_
                -- STOP: call slices.ContainsFunc[[]diwan/api.Write,diwan/api.Write](t54, ('app', 'Operand.func', [82])) -> 55
                refine st_s rfl rfl rfl rfl rfl ?_
                refine st_s rfl rfl rfl rfl rfl ?_
                refine st_p (pkF rfl rfl) rfl ?_
                refine st_p (mva rfl) rfl ?_
                refine al_nil ?_
                refine nm ?_
                refine aw_ret ?_
                exact ret_a ⟨[(2, .bool false)], [], 0⟩ (le_to [] rfl rfl rfl rfl rfl ⟨rfl, trivial⟩ trivial) (res1 Try.results23) (.inr ⟨rfl, rfl⟩) ⟨by simp [mayTxB, tget, c0, c1, c2, c3, c4, c5, c6], rfl, rfl⟩
            | false =>
              rw [c5] at h5
              refine ac_fn Try.func23 rfl rfl rfl rfl (fun w0 S0 r0 => ?_)
              refine aw_seq ?_
              refine aw_region ?_
              refine st_o (bx rfl rfl) rfl ?_
              refine st_p (mva rfl) rfl ?_
              refine al_nil ?_
              refine nm ?_
              refine aw_seq ?_
              refine aw_region ?_
              refine st_p (op_loadA Try.underlying26 rfl z26 rfl rfl rfl rfl) rfl ?_
              -- STOP: call diwan/txn.keys(t6) -> 7
              refine st_call0 (hkeys) Try.func76 ⟨rfl, rfl⟩ rfl (.cons (.same (by rfl)) .nil) rfl ?_
              rintro _ _ _ ⟨rfl, rfl, rfl⟩ r2 h2 n2 hr hh hn
              simp only [AV.ren, rens, Blk.ren, swp, List.map_cons, List.map_nil, List.cons_append, List.nil_append, List.append_nil, Nat.not_lt_zero, if_false, Nat.reduceAdd, Nat.zero_add, Nat.add_zero, ren_bl] at hr hh hn
              subst hr hh hn
              refine st_p (mv rfl) rfl ?_
              refine st_p (op_extract rfl rfl) rfl ?_
              refine st_p (op_extract rfl rfl) rfl ?_
              refine st_p (mva rfl) rfl ?_
              refine st_p (mva rfl) rfl ?_
              refine al_nil ?_
              refine nm ?_
              refine aw_seq ?_
              refine aw_region ?_
              refine st_p (op_fieldAddr Try.underlying26 rfl z3 (by decide) rfl) rfl ?_
              refine st_p (op_load1 Try.underlying3 rfl rfl rfl rfl rfl) rfl ?_
              refine st_p (OpP.conv (op_ge rfl rfl) (yes (by first | assumption | omega))) rfl ?_
              refine st_p (mv rfl) rfl ?_
              refine st_pg rfl rfl rfl (op_fieldAddr Try.underlying26 rfl z3 (by decide) rfl) rfl ?_
              refine st_pg rfl rfl rfl (op_load1 Try.underlying3 rfl rfl rfl rfl rfl) rfl ?_
              refine st_pg rfl rfl rfl (OpP.conv (op_le rfl rfl) (yes (by first | assumption | omega))) rfl ?_
              refine st_p (pkT rfl rfl) rfl ?_
              refine st_p (mv rfl) rfl ?_
              refine st_pg rfl rfl rfl (op_fieldAddr Try.underlying26 rfl z3 (by decide) rfl) rfl ?_
              refine st_pg rfl rfl rfl (op_load1 Try.underlying3 rfl rfl rfl rfl rfl) rfl ?_
              refine st_pg rfl rfl rfl (OpP.conv (op_ge rfl rfl) (yes (by first | assumption | omega))) rfl ?_
              refine st_p (pkT rfl rfl) rfl ?_
              refine st_p (mv rfl) rfl ?_
              refine st_pg rfl rfl rfl (op_fieldAddr Try.underlying26 rfl z3 (by decide) rfl) rfl ?_
              refine st_pg rfl rfl rfl (op_load1 Try.underlying3 rfl rfl rfl rfl rfl) rfl ?_
              refine st_pg rfl rfl rfl (OpP.conv (op_le rfl rfl) (yes (by first | assumption | omega))) rfl ?_
              refine st_p (pkT rfl rfl) rfl ?_
              refine st_p (mv rfl) rfl ?_
              refine st_pg rfl rfl rfl (mv rfl) rfl ?_
              refine st_pg rfl rfl rfl (op_leno Try.underlying74 rfl) rfl ?_
              refine st_pg rfl rfl rfl (OpP.conv (op_le rfl rfl) (yes (by first | assumption | omega))) rfl ?_
              refine st_p (pkT rfl rfl) rfl ?_
              refine st_p (mv rfl) rfl ?_
              refine st_pg rfl rfl rfl (mv rfl) rfl ?_
              -- STOP: call diwan/key.Rising(t34) -> 35
              refine st_og rfl rfl rfl ((op_callq (h5) Try.func77 ⟨rfl, rfl⟩ rfl rfl (fun nx => (.cons (.whole rfl rfl rfl (by first | rfl | simp) (by first | rfl | simp [Function.comp_def, AV.ren, sb]) (by first | rfl | simp [AV.plain, plains, bl_plain, sb, AV.ren])) .nil)) (by rintro _ _ _ ⟨rfl, rfl, rfl⟩; exact .same rfl)).ok) rfl ?_
              refine st_p (pkT rfl rfl) rfl ?_
              refine st_p (mv rfl) rfl ?_
              refine st_s rfl rfl rfl rfl rfl ?_
              refine st_s rfl rfl rfl rfl rfl ?_
              refine st_s rfl rfl rfl rfl rfl ?_
              refine st_p (pkF rfl rfl) rfl ?_
              refine st_p (mv rfl) rfl ?_
              refine st_s rfl rfl rfl rfl rfl ?_
              -- STOP: call diwan/key.Rising(t43) -> 44
              refine st_s rfl rfl rfl rfl rfl ?_
              refine st_p (pkF rfl rfl) rfl ?_
              refine st_p (mv rfl) rfl ?_
              refine st_s rfl rfl rfl rfl rfl ?_
              refine st_s rfl rfl rfl rfl rfl ?_
              -- STOP: call slices.ContainsFunc[[]diwan/api.Read,diwan/api.Read](t48, ('app', 'Operand.func', [79])) -> 49
              refine st_s rfl rfl rfl rfl rfl ?_
              refine st_s rfl rfl rfl rfl rfl ?_
              refine st_p (pkF rfl rfl) rfl ?_
              refine st_p (mv rfl) rfl ?_
              refine st_s rfl rfl rfl rfl rfl ?_
              refine st_s rfl rfl rfl rfl rfl ?_
              -- STOP: call slices.ContainsFunc[[]diwan/api.Write,diwan/api.Write](t54, ('app', 'Operand.func', [82])) -> 55
              refine st_s rfl rfl rfl rfl rfl ?_
              refine st_s rfl rfl rfl rfl rfl ?_
              refine st_p (pkF rfl rfl) rfl ?_
              refine st_p (mva rfl) rfl ?_
              refine al_nil ?_
              refine nm ?_
              refine aw_ret ?_
              exact ret_a ⟨[(2, .bool false)], [], 0⟩ (le_to [] rfl rfl rfl rfl rfl ⟨rfl, trivial⟩ trivial) (res1 Try.results23) (.inr ⟨rfl, rfl⟩) ⟨by simp [mayTxB, tget, c0, c1, c2, c3, c4, c5], rfl, rfl⟩
          · skip
            refine ac_fn Try.func23 rfl rfl rfl rfl (fun w0 S0 r0 => ?_)
            refine aw_seq ?_
            refine aw_region ?_
            refine st_o (bx rfl rfl) rfl ?_
            refine st_p (mva rfl) rfl ?_
            refine al_nil ?_
            refine nm ?_
            refine aw_seq ?_
            refine aw_region ?_
            refine st_p (op_loadA Try.underlying26 rfl z26 rfl rfl rfl rfl) rfl ?_
            -- STOP: call diwan/txn.keys(t6) -> 7
            refine st_call0 (hkeys) Try.func76 ⟨rfl, rfl⟩ rfl (.cons (.same (by rfl)) .nil) rfl ?_
            rintro _ _ _ ⟨rfl, rfl, rfl⟩ r2 h2 n2 hr hh hn
            simp only [AV.ren, rens, Blk.ren, swp, List.map_cons, List.map_nil, List.cons_append, List.nil_append, List.append_nil, Nat.not_lt_zero, if_false, Nat.reduceAdd, Nat.zero_add, Nat.add_zero, ren_bl] at hr hh hn
            subst hr hh hn
            refine st_p (mv rfl) rfl ?_
            refine st_p (op_extract rfl rfl) rfl ?_
            refine st_p (op_extract rfl rfl) rfl ?_
            refine st_p (mva rfl) rfl ?_
            refine st_p (mva rfl) rfl ?_
            refine al_nil ?_
            refine nm ?_
            refine aw_seq ?_
            refine aw_region ?_
            refine st_p (op_fieldAddr Try.underlying26 rfl z3 (by decide) rfl) rfl ?_
            refine st_p (op_load1 Try.underlying3 rfl rfl rfl rfl rfl) rfl ?_
            refine st_p (OpP.conv (op_ge rfl rfl) (yes (by first | assumption | omega))) rfl ?_
            refine st_p (mv rfl) rfl ?_
            refine st_pg rfl rfl rfl (op_fieldAddr Try.underlying26 rfl z3 (by decide) rfl) rfl ?_
            refine st_pg rfl rfl rfl (op_load1 Try.underlying3 rfl rfl rfl rfl rfl) rfl ?_
            refine st_pg rfl rfl rfl (OpP.conv (op_le rfl rfl) (yes (by first | assumption | omega))) rfl ?_
            refine st_p (pkT rfl rfl) rfl ?_
            refine st_p (mv rfl) rfl ?_
            refine st_pg rfl rfl rfl (op_fieldAddr Try.underlying26 rfl z3 (by decide) rfl) rfl ?_
            refine st_pg rfl rfl rfl (op_load1 Try.underlying3 rfl rfl rfl rfl rfl) rfl ?_
            refine st_pg rfl rfl rfl (OpP.conv (op_ge rfl rfl) (yes (by first | assumption | omega))) rfl ?_
            refine st_p (pkT rfl rfl) rfl ?_
            refine st_p (mv rfl) rfl ?_
            refine st_pg rfl rfl rfl (op_fieldAddr Try.underlying26 rfl z3 (by decide) rfl) rfl ?_
            refine st_pg rfl rfl rfl (op_load1 Try.underlying3 rfl rfl rfl rfl rfl) rfl ?_
            refine st_pg rfl rfl rfl (OpP.conv (op_le rfl rfl) (yes (by first | assumption | omega))) rfl ?_
            refine st_p (pkT rfl rfl) rfl ?_
            refine st_p (mv rfl) rfl ?_
            refine st_pg rfl rfl rfl (mv rfl) rfl ?_
            refine st_pg rfl rfl rfl (op_leno Try.underlying74 rfl) rfl ?_
            refine st_pg rfl rfl rfl (OpP.conv (op_le rfl rfl) (no (by first | assumption | omega))) rfl ?_
            refine st_p (pkT rfl rfl) rfl ?_
            refine st_p (mv rfl) rfl ?_
            refine st_s rfl rfl rfl rfl rfl ?_
            -- STOP: call diwan/key.Rising(t34) -> 35
            refine st_s rfl rfl rfl rfl rfl ?_
            refine st_p (pkF rfl rfl) rfl ?_
            refine st_p (mv rfl) rfl ?_
            refine st_s rfl rfl rfl rfl rfl ?_
            refine st_s rfl rfl rfl rfl rfl ?_
            refine st_s rfl rfl rfl rfl rfl ?_
            refine st_p (pkF rfl rfl) rfl ?_
            refine st_p (mv rfl) rfl ?_
            refine st_s rfl rfl rfl rfl rfl ?_
            -- STOP: call diwan/key.Rising(t43) -> 44
            refine st_s rfl rfl rfl rfl rfl ?_
            refine st_p (pkF rfl rfl) rfl ?_
            refine st_p (mv rfl) rfl ?_
            refine st_s rfl rfl rfl rfl rfl ?_
            refine st_s rfl rfl rfl rfl rfl ?_
            -- STOP: call slices.ContainsFunc[[]diwan/api.Read,diwan/api.Read](t48, ('app', 'Operand.func', [79])) -> 49
            refine st_s rfl rfl rfl rfl rfl ?_
            refine st_s rfl rfl rfl rfl rfl ?_
            refine st_p (pkF rfl rfl) rfl ?_
            refine st_p (mv rfl) rfl ?_
            refine st_s rfl rfl rfl rfl rfl ?_
            refine st_s rfl rfl rfl rfl rfl ?_
            -- STOP: call slices.ContainsFunc[[]diwan/api.Write,diwan/api.Write](t54, ('app', 'Operand.func', [82])) -> 55
            refine st_s rfl rfl rfl rfl rfl ?_
            refine st_s rfl rfl rfl rfl rfl ?_
            refine st_p (pkF rfl rfl) rfl ?_
            refine st_p (mva rfl) rfl ?_
            refine al_nil ?_
            refine nm ?_
            refine aw_ret ?_
            exact ret_a ⟨[(2, .bool false)], [], 0⟩ (le_to [] rfl rfl rfl rfl rfl ⟨rfl, trivial⟩ trivial) (res1 Try.results23) (.inr ⟨rfl, rfl⟩) ⟨by simp [mayTxB, tget, c0, c1, c2, c3, c4], rfl, rfl⟩
        · skip
          refine ac_fn Try.func23 rfl rfl rfl rfl (fun w0 S0 r0 => ?_)
          refine aw_seq ?_
          refine aw_region ?_
          refine st_o (bx rfl rfl) rfl ?_
          refine st_p (mva rfl) rfl ?_
          refine al_nil ?_
          refine nm ?_
          refine aw_seq ?_
          refine aw_region ?_
          refine st_p (op_loadA Try.underlying26 rfl z26 rfl rfl rfl rfl) rfl ?_
          -- STOP: call diwan/txn.keys(t6) -> 7
          refine st_call0 (hkeys) Try.func76 ⟨rfl, rfl⟩ rfl (.cons (.same (by rfl)) .nil) rfl ?_
          rintro _ _ _ ⟨rfl, rfl, rfl⟩ r2 h2 n2 hr hh hn
          simp only [AV.ren, rens, Blk.ren, swp, List.map_cons, List.map_nil, List.cons_append, List.nil_append, List.append_nil, Nat.not_lt_zero, if_false, Nat.reduceAdd, Nat.zero_add, Nat.add_zero, ren_bl] at hr hh hn
          subst hr hh hn
          refine st_p (mv rfl) rfl ?_
          refine st_p (op_extract rfl rfl) rfl ?_
          refine st_p (op_extract rfl rfl) rfl ?_
          refine st_p (mva rfl) rfl ?_
          refine st_p (mva rfl) rfl ?_
          refine al_nil ?_
          refine nm ?_
          refine aw_seq ?_
          refine aw_region ?_
          refine st_p (op_fieldAddr Try.underlying26 rfl z3 (by decide) rfl) rfl ?_
          refine st_p (op_load1 Try.underlying3 rfl rfl rfl rfl rfl) rfl ?_
          refine st_p (OpP.conv (op_ge rfl rfl) (yes (by first | assumption | omega))) rfl ?_
          refine st_p (mv rfl) rfl ?_
          refine st_pg rfl rfl rfl (op_fieldAddr Try.underlying26 rfl z3 (by decide) rfl) rfl ?_
          refine st_pg rfl rfl rfl (op_load1 Try.underlying3 rfl rfl rfl rfl rfl) rfl ?_
          refine st_pg rfl rfl rfl (OpP.conv (op_le rfl rfl) (yes (by first | assumption | omega))) rfl ?_
          refine st_p (pkT rfl rfl) rfl ?_
          refine st_p (mv rfl) rfl ?_
          refine st_pg rfl rfl rfl (op_fieldAddr Try.underlying26 rfl z3 (by decide) rfl) rfl ?_
          refine st_pg rfl rfl rfl (op_load1 Try.underlying3 rfl rfl rfl rfl rfl) rfl ?_
          refine st_pg rfl rfl rfl (OpP.conv (op_ge rfl rfl) (yes (by first | assumption | omega))) rfl ?_
          refine st_p (pkT rfl rfl) rfl ?_
          refine st_p (mv rfl) rfl ?_
          refine st_pg rfl rfl rfl (op_fieldAddr Try.underlying26 rfl z3 (by decide) rfl) rfl ?_
          refine st_pg rfl rfl rfl (op_load1 Try.underlying3 rfl rfl rfl rfl rfl) rfl ?_
          refine st_pg rfl rfl rfl (OpP.conv (op_le rfl rfl) (no (by first | assumption | omega))) rfl ?_
          refine st_p (pkT rfl rfl) rfl ?_
          refine st_p (mv rfl) rfl ?_
          refine st_s rfl rfl rfl rfl rfl ?_
          refine st_s rfl rfl rfl rfl rfl ?_
          refine st_s rfl rfl rfl rfl rfl ?_
          refine st_p (pkF rfl rfl) rfl ?_
          refine st_p (mv rfl) rfl ?_
          refine st_s rfl rfl rfl rfl rfl ?_
          -- STOP: call diwan/key.Rising(t34) -> 35
          refine st_s rfl rfl rfl rfl rfl ?_
          refine st_p (pkF rfl rfl) rfl ?_
          refine st_p (mv rfl) rfl ?_
          refine st_s rfl rfl rfl rfl rfl ?_
          refine st_s rfl rfl rfl rfl rfl ?_
          refine st_s rfl rfl rfl rfl rfl ?_
          refine st_p (pkF rfl rfl) rfl ?_
          refine st_p (mv rfl) rfl ?_
          refine st_s rfl rfl rfl rfl rfl ?_
          -- STOP: call diwan/key.Rising(t43) -> 44
          refine st_s rfl rfl rfl rfl rfl ?_
          refine st_p (pkF rfl rfl) rfl ?_
          refine st_p (mv rfl) rfl ?_
          refine st_s rfl rfl rfl rfl rfl ?_
          refine st_s rfl rfl rfl rfl rfl ?_
          -- STOP: call slices.ContainsFunc[[]diwan/api.Read,diwan/api.Read](t48, ('app', 'Operand.func', [79])) -> 49
          refine st_s rfl rfl rfl rfl rfl ?_
          refine st_s rfl rfl rfl rfl rfl ?_
          refine st_p (pkF rfl rfl) rfl ?_
          refine st_p (mv rfl) rfl ?_
          refine st_s rfl rfl rfl rfl rfl ?_
          refine st_s rfl rfl rfl rfl rfl ?_
          -- STOP: call slices.ContainsFunc[[]diwan/api.Write,diwan/api.Write](t54, ('app', 'Operand.func', [82])) -> 55
          refine st_s rfl rfl rfl rfl rfl ?_
          refine st_s rfl rfl rfl rfl rfl ?_
          refine st_p (pkF rfl rfl) rfl ?_
          refine st_p (mva rfl) rfl ?_
          refine al_nil ?_
          refine nm ?_
          refine aw_ret ?_
          exact ret_a ⟨[(2, .bool false)], [], 0⟩ (le_to [] rfl rfl rfl rfl rfl ⟨rfl, trivial⟩ trivial) (res1 Try.results23) (.inr ⟨rfl, rfl⟩) ⟨by simp [mayTxB, tget, c0, c1, c2, c3], rfl, rfl⟩
      · skip
        refine ac_fn Try.func23 rfl rfl rfl rfl (fun w0 S0 r0 => ?_)
        refine aw_seq ?_
        refine aw_region ?_
        refine st_o (bx rfl rfl) rfl ?_
        refine st_p (mva rfl) rfl ?_
        refine al_nil ?_
        refine nm ?_
        refine aw_seq ?_
        refine aw_region ?_
        refine st_p (op_loadA Try.underlying26 rfl z26 rfl rfl rfl rfl) rfl ?_
        -- STOP: call diwan/txn.keys(t6) -> 7
        refine st_call0 (hkeys) Try.func76 ⟨rfl, rfl⟩ rfl (.cons (.same (by rfl)) .nil) rfl ?_
        rintro _ _ _ ⟨rfl, rfl, rfl⟩ r2 h2 n2 hr hh hn
        simp only [AV.ren, rens, Blk.ren, swp, List.map_cons, List.map_nil, List.cons_append, List.nil_append, List.append_nil, Nat.not_lt_zero, if_false, Nat.reduceAdd, Nat.zero_add, Nat.add_zero, ren_bl] at hr hh hn
        subst hr hh hn
        refine st_p (mv rfl) rfl ?_
        refine st_p (op_extract rfl rfl) rfl ?_
        refine st_p (op_extract rfl rfl) rfl ?_
        refine st_p (mva rfl) rfl ?_
        refine st_p (mva rfl) rfl ?_
        refine al_nil ?_
        refine nm ?_
        refine aw_seq ?_
        refine aw_region ?_
        refine st_p (op_fieldAddr Try.underlying26 rfl z3 (by decide) rfl) rfl ?_
        refine st_p (op_load1 Try.underlying3 rfl rfl rfl rfl rfl) rfl ?_
        refine st_p (OpP.conv (op_ge rfl rfl) (yes (by first | assumption | omega))) rfl ?_
        refine st_p (mv rfl) rfl ?_
        refine st_pg rfl rfl rfl (op_fieldAddr Try.underlying26 rfl z3 (by decide) rfl) rfl ?_
        refine st_pg rfl rfl rfl (op_load1 Try.underlying3 rfl rfl rfl rfl rfl) rfl ?_
        refine st_pg rfl rfl rfl (OpP.conv (op_le rfl rfl) (yes (by first | assumption | omega))) rfl ?_
        refine st_p (pkT rfl rfl) rfl ?_
        refine st_p (mv rfl) rfl ?_
        refine st_pg rfl rfl rfl (op_fieldAddr Try.underlying26 rfl z3 (by decide) rfl) rfl ?_
        refine st_pg rfl rfl rfl (op_load1 Try.underlying3 rfl rfl rfl rfl rfl) rfl ?_
        refine st_pg rfl rfl rfl (OpP.conv (op_ge rfl rfl) (no (by first | assumption | omega))) rfl ?_
        refine st_p (pkT rfl rfl) rfl ?_
        refine st_p (mv rfl) rfl ?_
        refine st_s rfl rfl rfl rfl rfl ?_
        refine st_s rfl rfl rfl rfl rfl ?_
        refine st_s rfl rfl rfl rfl rfl ?_
        refine st_p (pkF rfl rfl) rfl ?_
        refine st_p (mv rfl) rfl ?_
        refine st_s rfl rfl rfl rfl rfl ?_
        refine st_s rfl rfl rfl rfl rfl ?_
        refine st_s rfl rfl rfl rfl rfl ?_
        refine st_p (pkF rfl rfl) rfl ?_
        refine st_p (mv rfl) rfl ?_
        refine st_s rfl rfl rfl rfl rfl ?_
        -- STOP: call diwan/key.Rising(t34) -> 35
        refine st_s rfl rfl rfl rfl rfl ?_
        refine st_p (pkF rfl rfl) rfl ?_
        refine st_p (mv rfl) rfl ?_
        refine st_s rfl rfl rfl rfl rfl ?_
        refine st_s rfl rfl rfl rfl rfl ?_
        refine st_s rfl rfl rfl rfl rfl ?_
        refine st_p (pkF rfl rfl) rfl ?_
        refine st_p (mv rfl) rfl ?_
        refine st_s rfl rfl rfl rfl rfl ?_
        -- STOP: call diwan/key.Rising(t43) -> 44
        refine st_s rfl rfl rfl rfl rfl ?_
        refine st_p (pkF rfl rfl) rfl ?_
        refine st_p (mv rfl) rfl ?_
        refine st_s rfl rfl rfl rfl rfl ?_
        refine st_s rfl rfl rfl rfl rfl ?_
        -- STOP: call slices.ContainsFunc[[]diwan/api.Read,diwan/api.Read](t48, ('app', 'Operand.func', [79])) -> 49
        refine st_s rfl rfl rfl rfl rfl ?_
        refine st_s rfl rfl rfl rfl rfl ?_
        refine st_p (pkF rfl rfl) rfl ?_
        refine st_p (mv rfl) rfl ?_
        refine st_s rfl rfl rfl rfl rfl ?_
        refine st_s rfl rfl rfl rfl rfl ?_
        -- STOP: call slices.ContainsFunc[[]diwan/api.Write,diwan/api.Write](t54, ('app', 'Operand.func', [82])) -> 55
        refine st_s rfl rfl rfl rfl rfl ?_
        refine st_s rfl rfl rfl rfl rfl ?_
        refine st_p (pkF rfl rfl) rfl ?_
        refine st_p (mva rfl) rfl ?_
        refine al_nil ?_
        refine nm ?_
        refine aw_ret ?_
        exact ret_a ⟨[(2, .bool false)], [], 0⟩ (le_to [] rfl rfl rfl rfl rfl ⟨rfl, trivial⟩ trivial) (res1 Try.results23) (.inr ⟨rfl, rfl⟩) ⟨by simp [mayTxB, tget, c0, c1, c2], rfl, rfl⟩
    · skip
      refine ac_fn Try.func23 rfl rfl rfl rfl (fun w0 S0 r0 => ?_)
      refine aw_seq ?_
      refine aw_region ?_
      refine st_o (bx rfl rfl) rfl ?_
      refine st_p (mva rfl) rfl ?_
      refine al_nil ?_
      refine nm ?_
      refine aw_seq ?_
      refine aw_region ?_
      refine st_p (op_loadA Try.underlying26 rfl z26 rfl rfl rfl rfl) rfl ?_
      -- STOP: call diwan/txn.keys(t6) -> 7
      refine st_call0 (hkeys) Try.func76 ⟨rfl, rfl⟩ rfl (.cons (.same (by rfl)) .nil) rfl ?_
      rintro _ _ _ ⟨rfl, rfl, rfl⟩ r2 h2 n2 hr hh hn
      simp only [AV.ren, rens, Blk.ren, swp, List.map_cons, List.map_nil, List.cons_append, List.nil_append, List.append_nil, Nat.not_lt_zero, if_false, Nat.reduceAdd, Nat.zero_add, Nat.add_zero, ren_bl] at hr hh hn
      subst hr hh hn
      refine st_p (mv rfl) rfl ?_
      refine st_p (op_extract rfl rfl) rfl ?_
      refine st_p (op_extract rfl rfl) rfl ?_
      refine st_p (mva rfl) rfl ?_
      refine st_p (mva rfl) rfl ?_
      refine al_nil ?_
      refine nm ?_
      refine aw_seq ?_
      refine aw_region ?_
      refine st_p (op_fieldAddr Try.underlying26 rfl z3 (by decide) rfl) rfl ?_
      refine st_p (op_load1 Try.underlying3 rfl rfl rfl rfl rfl) rfl ?_
      refine st_p (OpP.conv (op_ge rfl rfl) (yes (by first | assumption | omega))) rfl ?_
      refine st_p (mv rfl) rfl ?_
      refine st_pg rfl rfl rfl (op_fieldAddr Try.underlying26 rfl z3 (by decide) rfl) rfl ?_
      refine st_pg rfl rfl rfl (op_load1 Try.underlying3 rfl rfl rfl rfl rfl) rfl ?_
      refine st_pg rfl rfl rfl (OpP.conv (op_le rfl rfl) (no (by first | assumption | omega))) rfl ?_
      refine st_p (pkT rfl rfl) rfl ?_
      refine st_p (mv rfl) rfl ?_
      refine st_s rfl rfl rfl rfl rfl ?_
      refine st_s rfl rfl rfl rfl rfl ?_
      refine st_s rfl rfl rfl rfl rfl ?_
      refine st_p (pkF rfl rfl) rfl ?_
      refine st_p (mv rfl) rfl ?_
      refine st_s rfl rfl rfl rfl rfl ?_
      refine st_s rfl rfl rfl rfl rfl ?_
      refine st_s rfl rfl rfl rfl rfl ?_
      refine st_p (pkF rfl rfl) rfl ?_
      refine st_p (mv rfl) rfl ?_
      refine st_s rfl rfl rfl rfl rfl ?_
      refine st_s rfl rfl rfl rfl rfl ?_
      refine st_s rfl rfl rfl rfl rfl ?_
      refine st_p (pkF rfl rfl) rfl ?_
      refine st_p (mv rfl) rfl ?_
      refine st_s rfl rfl rfl rfl rfl ?_
      -- STOP: call diwan/key.Rising(t34) -> 35
      refine st_s rfl rfl rfl rfl rfl ?_
      refine st_p (pkF rfl rfl) rfl ?_
      refine st_p (mv rfl) rfl ?_
      refine st_s rfl rfl rfl rfl rfl ?_
      refine st_s rfl rfl rfl rfl rfl ?_
      refine st_s rfl rfl rfl rfl rfl ?_
      refine st_p (pkF rfl rfl) rfl ?_
      refine st_p (mv rfl) rfl ?_
      refine st_s rfl rfl rfl rfl rfl ?_
      -- STOP: call diwan/key.Rising(t43) -> 44
      refine st_s rfl rfl rfl rfl rfl ?_
      refine st_p (pkF rfl rfl) rfl ?_
      refine st_p (mv rfl) rfl ?_
      refine st_s rfl rfl rfl rfl rfl ?_
      refine st_s rfl rfl rfl rfl rfl ?_
      -- STOP: call slices.ContainsFunc[[]diwan/api.Read,diwan/api.Read](t48, ('app', 'Operand.func', [79])) -> 49
      refine st_s rfl rfl rfl rfl rfl ?_
      refine st_s rfl rfl rfl rfl rfl ?_
      refine st_p (pkF rfl rfl) rfl ?_
      refine st_p (mv rfl) rfl ?_
      refine st_s rfl rfl rfl rfl rfl ?_
      refine st_s rfl rfl rfl rfl rfl ?_
      -- STOP: call slices.ContainsFunc[[]diwan/api.Write,diwan/api.Write](t54, ('app', 'Operand.func', [82])) -> 55
      refine st_s rfl rfl rfl rfl rfl ?_
      refine st_s rfl rfl rfl rfl rfl ?_
      refine st_p (pkF rfl rfl) rfl ?_
      refine st_p (mva rfl) rfl ?_
      refine al_nil ?_
      refine nm ?_
      refine aw_ret ?_
      exact ret_a ⟨[(2, .bool false)], [], 0⟩ (le_to [] rfl rfl rfl rfl rfl ⟨rfl, trivial⟩ trivial) (res1 Try.results23) (.inr ⟨rfl, rfl⟩) ⟨by simp [mayTxB, tget, c0, c1], rfl, rfl⟩
  · skip
    refine ac_fn Try.func23 rfl rfl rfl rfl (fun w0 S0 r0 => ?_)
    refine aw_seq ?_
    refine aw_region ?_
    refine st_o (bx rfl rfl) rfl ?_
    refine st_p (mva rfl) rfl ?_
    refine al_nil ?_
    refine nm ?_
    refine aw_seq ?_
    refine aw_region ?_
    refine st_p (op_loadA Try.underlying26 rfl z26 rfl rfl rfl rfl) rfl ?_
    -- STOP: call diwan/txn.keys(t6) -> 7
    refine st_call0 (hkeys) Try.func76 ⟨rfl, rfl⟩ rfl (.cons (.same (by rfl)) .nil) rfl ?_
    rintro _ _ _ ⟨rfl, rfl, rfl⟩ r2 h2 n2 hr hh hn
    simp only [AV.ren, rens, Blk.ren, swp, List.map_cons, List.map_nil, List.cons_append, List.nil_append, List.append_nil, Nat.not_lt_zero, if_false, Nat.reduceAdd, Nat.zero_add, Nat.add_zero, ren_bl] at hr hh hn
    subst hr hh hn
    refine st_p (mv rfl) rfl ?_
    refine st_p (op_extract rfl rfl) rfl ?_
    refine st_p (op_extract rfl rfl) rfl ?_
    refine st_p (mva rfl) rfl ?_
    refine st_p (mva rfl) rfl ?_
    refine al_nil ?_
    refine nm ?_
    refine aw_seq ?_
    refine aw_region ?_
    refine st_p (op_fieldAddr Try.underlying26 rfl z3 (by decide) rfl) rfl ?_
    refine st_p (op_load1 Try.underlying3 rfl rfl rfl rfl rfl) rfl ?_
    refine st_p (OpP.conv (op_ge rfl rfl) (no (by first | assumption | omega))) rfl ?_
    refine st_p (mv rfl) rfl ?_
    refine st_s rfl rfl rfl rfl rfl ?_
    refine st_s rfl rfl rfl rfl rfl ?_
    refine st_s rfl rfl rfl rfl rfl ?_
    refine st_p (pkF rfl rfl) rfl ?_
    refine st_p (mv rfl) rfl ?_
    refine st_s rfl rfl rfl rfl rfl ?_
    refine st_s rfl rfl rfl rfl rfl ?_
    refine st_s rfl rfl rfl rfl rfl ?_
    refine st_p (pkF rfl rfl) rfl ?_
    refine st_p (mv rfl) rfl ?_
    refine st_s rfl rfl rfl rfl rfl ?_
    refine st_s rfl rfl rfl rfl rfl ?_
    refine st_s rfl rfl rfl rfl rfl ?_
    refine st_p (pkF rfl rfl) rfl ?_
    refine st_p (mv rfl) rfl ?_
    refine st_s rfl rfl rfl rfl rfl ?_
    refine st_s rfl rfl rfl rfl rfl ?_
    refine st_s rfl rfl rfl rfl rfl ?_
    refine st_p (pkF rfl rfl) rfl ?_
    refine st_p (mv rfl) rfl ?_
    refine st_s rfl rfl rfl rfl rfl ?_
    -- STOP: call diwan/key.Rising(t34) -> 35
    refine st_s rfl rfl rfl rfl rfl ?_
    refine st_p (pkF rfl rfl) rfl ?_
    refine st_p (mv rfl) rfl ?_
    refine st_s rfl rfl rfl rfl rfl ?_
    refine st_s rfl rfl rfl rfl rfl ?_
    refine st_s rfl rfl rfl rfl rfl ?_
    refine st_p (pkF rfl rfl) rfl ?_
    refine st_p (mv rfl) rfl ?_
    refine st_s rfl rfl rfl rfl rfl ?_
    -- STOP: call diwan/key.Rising(t43) -> 44
    refine st_s rfl rfl rfl rfl rfl ?_
    refine st_p (pkF rfl rfl) rfl ?_
    refine st_p (mv rfl) rfl ?_
    refine st_s rfl rfl rfl rfl rfl ?_
    refine st_s rfl rfl rfl rfl rfl ?_
    -- STOP: call slices.ContainsFunc[[]diwan/api.Read,diwan/api.Read](t48, ('app', 'Operand.func', [79])) -> 49
    refine st_s rfl rfl rfl rfl rfl ?_
    refine st_s rfl rfl rfl rfl rfl ?_
    refine st_p (pkF rfl rfl) rfl ?_
    refine st_p (mv rfl) rfl ?_
    refine st_s rfl rfl rfl rfl rfl ?_
    refine st_s rfl rfl rfl rfl rfl ?_
    -- STOP: call slices.ContainsFunc[[]diwan/api.Write,diwan/api.Write](t54, ('app', 'Operand.func', [82])) -> 55
    refine st_s rfl rfl rfl rfl rfl ?_
    refine st_s rfl rfl rfl rfl rfl ?_
    refine st_p (pkF rfl rfl) rfl ?_
    refine st_p (mva rfl) rfl ?_
    refine al_nil ?_
    refine nm ?_
    refine aw_ret ?_
    exact ret_a ⟨[(2, .bool false)], [], 0⟩ (le_to [] rfl rfl rfl rfl rfl ⟨rfl, trivial⟩ trivial) (res1 Try.results23) (.inr ⟨rfl, rfl⟩) ⟨by simp [mayTxB, tget, c0], rfl, rfl⟩

end Go.Proofs.Ytloddmbbfkejcaa.Abs
end
section
/-
  Transactions as bytes: flags.
-/
namespace Go.Proofs.Ytloddmbbfkejcaa.Abs

def flagN (b : Bool) : UInt8 := if b then 1 else 0

theorem txn_flag (b : Bool) : AC Try.prog 88 [.bool b] [] 0 false (fun v h nx => v = .int .u8 ((flagN b).toNat : Int) ∧ h = [] ∧ nx = 0) := by
  cases b
  · skip
    refine ac_fn Try.func88 rfl rfl rfl rfl (fun w0 S0 r0 => ?_)
    refine aw_seq ?_
    refine aw_region ?_
    refine st_p (mva rfl) rfl ?_
    refine al_nil ?_
    refine nm ?_
    refine aw_seq ?_
    refine aw_seq ?_
    refine aw_region ?_
    refine st_p (mv rfl) rfl ?_
    refine al_nil ?_
    refine nm ?_
    -- IF t3
    refine aw_no (rfl) ?_
    refine aw_skip ?_
    refine nm ?_
    refine aw_seq ?_
    refine aw_region ?_
    refine st_p (mva rfl) rfl ?_
    refine al_nil ?_
    refine nm ?_
    refine aw_ret ?_
    exact ret_v (res1 Try.results88) (.inr ⟨rfl, rfl⟩) ⟨rfl, rfl, rfl⟩
  · skip
    refine ac_fn Try.func88 rfl rfl rfl rfl (fun w0 S0 r0 => ?_)
    refine aw_seq ?_
    refine aw_region ?_
    refine st_p (mva rfl) rfl ?_
    refine al_nil ?_
    refine nm ?_
    refine aw_seq ?_
    refine aw_seq ?_
    refine aw_region ?_
    refine st_p (mv rfl) rfl ?_
    refine al_nil ?_
    refine nm ?_
    -- IF t3
    refine aw_yes (rfl) ?_
    refine aw_seq ?_
    refine aw_region ?_
    refine st_p (mva rfl) rfl ?_
    refine al_nil ?_
    refine nm ?_
    refine aw_ret ?_
    refine rs ?_
    exact ret_v (res1 Try.results88) (.inr ⟨rfl, rfl⟩) ⟨rfl, rfl, rfl⟩

end Go.Proofs.Ytloddmbbfkejcaa.Abs
end
section
/-
  What a statement's arguments stand for; a statement's row. It holds of any program.
-/
namespace Go.Proofs.Ytloddmbbfkejcaa.Abs
open Go.RowKit

section
variable {P : Program} {w : World} {t e : TypeId} {α β : Type}

def Old (w : World) : Nat → Prop := fun b => b < w.heap.size

def Sz {H : Type} (P : Program) (t : TypeId) (d : DataW H) : Prop := ∀ n ∈ DataW.weights P t d, n ≤ reachBytes

theorem sz_at {H : Type} {ts : List TypeId} {ds : List (DataW H)} (h : (DataW.weightsEach P ts ds).all (· ≤ reachBytes) = true) {j : Nat} {d : DataW H} (ht : ts[j]? = some t) (hd : ds[j]? = some d) : Sz P t d := fun n hn => by
  have := List.all_eq_true.1 h _ (DataW.weights_mem_each ht hd n hn)
  simpa using this

theorem sz_all {H : Type} {d : DataW H} {n : Nat} (hn : n ∈ DataW.weights P e d) : ∀ {l : List (DataW H)}, d ∈ l → n ∈ DataW.weightsAll P e l := by
  intro l
  induction l with
  | nil => intro h; cases h
  | cons x l ih =>
    intro h
    simp only [DataW.weightsAll, List.mem_append]
    rcases List.mem_cons.1 h with rfl | h
    · exact .inl hn
    · exact .inr (ih h)

/-- Whatever is read at type t stands for some a, as A says. -/
def RdA (P : Program) (w : World) (t : TypeId) (sz : Nat) (A : α → AV) (g : α → Prop) : Prop :=
  ∀ (H : Type) (enc : TypeId × Value → H) (base : Nat) (spare : Nat → Bool) (held : Bool) (fuel : Nat) (cs : List Value) (x : DataW H × List MemPlace), DataW.trod enc P w base spare held fuel t cs = some x → Sz P t x.1 →
    ∃ a, (A a).cells.length = sz ∧ cs.length = sz ∧ (∀ (i : Nat) (y : AV) (u : Value), (A a).cells[i]? = some y → cs[i]? = some u → VR (Old w) w rho0 y u ∧ u.oneCell' = true) ∧ g a

theorem one_cell {x : AV} {v : Value} (hx : x.cells = [x]) (h : VR (Old w) w rho0 x v) (h1 : v.oneCell' = true) : x.cells.length = 1 ∧ [v].length = 1 ∧ ∀ (i : Nat) (y : AV) (u : Value), x.cells[i]? = some y → [v][i]? = some u → VR (Old w) w rho0 y u ∧ u.oneCell' = true := by
  refine ⟨by rw [hx]; rfl, rfl, fun i y u hy hu => ?_⟩
  rw [hx] at hy
  cases i with
  | zero =>
    obtain rfl := Option.some.inj hy
    obtain rfl := Option.some.inj hu
    exact ⟨h, h1⟩
  | succ i => simp at hy

theorem rda_int {k : IntKind} (ht : P.underlying t = some (.int k)) : RdA P w t 1 (AV.int k) (fun n => (Lit.int k n).wf = true) := by
  intro H enc base spare held fuel cs x h hz
  obtain ⟨n, rfl, _, hn⟩ := DataW.trod_int ht h
  obtain ⟨h1, h2, h3⟩ := one_cell (w := w) (x := .int k n) rfl .int rfl
  exact ⟨n, h1, h2, h3, hn⟩
theorem cells_get {base : Nat} {a : Addr} {n : Nat} {cs : List Value} (h : w.cells? base a n = some cs) : cs.length = n ∧ ∀ (i : Nat) (u : Value), cs[i]? = some u → w.cell? (a.add i) = some u := by
  unfold World.cells? at h
  split at h
  · have hl := mapM_some_length h
    rw [List.length_range] at hl
    refine ⟨hl.symm ▸ rfl, fun i u hu => ?_⟩
    have hi : i < n := by
      have := (List.getElem?_eq_some_iff.1 hu).1
      omega
    have := mapM_some_get h i i (by rw [List.getElem?_range hi])
    rw [this]
    exact hu
  · cases h

theorem cell_spot {a : Addr} {u : Value} (h : w.cell? a = some u) : a = ⟨a.block, a.off, none⟩ ∧ a.block < w.heap.size := by
  unfold World.cell? at h
  split at h
  · rename_i c t fr hb
    split at h
    · cases h
    · rename_i hs
      obtain ⟨b, o, sp⟩ := a
      cases sp with
      | none => exact ⟨rfl, (Array.getElem?_eq_some_iff.1 hb).1⟩
      | some x => exact absurd rfl hs
  · cases h

theorem rda_slice {sz : Nat} {A : α → AV} {g : α → Prop} (ht : P.underlying t = some (.slice e)) (hsz : P.cellsOf e = sz) (hpos : 0 < sz) (hby : 0 < P.bytesOf e) (h : RdA P w e sz A g) : RdA P w t 1 (fun l : List α => .sl sz (l.map A)) (fun l => (∀ x ∈ l, g x) ∧ l.length ≤ reachBytes) := by
  intro H enc base spare held fuel cs x hx hz
  rcases Deep.open_slice ht hx with ⟨rfl, _⟩ | ⟨a, len, cap, m, n, D, Pl, rfl, _, hl, hm, hme, hxe, hel⟩
  · obtain ⟨h1, h2, h3⟩ := one_cell (w := w) (x := .sl sz []) rfl .sl0 (v := .slice none 0 0) rfl
    exact ⟨[], h1, h2, h3, (fun x hx => by cases hx), Nat.zero_le _⟩
  · have hlm : len ≤ m := by rw [hme]; split <;> omega
    rcases Nat.eq_zero_or_pos len with h0 | h0
    · subst h0
      obtain ⟨h1, h2, h3⟩ := one_cell (w := w) (x := .sl sz []) rfl .sl0 (v := .slice (some a) 0 cap) rfl
      exact ⟨[], h1, h2, h3, (fun x hx => by cases hx), Nat.zero_le _⟩
    · have key : ∀ i, i < len → ∃ q : α × List Value, w.cells? base (a.add (i * sz)) sz = some q.2 ∧ (A q.1).cells.length = sz ∧ (∀ (j : Nat) (y : AV) (u : Value), (A q.1).cells[j]? = some y → q.2[j]? = some u → VR (Old w) w rho0 y u ∧ u.oneCell' = true) ∧ g q.1 := by
        intro i hi
        obtain ⟨cs', hc, ht'⟩ := hel i (by omega)
        rw [hsz] at hc
        obtain ⟨y, h1, h2, h3, h4⟩ := h H enc base spare held n cs' _ ht' (fun q hq => hz q (by
          rw [hxe]
          simp only [DataW.weights, ht, List.mem_cons, List.mem_append]
          exact .inr (.inl (sz_all hq (List.mem_map.2 ⟨i, List.mem_range.2 hi, rfl⟩)))))
        exact ⟨(y, cs'), hc, h1, h3, h4⟩
      obtain ⟨q0, _⟩ := key 0 h0
      haveI : Inhabited (α × List Value) := ⟨q0⟩
      obtain ⟨f, hf⟩ := Deep.choose_lt key
      let xs : List α := (List.range len).map fun i => (f i).1
      let vs : List Value := (List.range len).flatMap fun i => (f i).2
      have hfl : ∀ i, i < len → (f i).2.length = sz := fun i hi => (cells_get (hf i hi).1).1
      have hvl : ∀ n, n ≤ len → ((List.range n).flatMap fun i => (f i).2).length = n * sz := by
        intro n
        induction n with
        | zero => intro _; simp
        | succ n ih => intro hn; rw [List.range_succ, List.flatMap_append, List.length_append, ih (by omega), Nat.add_mul, Nat.one_mul]; simp [hfl n (by omega)]
      have hget : ∀ n, n ≤ len → ∀ (j : Nat) (u : Value), ((List.range n).flatMap fun i => (f i).2)[j]? = some u → j / sz < n ∧ (f (j / sz)).2[j % sz]? = some u := by
        intro n
        induction n with
        | zero => intro _ j u hu; simp at hu
        | succ n ih =>
          intro hn j u hu
          rw [List.range_succ, List.flatMap_append] at hu
          rcases Nat.lt_or_ge j (n * sz) with hlt | hge
          · rw [List.getElem?_append_left (by rw [hvl n (by omega)]; exact hlt)] at hu
            obtain ⟨h1, h2⟩ := ih (by omega) j u hu
            exact ⟨by omega, h2⟩
          · rw [List.getElem?_append_right (by rw [hvl n (by omega)]; exact hge), hvl n (by omega)] at hu
            simp only [List.flatMap_cons, List.flatMap_nil, List.append_nil] at hu
            have hj : j - n * sz < sz := by
              have := (List.getElem?_eq_some_iff.1 hu).1
              rwa [hfl n (by omega)] at this
            have hj' : j = n * sz + (j - n * sz) := by omega
            have e1 : j / sz = n := by
              obtain ⟨r, hr⟩ : ∃ r, r = j - n * sz := ⟨_, rfl⟩
              rw [← hr] at hj hj'
              rw [hj', Nat.mul_comm n sz, Nat.mul_add_div hpos, Nat.div_eq_of_lt hj]; rfl
            have e2 : j % sz = j - n * sz := by
              have := Nat.div_add_mod j sz
              rw [e1, Nat.mul_comm] at this
              omega
            rw [e1, e2]
            exact ⟨Nat.lt_succ_self n, hu⟩
      have hcell : ∀ (j : Nat) (u : Value), vs[j]? = some u → w.cell? (a.add j) = some u ∧ ∃ y, (flat (xs.map A))[j]? = some y ∧ VR (Old w) w rho0 y u ∧ u.oneCell' = true := by
        intro j u hu
        obtain ⟨h1, h2⟩ := hget len (Nat.le_refl _) j u hu
        obtain ⟨k1, k2, k3, k4⟩ := hf (j / sz) h1
        have hc := (cells_get k1).2 _ _ h2
        rw [Deep.add_add, Nat.mul_comm, Nat.div_add_mod] at hc
        refine ⟨hc, ?_⟩
        have hx : (xs.map A)[j / sz]? = some (A (f (j / sz)).1) := by
          show (((List.range len).map fun i => (f i).1).map A)[j / sz]? = _
          rw [List.getElem?_map, List.getElem?_map, List.getElem?_range h1]; rfl
        have hall : ∀ x ∈ xs.map A, x.cells.length = sz := by
          intro x hx
          obtain ⟨y, hy, rfl⟩ := List.mem_map.1 hx
          obtain ⟨i, hi, rfl⟩ := List.mem_map.1 hy
          exact (hf i (List.mem_range.1 hi)).2.1
        have hfa := flat_at hall hx (r := j % sz) (Nat.mod_lt _ hpos)
        rw [Nat.mul_comm, Nat.div_add_mod] at hfa
        obtain ⟨y, hy⟩ : ∃ y, (A (f (j / sz)).1).cells[j % sz]? = some y := ⟨_, List.getElem?_eq_getElem (by rw [k2]; exact Nat.mod_lt _ hpos)⟩
        exact ⟨y, by rw [hfa]; exact hy, k3 _ _ _ hy h2⟩
      have hxl : (xs.map A).length = len := by simp [xs]
      have hall : ∀ x ∈ xs.map A, x.cells.length = sz := by
        intro x hx
        obtain ⟨y, hy, rfl⟩ := List.mem_map.1 hx
        obtain ⟨i, hi, rfl⟩ := List.mem_map.1 hy
        exact (hf i (List.mem_range.1 hi)).2.1
      have hvlen : vs.length = len * sz := hvl len (Nat.le_refl _)
      obtain ⟨u0, hu0⟩ : ∃ u, vs[0]? = some u := ⟨_, List.getElem?_eq_getElem (by rw [hvlen]; exact Nat.mul_pos h0 hpos)⟩
      have ha0 := (hcell 0 u0 hu0).1
      obtain ⟨hs1, hs2⟩ := cell_spot ha0
      have haspot : a = ⟨a.block, a.off, none⟩ := by
        have hsp : a.spot = none := by have := congrArg Addr.spot hs1; simpa [Addr.add] using this
        generalize a = z at hsp
        obtain ⟨b, o, sp⟩ := z
        simp only at hsp
        rw [hsp]
      have hblk : a.block < w.heap.size := hs2
      have hvr : VR (Old w) w rho0 (.sl sz (xs.map A)) (.slice (some a) len cap) := by
        have := @VR.sl (Old w) w rho0 sz (xs.map A) a.block a.off cap vs hblk (by rw [flat_len hall, hxl, hvlen]) hall (by rw [hxl]; exact hl) (fun i u hu => ?_) (fun i y u hy hu => ?_)
        · rw [hxl, ← haspot] at this
          exact this
        · obtain ⟨h1, y, _, _, h2⟩ := hcell i u hu
          rw [haspot, Addr.add_lit] at h1
          exact ⟨h1, h2⟩
        · obtain ⟨_, y', h1, h2, _⟩ := hcell i u hu
          rw [hy] at h1
          obtain rfl := Option.some.inj h1
          exact h2
      obtain ⟨h1, h2, h3⟩ := one_cell (w := w) (x := .sl sz (xs.map A)) rfl hvr rfl
      exact ⟨xs, h1, h2, h3, (fun x hx => by
        obtain ⟨i, hi, rfl⟩ := List.mem_map.1 hx
        exact (hf i (List.mem_range.1 hi)).2.2.2), by
        simp only [xs, List.length_map, List.length_range]
        have := hz (((List.range len).map D).length + ((List.range (m - len)).map fun j => D (len + j)).length |> (· * P.bytesOf e)) (by
          rw [hxe]
          simp only [DataW.weights, ht]
          exact List.mem_cons_self)
        simp only [List.length_map, List.length_range] at this
        have h2 : len ≤ (len + (m - len)) * P.bytesOf e := Nat.le_trans (by omega) (Nat.le_mul_of_pos_right _ hby)
        omega⟩

theorem rda_conv {sz : Nat} {A : α → AV} {B : β → AV} {g : α → Prop} {g' : β → Prop} (f : α → β) (hA : ∀ a, g a → A a = B (f a)) (hg : ∀ a, g a → g' (f a)) (h : RdA P w t sz A g) : RdA P w t sz B g' := by
  intro H enc base spare held fuel cs x hx hz
  obtain ⟨a, h1, h2, h3, h4⟩ := h H enc base spare held fuel cs x hx hz
  have e := hA a h4
  exact ⟨f a, by rw [← e]; exact h1, h2, by rw [← e]; exact h3, hg a h4⟩

theorem rda_bytes (ht : P.underlying t = some (.slice e)) (he : P.underlying e = some (.int .u8)) (hsz : P.cellsOf e = 1) (hby : 0 < P.bytesOf e) : RdA P w t 1 (fun l : List UInt8 => .sl 1 (bl l)) (fun l => l.length ≤ reachBytes) :=
  rda_conv (fun l : List Int => l.map fun n => UInt8.ofNat n.toNat) (fun l hl => by
    have : l.map (AV.int .u8) = bl (l.map fun n => UInt8.ofNat n.toNat) := by
      unfold bl
      rw [List.map_map]
      refine List.map_congr_left fun n hn => ?_
      have h := hl.1 n hn
      have h2 : 0 ≤ n ∧ n < 256 := by
        simp only [Lit.wf, Bool.and_eq_true, decide_eq_true_eq] at h
        have e1 : IntKind.u8.min = 0 := rfl
        have e2 : IntKind.u8.max = 255 := rfl
        omega
      show AV.int .u8 n = AV.int .u8 ((UInt8.ofNat n.toNat).toNat : Int)
      rw [UInt8.toNat_ofNat', Nat.mod_eq_of_lt (by simp; omega), Int.toNat_of_nonneg h2.1]
    rw [this]) (fun l hl => by rw [List.length_map]; exact hl.2) (rda_slice ht hsz (by decide) hby (rda_int he))

/-! ### At the top -/

variable {H : Type} {enc : TypeId × Value → H} {spare : Nat → Bool} {held : Bool} {base b0 sz : Nat} {r : Reach} {v : Value} {d : DataW H} {ps : List MemPlace} {A : α → AV} {g : α → Prop}

theorem top_one (h : RdA P w t 1 A g) (hc : ∀ a, (A a).cells = [A a]) (hv : v.cells = #[v]) (hd : DataW.Trod enc P w base spare held t v d ps) (hz : Sz P t d) : ∃ a, VR (Old w) w rho0 (A a) v ∧ g a := by
  obtain ⟨fuel, hf⟩ := hd
  obtain ⟨a, _, _, h3, h4⟩ := h H enc base spare held fuel _ _ hf hz
  rw [hv] at h3
  exact ⟨a, (h3 0 (A a) v (by rw [hc]; rfl) rfl).1, h4⟩

/-- A statement that comes out true. -/
theorem law_calls {f : FuncId} {args : List AV} {al : Bool} {vals : Array Value} {W : World} (h : AC P f args [] 0 al (fun r _ _ => r = .bool true)) (hv : VRs (Old W) W rho0 args vals) : Calls P f vals W fun e W' => e = .returned (.bool true) ∧ Below W.heap.size W W' := by
  refine (h rho0 (Old W) W vals ⟨fun b B hb => (by cases hb), fun b b' B B' r r' hb => (by cases hb), fun b hb => hb⟩ (fun _ _ => rfl) hv).mono ?_
  rintro e W' ⟨v, r, h', nx', ρ', S', rfl, rfl, hvr, _, _, _, hp⟩
  exact ⟨by rw [hvr.bool_inv], hp.os, hp.tape, hp.output, hp.size, fun k hk => hp.keep k hk (fun ⟨i, B, q, e, _⟩ => by cases e)⟩

theorem vrs_of {S : Nat → Prop} {ρ : Rho} {xs : List AV} {vs : List Value} (h : xs.length = vs.length ∧ ∀ (i : Nat) (x : AV) (u : Value), xs[i]? = some x → vs[i]? = some u → VR S w ρ x u) : VRs S w ρ xs vs.toArray := ⟨by simpa using h.1, fun i x u hx hu => h.2 i x u hx (by simpa using hu)⟩
theorem vrs_cons {S : Nat → Prop} {ρ : Rho} {x : AV} {u : Value} {xs : List AV} {vs : List Value} (h : VR S w ρ x u) (ht : xs.length = vs.length ∧ ∀ (i : Nat) (x : AV) (u : Value), xs[i]? = some x → vs[i]? = some u → VR S w ρ x u) :
    (x :: xs).length = (u :: vs).length ∧ ∀ (i : Nat) (y : AV) (z : Value), (x :: xs)[i]? = some y → (u :: vs)[i]? = some z → VR S w ρ y z := by
  refine ⟨by simp [ht.1], fun i y z hy hz => ?_⟩
  cases i with
  | zero => obtain rfl := Option.some.inj hy; obtain rfl := Option.some.inj hz; exact h
  | succ i => exact ht.2 i y z hy hz
theorem vrs_nil' {S : Nat → Prop} {ρ : Rho} : ([] : List AV).length = ([] : List Value).length ∧ ∀ (i : Nat) (x : AV) (u : Value), ([] : List AV)[i]? = some x → ([] : List Value)[i]? = some u → VR S w ρ x u := ⟨rfl, fun i x u hx => by simp at hx⟩

end
end Go.Proofs.Ytloddmbbfkejcaa.Abs
end
section
/-
  More operations: capacities of nil, parts of nil; blocks of which less is known. It holds of any program.
-/
namespace Go.Proofs.Ytloddmbbfkejcaa.Abs

section
variable {P : Program} {tm : List (Nat × AV)} {h : Heap}

theorem op_capN {x : Operand} {t el : TypeId} (hu : P.underlying t = some (.slice el)) (hx : oev tm x = .nils) : OpP P (.call { callee := .builtin .cap, args := #[x], argTypes := #[t] }) tm h (.int .i64 0) := fun c n nx ρ S a w hr =>
  ⟨.int .i64 0, fun o ho => by
    have hv := ev_vr hr hx
    generalize he : a.eval x = v at hv
    cases hv with
    | nils => unfold execOp; rw [ho]; simp [resolve, invoke, builtin, he, Builtin.cap_, run_underlying hu, goInt], .int⟩

/-- Nothing of nil is nil. -/
theorem op_sliceN {t e : TypeId} {x hi : Operand} {sz : Nat} {k : IntKind} (hu : P.underlying t = some (.slice e)) (hz : (P.info? e).map (·.size) = some sz) (hx : oev tm x = .nils) (h1 : oev tm hi = .int k 0) : OpP P (.slice t x none (some hi) none) tm h .nils := fun c n nx ρ S a w hr =>
  ⟨.slice none 0 0, fun o ho => by
    have hv := ev_vr hr hx
    have hi' := ev_int hr h1
    generalize he : a.eval x = v at hv
    cases hv with
    | nils => unfold execOp; rw [ho]; simp [Instr.sliceAt, Instr.slice, run_underlying hu, Instr.sliceBounds, Instr.sliceBound, asIntOf, run_sizeOf hz, he, hi'], .nils⟩

theorem run_app_zeros {t ti ty e : TypeId} {k kx : IntKind} {i : TypeInfo} {z : Value} (ht : P.underlying t = some (.slice e)) (hti : P.underlying ti = some (.int k)) (hi : P.info? e = some i) (hz : i.zero = some z) {w : World} {m : Nat} (hm : 0 < m) (hs : 0 < i.size)
    (hb : m * i.bytes ≤ 140737488355328) (h63 : m ≤ 140737488355328) :
    (Builtin.append_ #[t, ti] ty #[.slice none 0 0, .int kx (m : Int)]).run P w =
      .ok (.slice (some ⟨w.heap.size, 0, none⟩) m (grownCap w m 0 e)) (w.drew.alloc (.cells (Builtin.zeroCells z.cells m ++ Builtin.zeroCells z.cells (grownCap w m 0 e - m)) e)) := by
  have hw : IntKind.i64.wrap (m : Int) = m := Abs.wrap_i64 (by omega) (by omega)
  have h1 : ¬ (m = 0) := by omega
  have h2 : ¬ ((m : Int) < 0) := by omega
  have h3 : ¬ (281474976710656 < (m : Int) * (i.bytes : Int)) := by
    have : ((m * i.bytes : Nat) : Int) ≤ 140737488355328 := by omega
    rw [Int.natCast_mul] at this
    omega
  have h4 : ¬ (m * i.size = 0) := by
    have := Nat.mul_pos hm hs
    omega
  have h5 : ¬ (9223372036854775807 < (m : Int)) := by omega
  have h6 : Builtin.nextslicecap m 0 = m := by unfold Builtin.nextslicecap; rw [if_pos (by omega)]
  have h7 : ¬ (281474976710656 < m * i.bytes) := by omega
  simp [Builtin.append_, run_underlying ht, run_underlying hti, sizeOf, typeInfo, zeroValue, hi, hz, hw, h1, h2, h3, h4, h5, h6, h7, Question.forced, newRow, grownCap, Builtin.firstCells, asInt, asIntOf]

/-- 'append(nil, make([]T, m)...)': a row of one's own, of whose elements nothing is told. -/
theorem op_appZ {tm : List (Nat × AV)} {h : Heap} {nx : Nat} {t ti e : TypeId} {k kx : IntKind} {z : Value} {sz bytes : Nat} {x y : Operand} {m : Nat} (ht : P.underlying t = some (.slice e)) (hti : P.underlying ti = some (.int k))
    (hi : (P.info? e).map (fun i => (i.zero, i.size, i.bytes)) = some (some z, sz, bytes)) (hzs : z.cells.size = sz ∧ ∀ (i : Nat) (u : Value), z.cells[i]? = some u → u.oneCell' = true) (hs : 0 < sz) (hx : oev tm x = .nils) (hy : oev tm y = .int kx (m : Int)) (hm : 0 < m)
    (hb : m * bytes ≤ 140737488355328) (h63 : m ≤ 140737488355328) : OpOK P (.call { callee := .builtin .append, args := #[x, y], argTypes := #[t, ti] }) ⟨tm, h, nx⟩ (.own nx 0 m) ((nx, .cells sz []) :: h) (nx + 1) := OpOK.of fun c n ρ S a w hr => by
  obtain ⟨i, e1, e2⟩ := Option.map_eq_some_iff.1 hi
  obtain ⟨e3, e4, e5⟩ : i.zero = some z ∧ i.size = sz ∧ i.bytes = bytes := by
    have := e2; simp only [Prod.mk.injEq] at this; exact this
  have hxv : a.eval x = .slice none 0 0 := by
    have hv := ev_vr hr hx
    generalize a.eval x = v at hv
    cases hv; rfl
  have hyv := ev_int hr hy
  have hrun := run_app_zeros (P := P) (ty := 0) (kx := kx) (m := m) (w := w) ht hti e1 e3 hm (by rw [e4]; exact hs) (by rw [e5]; exact hb) h63
  have hge : m ≤ grownCap w m 0 e := grownCap_ge _ _ _ _
  refine ⟨_, .slice (some ⟨w.heap.size, 0, none⟩) m (grownCap w m 0 e), _, _, S, fun o ho => ?_, .inl rfl,
    hr.newBlk (Same.drew w) (Builtin.zeroCells z.cells m ++ Builtin.zeroCells z.cells (grownCap w m 0 e - m)) e (grownCap w m 0 e) sz [] (fun x hx => by cases hx) (Nat.zero_le _) (grownCap_le_maxLen _ _ _ _ (by unfold maxLen; omega)) (by
      rw [Array.size_append, size_zeroCells, size_zeroCells, hzs.1, ← Nat.add_mul]; congr 1; omega) (fun j u hu => ?_) (fun j x u hx => by simp [flat] at hx) (fun _ _ h => h), .own_at0 (upd_self _ _ _) hge (Nat.le_refl _), upd_ext hr _, alloc_ext hr (Same.drew w) _⟩
  · unfold execOp; rw [ho]
    simp only [resolve, invoke, builtin, Sem.run_bind, Sem.run_pure, Result.andThen_ok, List.map_toArray, List.map_cons, List.map_nil, hxv, hyv]
    have : Builtin.append_ #[t, ti] o.type #[Value.slice none 0 0, Value.int kx (m : Int)] = Builtin.append_ #[t, ti] 0 #[Value.slice none 0 0, Value.int kx (m : Int)] := rfl
    rw [this, hrun]
    rfl
  · rw [Array.getElem?_append] at hu
    split at hu
    · exact zeroCells_one hzs.2 hu
    · exact zeroCells_one hzs.2 hu

theorem op_appZi {tm : List (Nat × AV)} {h : Heap} {nx : Nat} {t ti e : TypeId} {k kx : IntKind} {z : Value} {sz bytes : Nat} {x y : Operand} {q : Int} (ht : P.underlying t = some (.slice e)) (hti : P.underlying ti = some (.int k))
    (hi : (P.info? e).map (fun i => (i.zero, i.size, i.bytes)) = some (some z, sz, bytes)) (hzs : z.cells.size = sz ∧ ∀ (i : Nat) (u : Value), z.cells[i]? = some u → u.oneCell' = true) (hs : 0 < sz) (hx : oev tm x = .nils) (hy : oev tm y = .int kx q) (hm : 0 < q)
    (hb : q * bytes ≤ 140737488355328) (h63 : q ≤ 140737488355328) : OpOK P (.call { callee := .builtin .append, args := #[x, y], argTypes := #[t, ti] }) ⟨tm, h, nx⟩ (.own nx 0 q.toNat) ((nx, .cells sz []) :: h) (nx + 1) := by
  obtain ⟨m, rfl⟩ : ∃ m : Nat, q = m := ⟨q.toNat, by omega⟩
  rw [Int.toNat_natCast]
  exact op_appZ ht hti hi hzs hs hx hy (by omega) (by
    have : ((m * bytes : Nat) : Int) ≤ 140737488355328 := by rw [Int.natCast_mul]; exact hb
    omega) (by omega)

end

end Go.Proofs.Ytloddmbbfkejcaa.Abs
end
section
/-
  slices.Grow of nothing, slices.Concat of bytes.
-/
namespace Go.Proofs.Ytloddmbbfkejcaa.Abs

theorem grow_bytes (m : Nat) (hm : 0 < m) (hb : m ≤ 140737488355328) : AC Try.prog 141 [.nils, .int .i64 (m : Int)] [] 0 false (fun v h nx => v = .own 0 0 0 ∧ h = [(0, .cells 1 [])] ∧ nx = 1) := by
  refine ac_fn Try.func141 rfl rfl rfl rfl (fun w0 S0 r0 => ?_)
  refine aw_seq ?_
  refine aw_region ?_
  refine st_p (mva rfl) rfl ?_
  refine al_nil ?_
  refine nm ?_
  refine aw_seq ?_
  refine aw_seq ?_
  refine aw_region ?_
  refine st_p (mv rfl) rfl ?_
  refine st_p (OpP.conv (op_lt rfl rfl) (no (by first | assumption | omega))) rfl ?_
  refine al_nil ?_
  refine nm ?_
  -- IF t6
  refine aw_no (rfl) ?_
  refine aw_skip ?_
  refine nm ?_
  refine aw_seq ?_
  refine aw_seq ?_
  refine aw_region ?_
  refine st_p (mv rfl) rfl ?_
  refine st_p (mv rfl) rfl ?_
  refine st_p (op_capN Try.underlying22 rfl) rfl ?_
  refine st_p (mv rfl) rfl ?_
  refine st_p (op_lenn Try.underlying22 rfl) rfl ?_
  refine st_p (op_subi rfl rfl (by omega)) rfl ?_
  refine st_p (op_subi rfl rfl (by omega)) rfl ?_
  refine st_p (mva rfl) rfl ?_
  refine al_nil ?_
  refine nm ?_
  refine aw_seq ?_
  refine aw_region ?_
  refine st_p (mv rfl) rfl ?_
  refine st_p (OpP.conv (op_gt rfl rfl) (yes (by first | assumption | omega))) rfl ?_
  refine al_nil ?_
  refine nm ?_
  -- IF t16
  -- IF t16
  refine aw_yes (rfl) ?_
  refine aw_region ?_
  refine st_p (mv rfl) rfl ?_
  refine st_p (mv rfl) rfl ?_
  refine st_p (op_capN Try.underlying22 rfl) rfl ?_
  refine st_p (op_sliceN Try.underlying22 z5 rfl rfl) rfl ?_
  refine st_p (mv rfl) rfl ?_
  refine st_o (op_appZi Try.underlying22 Try.underlying3 i5 o5 (by decide) rfl rfl (by omega) (by omega) (by omega)) rfl ?_
  refine st_p (mv rfl) rfl ?_
  refine st_p (op_lenn Try.underlying22 rfl) rfl ?_
  refine st_p (op_slice Try.underlying22 z5 rfl rfl (by exact rfl) (by exact ⟨_, rfl⟩) (by first | omega | (simp only [bl_len, List.length_map, List.length_append, List.length_take, List.length_drop]; omega)) (by first | omega | (simp only [bl_len, List.length_map, List.length_append, List.length_take, List.length_drop]; omega)) (by first | omega | (simp only [bl_len, List.length_map, List.length_append, List.length_take, List.length_drop]; omega))) rfl ?_
  refine st_p (mva rfl) rfl ?_
  refine al_nil ?_
  refine nm ?_
  refine aw_seq ?_
  refine aw_region ?_
  refine st_p (mv rfl) rfl ?_
  refine st_p (mva rfl) rfl ?_
  refine al_nil ?_
  refine nm ?_
  refine aw_ret ?_
  exact ret_a ⟨[(4, .own 0 0 0)], [(0, .cells 1 [])], 1⟩ (le_to [(0, 0)] rfl rfl rfl rfl rfl ⟨rfl, trivial⟩ ⟨rfl, trivial⟩) (res1 Try.results141) (.inr ⟨rfl, rfl⟩) ⟨rfl, rfl, rfl⟩

theorem grow_none : AC Try.prog 141 [.nils, .int .i64 0] [] 0 false (fun v h nx => v = .nils ∧ h = [] ∧ nx = 0) := by
  refine ac_fn Try.func141 rfl rfl rfl rfl (fun w0 S0 r0 => ?_)
  refine aw_seq ?_
  refine aw_region ?_
  refine st_p (mva rfl) rfl ?_
  refine al_nil ?_
  refine nm ?_
  refine aw_seq ?_
  refine aw_seq ?_
  refine aw_region ?_
  refine st_p (mv rfl) rfl ?_
  refine st_p (OpP.conv (op_lt rfl rfl) (no (by first | assumption | omega))) rfl ?_
  refine al_nil ?_
  refine nm ?_
  -- IF t6
  refine aw_no (rfl) ?_
  refine aw_skip ?_
  refine nm ?_
  refine aw_seq ?_
  refine aw_seq ?_
  refine aw_region ?_
  refine st_p (mv rfl) rfl ?_
  refine st_p (mv rfl) rfl ?_
  refine st_p (op_capN Try.underlying22 rfl) rfl ?_
  refine st_p (mv rfl) rfl ?_
  refine st_p (op_lenn Try.underlying22 rfl) rfl ?_
  refine st_p (op_subi rfl rfl (by omega)) rfl ?_
  refine st_p (op_subi rfl rfl (by omega)) rfl ?_
  refine st_p (mva rfl) rfl ?_
  refine al_nil ?_
  refine nm ?_
  refine aw_seq ?_
  refine aw_region ?_
  refine st_p (mv rfl) rfl ?_
  refine st_p (OpP.conv (op_gt rfl rfl) (no (by first | assumption | omega))) rfl ?_
  refine al_nil ?_
  refine nm ?_
  -- IF t16
  -- IF t16
  refine aw_no (rfl) ?_
  refine aw_skip ?_
  refine nm ?_
  refine aw_seq ?_
  refine aw_region ?_
  refine st_p (mv rfl) rfl ?_
  refine st_p (mva rfl) rfl ?_
  refine al_nil ?_
  refine nm ?_
  refine aw_ret ?_
  exact ret_v (res1 Try.results141) (.inr ⟨rfl, rfl⟩) ⟨rfl, rfl, rfl⟩

theorem concat_bytes (ll : List (List UInt8)) (hl : ll.length ≤ 1000000) (ht : ll.flatten.length ≤ 1000000) : AC Try.prog 85 [.sl 1 (ll.map fun l => .sl 1 (bl l))] [] 0 false (fun v h nx => v = .own 0 0 ll.flatten.length ∧ h = [(0, .cells 1 (bl ll.flatten))] ∧ nx = 1) := by
  have hlm : (ll.map fun l => AV.sl 1 (bl l)).length = ll.length := List.length_map _
  have hsum : ∀ (i : Nat) (x : List UInt8), ll[i]? = some x → (ll.take (i + 1)).flatten.length = (ll.take i).flatten.length + x.length ∧ (ll.take i).flatten.length + x.length ≤ 1000000 := fun i x hx => by
    have h1 : (ll.take (i + 1)).flatten = (ll.take i).flatten ++ x := by rw [List.take_add_one, hx]; simp
    have h2 : ll.flatten = (ll.take (i + 1)).flatten ++ (ll.drop (i + 1)).flatten := by rw [← List.flatten_append, List.take_append_drop]
    have h3 := congrArg List.length h2
    rw [h1, List.length_append, List.length_append] at h3
    rw [h1, List.length_append]
    omega
  refine ac_fn Try.func85 rfl rfl rfl rfl (fun w0 S0 r0 => ?_)
  refine aw_seq ?_
  refine aw_region ?_
  refine st_p (mva rfl) rfl ?_
  refine al_nil ?_
  refine nm ?_
  refine aw_seq ?_
  refine aw_region ?_
  refine st_p (mva rfl) rfl ?_
  refine al_nil ?_
  refine nm ?_
  refine aw_seq ?_
  refine aw_seq ?_
  refine aw_region ?_
  refine st_p (mv rfl) rfl ?_
  refine st_p (op_len Try.underlying190 rfl) rfl ?_
  refine st_p (mv rfl) rfl ?_
  refine al_nil ?_
  refine nm ?_
  refine aw_block ?_
  -- LOOP
  refine aw_loop (fun i : {i : Nat // i ≤ ll.length} => ⟨[(0, .sl 1 (ll.map fun l => .sl 1 (bl l))), (3, .int .i64 (ll.take i.1).flatten.length), (9, .sl 1 (ll.map fun l => .sl 1 (bl l))), (10, .int .i64 ll.length), (11, .int .i64 i.1)], [], 0⟩) (fun i => ll.length - i.1) ⟨0, Nat.zero_le _⟩ ?_ ?_
  · exact le_to [] rfl rfl rfl rfl rfl ⟨rfl, rfl, rfl, by rw [← hlm]; rfl, rfl, trivial⟩ trivial
  · rintro ⟨i, hi⟩
    dsimp only
    by_cases hlt : i < ll.length
    · obtain ⟨x, hx⟩ : ∃ x, ll[i]? = some x := ⟨_, List.getElem?_eq_getElem hlt⟩
      have hxb : (ll.map fun l => AV.sl 1 (bl l))[((i : Nat) : Int).toNat]? = some (.sl 1 (bl x)) := by rw [Int.toNat_natCast, List.getElem?_map, hx]; rfl
      have hstep := hsum i x hx
      have hblx : (bl x).length = x.length := bl_len _
      refine aw_seq ?_
      refine aw_region ?_
      refine st_p (OpP.conv (op_lt rfl rfl) (yes (by first | assumption | omega))) rfl ?_
      refine al_nil ?_
      refine nm ?_
      refine aw_seq ?_
      -- IF t12
      refine aw_yes (rfl) ?_
      refine aw_skip ?_
      refine nm ?_
      refine aw_seq ?_
      refine aw_block ?_
      refine aw_seq ?_
      refine aw_region ?_
      refine st_p (op_indexAddrL Try.underlying190 z22 rfl rfl (by omega) (by first | assumption | rfl)) rfl ?_
      refine st_p (op_load1L Try.underlying22 rfl rfl rfl) rfl ?_
      refine st_p (mva rfl) rfl ?_
      refine al_nil ?_
      refine nm ?_
      refine aw_seq ?_
      refine aw_region ?_
      refine st_p (mv rfl) rfl ?_
      refine st_p (mv rfl) rfl ?_
      refine st_p (op_len Try.underlying22 rfl) rfl ?_
      refine st_p (op_addi rfl rfl (by omega)) rfl ?_
      refine st_p (mva rfl) rfl ?_
      refine al_nil ?_
      refine nm ?_
      refine aw_seq ?_
      refine aw_region ?_
      refine st_p (mv rfl) rfl ?_
      refine st_p (OpP.conv (op_lt rfl rfl) (no (by first | assumption | omega))) rfl ?_
      refine al_nil ?_
      refine nm ?_
      -- IF t20
      refine aw_no (rfl) ?_
      refine aw_skip ?_
      refine nmb ?_
      refine nm ?_
      refine aw_region ?_
      refine st_p (op_addi rfl rfl (by omega)) rfl ?_
      refine st_p (mv rfl) rfl ?_
      refine al_nil ?_
      refine nm ?_
      refine ⟨⟨i + 1, hlt⟩, by dsimp only; omega, le_to [] rfl rfl rfl rfl rfl ⟨rfl, ?_, rfl, rfl, rfl, trivial⟩ trivial⟩
      show AV.int .i64 (((ll.take i).flatten.length : Int) + ((bl x).length : Nat)) = AV.int .i64 ((ll.take (i + 1)).flatten.length : Nat)
      congr 1
      omega
    · have e : ll.take i = ll := List.take_of_length_le (by omega)
      rw [e]
      by_cases hz : ll.flatten.length = 0
      · have hg : AC Try.prog 141 [.nils, .int .i64 (ll.flatten.length : Int)] [] 0 false (fun v h nx => v = .nils ∧ h = [] ∧ nx = 0) := by
          rw [hz]
          exact grow_none
        refine aw_seq ?_
        refine aw_region ?_
        refine st_p (OpP.conv (op_lt rfl rfl) (no (by first | assumption | omega))) rfl ?_
        refine al_nil ?_
        refine nm ?_
        refine aw_seq ?_
        -- IF t12
        refine aw_no (rfl) ?_
        refine aw_exit ?_
        refine xs ?_
        refine xs ?_
        refine xb ?_
        refine nm ?_
        refine aw_seq ?_
        refine aw_region ?_
        refine st_p (mv rfl) rfl ?_
        -- STOP: call slices.Grow[[]byte,byte](('app', 'Operand.const', [('app', 'Value.slice', ['none', 0, 0])]), t23) -> 24
        refine st_call0 (hg) Try.func141 ⟨rfl, rfl⟩ rfl (.cons (.same (by rfl)) (.cons (.same (by rfl)) .nil)) rfl ?_
        rintro _ _ _ ⟨rfl, rfl, rfl⟩ r2 h2 n2 hr hh hn
        simp only [AV.ren, rens, Blk.ren, swp, List.map_cons, List.map_nil, List.cons_append, List.nil_append, List.append_nil, Nat.not_lt_zero, if_false, Nat.reduceAdd, Nat.zero_add, Nat.add_zero, ren_bl] at hr hh hn
        subst hr hh hn
        refine st_p (mva rfl) rfl ?_
        refine al_nil ?_
        refine nm ?_
        refine aw_seq ?_
        refine aw_seq ?_
        refine aw_region ?_
        refine st_p (mv rfl) rfl ?_
        refine st_p (op_len Try.underlying190 rfl) rfl ?_
        refine st_p (mv rfl) rfl ?_
        refine al_nil ?_
        refine nm ?_
        refine aw_block ?_
        -- LOOP
        refine aw_virt 6 1 rfl ?_
        refine aw_loop (fun j : {j : Nat // j ≤ ll.length} => ⟨[(6, .own 0 0 (ll.take j.1).flatten.length), (25, .sl 1 (ll.map fun l => .sl 1 (bl l))), (26, .int .i64 ll.length), (27, .int .i64 j.1)], [(0, .cells 1 (bl (ll.take j.1).flatten))], 1⟩) (fun j => ll.length - j.1) ⟨0, Nat.zero_le _⟩ ?_ ?_
        · exact le_to [(0, 0)] rfl rfl rfl rfl rfl ⟨rfl, rfl, by rw [← hlm]; rfl, rfl, trivial⟩ ⟨rfl, trivial⟩
        · rintro ⟨j, hj⟩
          dsimp only
          by_cases hjt : j < ll.length
          · obtain ⟨x, hx⟩ : ∃ x, ll[j]? = some x := ⟨_, List.getElem?_eq_getElem hjt⟩
            have hxb : (ll.map fun l => AV.sl 1 (bl l))[((j : Nat) : Int).toNat]? = some (.sl 1 (bl x)) := by rw [Int.toNat_natCast, List.getElem?_map, hx]; rfl
            have hstep := hsum j x hx
            have hblk : (bl (ll.take j).flatten).length = (ll.take j).flatten.length := bl_len _
            have hblx : (bl x).length = x.length := bl_len _
            have hfl : (ll.take (j + 1)).flatten = (ll.take j).flatten ++ x := by rw [List.take_add_one, hx]; simp
            generalize hq : (ll.take j).flatten = q at hstep hblk hfl ⊢
            refine aw_seq ?_
            refine aw_region ?_
            refine st_p (OpP.conv (op_lt rfl rfl) (yes (by first | assumption | omega))) rfl ?_
            refine al_nil ?_
            refine nm ?_
            refine aw_seq ?_
            -- IF t28
            refine aw_yes (rfl) ?_
            refine aw_skip ?_
            refine nm ?_
            refine aw_seq ?_
            refine aw_block ?_
            refine aw_seq ?_
            refine aw_region ?_
            refine st_p (op_indexAddrL Try.underlying190 z22 rfl rfl (by omega) (by first | assumption | rfl)) rfl ?_
            refine st_p (op_load1L Try.underlying22 rfl rfl rfl) rfl ?_
            refine st_p (mva rfl) rfl ?_
            refine al_nil ?_
            refine nm ?_
            refine aw_region ?_
            refine st_p (mv rfl) rfl ?_
            refine st_p (mv rfl) rfl ?_
            refine st_o (op_app Try.underlying22 Try.underlying22 (.inl ⟨_, rfl⟩) i5 o5 rfl rfl rfl (by first | rfl | omega | (simp; done) | (simp; omega)) ((SrcA.sl (.inr trivial)).ok rfl (by intro z hz; simp only [List.mem_singleton, List.drop_zero, List.take_succ_cons, List.take_zero, List.mem_cons, List.not_mem_nil, or_false, List.mem_map] at hz; first | (subst hz; rfl) | (obtain ⟨_, _, rfl⟩ := hz; rfl) | (rcases hz with rfl | rfl <;> rfl))) (by simp; try omega) rfl) rfl ?_
            refine st_p (mva rfl) rfl ?_
            refine al_nil ?_
            refine nmb ?_
            refine nm ?_
            refine aw_region ?_
            refine st_p (op_addi rfl rfl (by omega)) rfl ?_
            refine st_p (mv rfl) rfl ?_
            refine al_nil ?_
            refine nm ?_
            refine ⟨⟨j + 1, hjt⟩, by dsimp only; omega, le_to [(0, 1)] rfl rfl rfl rfl rfl ⟨?_, rfl, rfl, rfl, trivial⟩ ⟨?_, trivial⟩⟩
            · rw [hfl]; simp [AV.ren, tget, swp, bl]
            · rw [hfl]; simp only [Blk.ren, hget, swp, ren_bl, bl_app]; rfl
          · have e : ll.take j = ll := List.take_of_length_le (by omega)
            refine aw_seq ?_
            refine aw_region ?_
            refine st_p (OpP.conv (op_lt rfl rfl) (no (by first | assumption | omega))) rfl ?_
            refine al_nil ?_
            refine nm ?_
            refine aw_seq ?_
            -- IF t28
            refine aw_no (rfl) ?_
            refine aw_exit ?_
            refine xs ?_
            refine xs ?_
            refine xb ?_
            refine nm ?_
            refine aw_seq ?_
            refine aw_region ?_
            refine st_p (mv rfl) rfl ?_
            refine st_p (mva rfl) rfl ?_
            refine al_nil ?_
            refine nm ?_
            refine aw_ret ?_
            refine ret_a ⟨[(2, .own 0 0 ll.flatten.length)], [(0, .cells 1 (bl ll.flatten))], 1⟩ (le_to [(0, 0)] rfl rfl rfl rfl rfl ⟨by rw [e]; rfl, trivial⟩ ⟨by rw [e]; simp only [Blk.ren, hget, ren_bl]; rfl, trivial⟩) (res1 Try.results85) (.inr ⟨rfl, by simp [Blk.nosl, AV.nosl, bl]⟩) ⟨rfl, rfl, rfl⟩
      · have hg := grow_bytes ll.flatten.length (by omega) (by omega)
        refine aw_seq ?_
        refine aw_region ?_
        refine st_p (OpP.conv (op_lt rfl rfl) (no (by first | assumption | omega))) rfl ?_
        refine al_nil ?_
        refine nm ?_
        refine aw_seq ?_
        -- IF t12
        refine aw_no (rfl) ?_
        refine aw_exit ?_
        refine xs ?_
        refine xs ?_
        refine xb ?_
        refine nm ?_
        refine aw_seq ?_
        refine aw_region ?_
        refine st_p (mv rfl) rfl ?_
        -- STOP: call slices.Grow[[]byte,byte](('app', 'Operand.const', [('app', 'Value.slice', ['none', 0, 0])]), t23) -> 24
        refine st_call0 (hg) Try.func141 ⟨rfl, rfl⟩ rfl (.cons (.same (by rfl)) (.cons (.same (by rfl)) .nil)) rfl ?_
        rintro _ _ _ ⟨rfl, rfl, rfl⟩ r2 h2 n2 hr hh hn
        simp only [AV.ren, rens, Blk.ren, swp, List.map_cons, List.map_nil, List.cons_append, List.nil_append, List.append_nil, Nat.not_lt_zero, if_false, Nat.reduceAdd, Nat.zero_add, Nat.add_zero, ren_bl] at hr hh hn
        subst hr hh hn
        refine st_p (mva rfl) rfl ?_
        refine al_nil ?_
        refine nm ?_
        refine aw_seq ?_
        refine aw_seq ?_
        refine aw_region ?_
        refine st_p (mv rfl) rfl ?_
        refine st_p (op_len Try.underlying190 rfl) rfl ?_
        refine st_p (mv rfl) rfl ?_
        refine al_nil ?_
        refine nm ?_
        refine aw_block ?_
        -- LOOP
        refine aw_loop (fun j : {j : Nat // j ≤ ll.length} => ⟨[(6, .own 0 0 (ll.take j.1).flatten.length), (25, .sl 1 (ll.map fun l => .sl 1 (bl l))), (26, .int .i64 ll.length), (27, .int .i64 j.1)], [(0, .cells 1 (bl (ll.take j.1).flatten))], 1⟩) (fun j => ll.length - j.1) ⟨0, Nat.zero_le _⟩ ?_ ?_
        · exact le_to [(0, 0)] rfl rfl rfl rfl rfl ⟨rfl, rfl, by rw [← hlm]; rfl, rfl, trivial⟩ ⟨rfl, trivial⟩
        · rintro ⟨j, hj⟩
          dsimp only
          by_cases hjt : j < ll.length
          · obtain ⟨x, hx⟩ : ∃ x, ll[j]? = some x := ⟨_, List.getElem?_eq_getElem hjt⟩
            have hxb : (ll.map fun l => AV.sl 1 (bl l))[((j : Nat) : Int).toNat]? = some (.sl 1 (bl x)) := by rw [Int.toNat_natCast, List.getElem?_map, hx]; rfl
            have hstep := hsum j x hx
            have hblk : (bl (ll.take j).flatten).length = (ll.take j).flatten.length := bl_len _
            have hblx : (bl x).length = x.length := bl_len _
            have hfl : (ll.take (j + 1)).flatten = (ll.take j).flatten ++ x := by rw [List.take_add_one, hx]; simp
            generalize hq : (ll.take j).flatten = q at hstep hblk hfl ⊢
            refine aw_seq ?_
            refine aw_region ?_
            refine st_p (OpP.conv (op_lt rfl rfl) (yes (by first | assumption | omega))) rfl ?_
            refine al_nil ?_
            refine nm ?_
            refine aw_seq ?_
            -- IF t28
            refine aw_yes (rfl) ?_
            refine aw_skip ?_
            refine nm ?_
            refine aw_seq ?_
            refine aw_block ?_
            refine aw_seq ?_
            refine aw_region ?_
            refine st_p (op_indexAddrL Try.underlying190 z22 rfl rfl (by omega) (by first | assumption | rfl)) rfl ?_
            refine st_p (op_load1L Try.underlying22 rfl rfl rfl) rfl ?_
            refine st_p (mva rfl) rfl ?_
            refine al_nil ?_
            refine nm ?_
            refine aw_region ?_
            refine st_p (mv rfl) rfl ?_
            refine st_p (mv rfl) rfl ?_
            refine st_o (op_app Try.underlying22 Try.underlying22 (.inl ⟨_, rfl⟩) i5 o5 rfl rfl rfl (by first | rfl | omega | (simp; done) | (simp; omega)) ((SrcA.sl (.inr trivial)).ok rfl (by intro z hz; simp only [List.mem_singleton, List.drop_zero, List.take_succ_cons, List.take_zero, List.mem_cons, List.not_mem_nil, or_false, List.mem_map] at hz; first | (subst hz; rfl) | (obtain ⟨_, _, rfl⟩ := hz; rfl) | (rcases hz with rfl | rfl <;> rfl))) (by simp; try omega) rfl) rfl ?_
            refine st_p (mva rfl) rfl ?_
            refine al_nil ?_
            refine nmb ?_
            refine nm ?_
            refine aw_region ?_
            refine st_p (op_addi rfl rfl (by omega)) rfl ?_
            refine st_p (mv rfl) rfl ?_
            refine al_nil ?_
            refine nm ?_
            refine ⟨⟨j + 1, hjt⟩, by dsimp only; omega, le_to [(0, 1)] rfl rfl rfl rfl rfl ⟨?_, rfl, rfl, rfl, trivial⟩ ⟨?_, trivial⟩⟩
            · rw [hfl]; simp [AV.ren, tget, swp, bl]
            · rw [hfl]; simp only [Blk.ren, hget, swp, ren_bl, bl_app]; rfl
          · have e : ll.take j = ll := List.take_of_length_le (by omega)
            refine aw_seq ?_
            refine aw_region ?_
            refine st_p (OpP.conv (op_lt rfl rfl) (no (by first | assumption | omega))) rfl ?_
            refine al_nil ?_
            refine nm ?_
            refine aw_seq ?_
            -- IF t28
            refine aw_no (rfl) ?_
            refine aw_exit ?_
            refine xs ?_
            refine xs ?_
            refine xb ?_
            refine nm ?_
            refine aw_seq ?_
            refine aw_region ?_
            refine st_p (mv rfl) rfl ?_
            refine st_p (mva rfl) rfl ?_
            refine al_nil ?_
            refine nm ?_
            refine aw_ret ?_
            refine ret_a ⟨[(2, .own 0 0 ll.flatten.length)], [(0, .cells 1 (bl ll.flatten))], 1⟩ (le_to [(0, 0)] rfl rfl rfl rfl rfl ⟨by rw [e]; rfl, trivial⟩ ⟨by rw [e]; simp only [Blk.ren, hget, ren_bl]; rfl, trivial⟩) (res1 Try.results85) (.inr ⟨rfl, by simp [Blk.nosl, AV.nosl, bl]⟩) ⟨rfl, rfl, rfl⟩

end Go.Proofs.Ytloddmbbfkejcaa.Abs
end
section
/-
  Transactions as bytes: txn.Put.
-/
namespace Go.Proofs.Ytloddmbbfkejcaa.Abs

/-- What is read, what is written, and all, as bytes. -/
def rdBytes (r : RD) : List UInt8 := [putText r.key, putNum r.ver.toNat, putText r.val].flatten ++ [flagN r.there]
def wrBytes (w : WR) : List UInt8 := [putText w.key, putText w.val].flatten ++ [flagN w.gone]
def txHead (t : TX) : List UInt8 := [putNum t.ses.toNat, putNum t.seq.toNat, putNum t.reads.length].flatten
def txMid (t : TX) : List UInt8 := txHead t ++ (t.reads.map rdBytes).flatten ++ putNum t.writes.length
def putTx (t : TX) : List UInt8 := txMid t ++ (t.writes.map wrBytes).flatten

theorem putText_le (s : List UInt8) (h : s.length ≤ 255) : (putText s).length ≤ 9 + s.length := by
  have := putNum_le s.length (by omega)
  unfold putText
  rw [List.length_append]
  omega

theorem rdBytes_le (r : RD) (hk : r.key.length ≤ 8) (hv : r.val.length ≤ 16) (hn : r.ver ≤ 9223372036854775807) : (rdBytes r).length ≤ 60 := by
  have h1 := putText_le r.key (by omega)
  have h2 := putText_le r.val (by omega)
  have h3 := putNum_le r.ver.toNat (by omega)
  unfold rdBytes
  simp only [List.flatten_cons, List.flatten_nil, List.length_append, List.length_nil, List.length_cons]
  omega

theorem wrBytes_le (w : WR) (hk : w.key.length ≤ 8) (hv : w.val.length ≤ 16) : (wrBytes w).length ≤ 60 := by
  have h1 := putText_le w.key (by omega)
  have h2 := putText_le w.val (by omega)
  unfold wrBytes
  simp only [List.flatten_cons, List.flatten_nil, List.length_append, List.length_nil, List.length_cons]
  omega

theorem rising_key {l : List (List UInt8)} (h : risingB l = true) : ∀ k ∈ l, mayB k = true := by
  intro k hk
  obtain ⟨i, hi⟩ := List.getElem?_of_mem hk
  have := List.all_eq_true.1 h i (List.mem_range.2 (List.getElem?_eq_some_iff.1 hi).1)
  unfold okAt at this
  rw [List.getD_eq_getElem?_getD, hi] at this
  simp only [Bool.and_eq_true] at this
  exact this.1

theorem mayB_len {k : List UInt8} (h : mayB k = true) : 1 ≤ k.length ∧ k.length ≤ 8 := by
  unfold mayB at h
  simp only [Bool.and_eq_true, decide_eq_true_eq] at h
  exact h.2

theorem flat_le {ll : List (List UInt8)} {m : Nat} (h : ∀ l ∈ ll, l.length ≤ m) : ll.flatten.length ≤ m * ll.length := by
  induction ll with
  | nil => simp
  | cons l ll ih =>
    have h1 := h l List.mem_cons_self
    have h2 := ih (fun x hx => h x (List.mem_cons_of_mem _ hx))
    rw [List.flatten_cons, List.length_append, List.length_cons, Nat.mul_add]
    omega

theorem readB_val {r : RD} (h : readB r = true) : 0 ≤ r.ver ∧ r.val.length ≤ 16 := by
  unfold readB at h
  simp only [Bool.and_eq_true, decide_eq_true_eq] at h
  exact h.2

theorem writeB_val {w : WR} (h : writeB w = true) : w.val.length ≤ 16 := by
  unfold writeB at h
  simp only [Bool.and_eq_true, decide_eq_true_eq] at h
  exact h.1

set_option maxHeartbeats 4000000 in
theorem txn_Put (t : TX) (hm : mayTxB t = true) (hv : ∀ r ∈ t.reads, r.ver ≤ 9223372036854775807) :
    AC Try.prog 25 [txA t] [] 0 false (fun v h nx => v = .own 0 0 (putTx t).length ∧ h = [(0, .cells 1 (bl (putTx t)))] ∧ nx = 1) := by
  have hm' := hm
  unfold mayTxB at hm'
  simp only [Bool.and_eq_true, decide_eq_true_eq] at hm'
  obtain ⟨m1, m2, m3, m4, m5, m6, m7, m8, m9, m10⟩ := hm'
  have hkr : ∀ r ∈ t.reads, r.key.length ≤ 8 := fun r hr => (mayB_len (rising_key m6 _ (List.mem_map_of_mem hr))).2
  have hkw : ∀ w ∈ t.writes, w.key.length ≤ 8 := fun w hw => (mayB_len (rising_key m8 _ (List.mem_map_of_mem hw))).2
  have hvr : ∀ r ∈ t.reads, 0 ≤ r.ver ∧ r.val.length ≤ 16 := fun r hr => readB_val (List.all_eq_true.1 m9 r hr)
  have hvw : ∀ w ∈ t.writes, w.val.length ≤ 16 := fun w hw => writeB_val (List.all_eq_true.1 m10 w hw)
  have hmay := txn_May t (by omega) (by omega) (fun r hr => by have := hkr r hr; omega) (fun w hw => by have := hkw w hw; omega)
  rw [hm] at hmay
  clear hm m6 m8 m9 m10
  obtain ⟨ses, seq, rs, ws⟩ := t
  dsimp only at m1 m2 m3 m4 m5 m7 hkr hkw hvr hvw hv
  dsimp only [txA] at hmay ⊢
  have hrl : (rs.map rdA).length = rs.length := List.length_map _
  have hwl : (ws.map wrA).length = ws.length := List.length_map _
  have p1 := num_Put ses (by omega) (by omega)
  have p2 := num_Put seq (by omega) (by omega)
  have p3 := num_Put ((rs.map rdA).length : Int) (by omega) (by omega)
  have l1 := putNum_le ses.toNat (by omega)
  have l2 := putNum_le seq.toNat (by omega)
  have l3 := putNum_le (rs.map rdA).length (by omega)
  rw [Int.toNat_natCast] at p3
  have hcat := concat_bytes [putNum ses.toNat, putNum seq.toNat, putNum (rs.map rdA).length] (by simp) (by simp only [List.flatten_cons, List.flatten_nil, List.length_append, List.length_nil]; omega)
  have hhead : [putNum ses.toNat, putNum seq.toNat, putNum (rs.map rdA).length].flatten = txHead ⟨ses, seq, rs, ws⟩ := by rw [hrl]; rfl
  have hheadl : (txHead ⟨ses, seq, rs, ws⟩).length ≤ 27 := by rw [← hhead]; simp only [List.flatten_cons, List.flatten_nil, List.length_append, List.length_nil]; omega
  rw [hhead] at hcat
  generalize hH : txHead ⟨ses, seq, rs, ws⟩ = H at hcat hheadl
  refine ac_fn Try.func25 rfl rfl rfl rfl (fun w0 S0 r0 => ?_)
  refine aw_seq ?_
  refine aw_region ?_
  refine st_o (bx rfl rfl) rfl ?_
  refine st_p (mva rfl) rfl ?_
  refine al_nil ?_
  refine nm ?_
  refine aw_seq ?_
  refine aw_seq ?_
  refine aw_region ?_
  refine st_p (op_loadA Try.underlying26 rfl z26 rfl rfl rfl rfl) rfl ?_
  -- STOP: call diwan/txn.May(t8) -> 9
  refine st_o ((op_callq (hmay) Try.func23 ⟨rfl, rfl⟩ rfl rfl (fun nx => (.cons (.same (by rfl)) .nil)) (by rintro _ _ _ ⟨rfl, rfl, rfl⟩; exact .same rfl)).ok) rfl ?_
  refine st_p (op_notT rfl) rfl ?_
  refine al_nil ?_
  refine nm ?_
  -- IF t10
  refine aw_no (rfl) ?_
  refine aw_skip ?_
  refine nm ?_
  refine aw_seq ?_
  refine dr_go ?_
  refine dr_f 0 0 [1] rfl (fun H => op_fieldAddr Try.underlying26 rfl z3 (by decide) rfl) ?_
  refine dr_q 0 0 [11] rfl (op_load1 Try.underlying3 rfl rfl rfl rfl rfl) ?_
  -- STOP: call diwan/num.Put(t12) -> 13
  refine dr_fq 0 0 [12] rfl (fun H => op_callq (p1) Try.func86 ⟨rfl, rfl⟩ rfl rfl (fun nx => (.cons (.same (by rfl)) .nil)) (by rintro _ _ _ ⟨rfl, rfl, rfl⟩; exact .whole rfl (by simp) (by first | rfl | simp [AV.plain, plains, bl_plain]))) ?_
  refine dr_f 0 0 [1] rfl (fun H => op_fieldAddr Try.underlying26 rfl z3 (by decide) rfl) ?_
  refine dr_q 0 0 [14] rfl (op_load1 Try.underlying3 rfl rfl rfl rfl rfl) ?_
  -- STOP: call diwan/num.Put(t15) -> 16
  refine dr_fq 0 0 [15] rfl (fun H => op_callq (p2) Try.func86 ⟨rfl, rfl⟩ rfl rfl (fun nx => (.cons (.same (by rfl)) .nil)) (by rintro _ _ _ ⟨rfl, rfl, rfl⟩; exact .whole rfl (by simp) (by first | rfl | simp [AV.plain, plains, bl_plain]))) ?_
  refine dr_f 0 0 [1] rfl (fun H => op_fieldAddr Try.underlying26 rfl z23 (by decide) rfl) ?_
  refine dr_q 0 0 [17] rfl (op_load1 Try.underlying23 rfl rfl rfl rfl rfl) ?_
  refine dr_f 0 0 [18] rfl (fun H => op_len Try.underlying23 rfl) ?_
  -- STOP: call diwan/num.Put(t19) -> 20
  refine dr_fq 0 0 [19] rfl (fun H => op_callq (p3) Try.func86 ⟨rfl, rfl⟩ rfl rfl (fun nx => (.cons (.same (by rfl)) .nil)) (by rintro _ _ _ ⟨rfl, rfl, rfl⟩; exact .whole rfl (by simp) (by first | rfl | simp [AV.plain, plains, bl_plain]))) ?_
  refine dr_fq 0 0 [13, 16, 20] rfl (fun H => op_bslF Try.underlying190 i22 o22 (by decide) rfl rfl rfl (by first | rfl | simp [AV.plain, plains, bl_plain]) (by decide)) ?_
  -- STOP: call slices.Concat[[]byte,byte](t21) -> 22
  refine dr_e 0 [21] rfl (op_callg [] 0 false [] [] (hcat) Try.func85 ⟨rfl, rfl⟩ rfl rfl rfl rfl (by omega) (by intro p hp; cases hp) rfl (.cons (.same (by rfl)) .nil) rfl rfl rfl) ?_
  refine dr_f 1 1 [22] rfl (fun H => mva rfl) ?_
  refine dr_end [] (by kernel_rfl) (by kernel_rfl) (by kernel_rfl) (by kernel_rfl) trivial ?_
  refine nm ?_
  refine aw_seq ?_
  refine aw_seq ?_
  refine aw_region ?_
  refine st_p (op_fieldAddr Try.underlying26 rfl z23 (by decide) rfl) rfl ?_
  refine st_p (op_load1 Try.underlying23 rfl rfl rfl rfl rfl) rfl ?_
  refine st_p (op_len Try.underlying23 rfl) rfl ?_
  refine st_p (mv rfl) rfl ?_
  refine al_nil ?_
  refine nm ?_
  refine aw_block ?_
  -- LOOP
  refine aw_loop (fun i : {i : Nat // i ≤ rs.length} => ⟨[(1, .ptr 0 0 0), (3, .own 1 0 (H ++ ((rs.take i.1).map rdBytes).flatten).length), (24, .sl 4 (rs.map rdA)), (25, .int .i64 rs.length), (26, .int .i64 i.1)], [(0, .cells 4 [.agg [.int .i64 ses, .int .i64 seq, .sl 4 (rs.map rdA), .sl 3 (ws.map wrA)]]), (1, .cells 1 (bl (H ++ ((rs.take i.1).map rdBytes).flatten)))], 2⟩) (fun i => rs.length - i.1) ⟨0, Nat.zero_le _⟩ ?_ ?_
  · exact le_to [(0, 0), (1, 1)] rfl rfl rfl rfl rfl ⟨rfl, by simp [tget, AV.ren, swp], rfl, by rw [← hrl]; rfl, rfl, trivial⟩ ⟨rfl, by simp [hget, rest, swp, Blk.ren, AV.ren], trivial⟩
  · rintro ⟨i, hi⟩
    dsimp only
    by_cases hlt : i < rs.length
    · obtain ⟨x, hx⟩ : ∃ x, rs[i]? = some x := ⟨_, List.getElem?_eq_getElem hlt⟩
      have hxb : (rs.map rdA)[((i : Nat) : Int).toNat]? = some (.agg [sb x.key, .int .i64 x.ver, sb x.val, .bool x.there]) := by rw [Int.toNat_natCast, List.getElem?_map, hx]; rfl
      have hxm : x ∈ rs := List.mem_of_getElem? hx
      have hk := hkr x hxm
      have hvx := hvr x hxm
      have hvm := hv x hxm
      have hcl : (((rs.take i).map rdBytes).flatten).length ≤ 60 * i := by
        have := flat_le (ll := (rs.take i).map rdBytes) (m := 60) (fun l hl => by
          obtain ⟨r, hr, rfl⟩ := List.mem_map.1 hl
          have hr := List.mem_of_mem_take hr
          exact rdBytes_le r (hkr r hr) (hvr r hr).2 (hv r hr))
        rw [List.length_map, List.length_take, Nat.min_eq_left (by omega)] at this
        exact this
      have q1 := num_PutText x.key (by omega)
      have q2 := num_Put x.ver hvx.1 hvm
      have q3 := num_PutText x.val (by omega)
      have k1 := putText_le x.key (by omega)
      have k2 := putNum_le x.ver.toNat (by omega)
      have k3 := putText_le x.val (by omega)
      have hnext : H ++ ((rs.take (i + 1)).map rdBytes).flatten = [H ++ ((rs.take i).map rdBytes).flatten, putText x.key, putNum x.ver.toNat, putText x.val].flatten ++ [flagN x.there] := by
        rw [List.take_add_one, hx]
        simp [rdBytes]
      generalize hC : H ++ ((rs.take i).map rdBytes).flatten = C at hnext ⊢
      have hCl : C.length ≤ 27 + 60 * i := by rw [← hC, List.length_append]; omega
      have hc2 := concat_bytes [C, putText x.key, putNum x.ver.toNat, putText x.val] (by simp) (by simp only [List.flatten_cons, List.flatten_nil, List.length_append, List.length_nil]; omega)
      have hdl : [C, putText x.key, putNum x.ver.toNat, putText x.val].flatten.length ≤ 1000 := by simp only [List.flatten_cons, List.flatten_nil, List.length_append, List.length_nil]; omega
      generalize hD : [C, putText x.key, putNum x.ver.toNat, putText x.val].flatten = D at hc2 hdl hnext
      have hfl := txn_flag x.there
      refine aw_seq ?_
      refine aw_region ?_
      refine st_p (OpP.conv (op_lt rfl rfl) (yes (by first | assumption | omega))) rfl ?_
      refine al_nil ?_
      refine nm ?_
      refine aw_seq ?_
      -- IF t27
      refine aw_yes (rfl) ?_
      refine aw_skip ?_
      refine nm ?_
      refine aw_seq ?_
      refine aw_block ?_
      refine aw_seq ?_
      refine aw_frz 1 rfl (by first | rfl | assumption | simp [AV.plain, plains, bl_plain, sb]) rfl ?_
      dsimp only [frzS, hdel, List.map_cons, List.map_nil, AV.frz, frzs, Blk.frz, ↓reduceIte, Nat.reduceEqDiff, reduceCtorEq]
      refine aw_le (st' := ⟨[(1, .ptr 0 0 0), (3, .sl 1 (bl C)), (24, .sl 4 (rs.map rdA)), (25, .int .i64 rs.length), (26, .int .i64 i)], [(0, .cells 4 [.agg [.int .i64 ses, .int .i64 seq, .sl 4 (rs.map rdA), .sl 3 (ws.map wrA)]])], 2⟩) (le_to [(0, 0)] rfl rfl rfl rfl rfl ⟨rfl, by simp [tget, AV.ren, AV.frz, bl_take, bl_drop], rfl, rfl, rfl, trivial⟩ ⟨rfl, trivial⟩) ?_
      refine aw_region ?_
      refine st_p (op_indexAddrL Try.underlying23 z46 rfl rfl (by omega) (by first | assumption | rfl)) rfl ?_
      refine st_p (op_loadAL Try.underlying46 rfl z46 rfl rfl) rfl ?_
      refine st_o (op_alloc a46 rfl rfl) rfl ?_
      refine st_n (stA z46 rfl rfl rfl rfl rfl rfl rfl rfl rfl rfl) ?_
      refine al_nil ?_
      refine nm ?_
      refine dr_go ?_
      refine dr_f 0 0 [3] rfl (fun H => mv rfl) ?_
      refine dr_f 0 0 [5] rfl (fun H => op_fieldAddr Try.underlying46 rfl z9 (by decide) rfl) ?_
      refine dr_q 0 0 [31] rfl (op_load1 Try.underlying9 rfl rfl rfl rfl rfl) ?_
      -- STOP: call diwan/num.PutText(t32) -> 33
      refine dr_fq 0 0 [32] rfl (fun H => op_callq (q1) Try.func87 ⟨rfl, rfl⟩ rfl rfl (fun nx => (.cons (.same (by rfl)) .nil)) (by rintro _ _ _ ⟨rfl, rfl, rfl⟩; exact .whole rfl (by simp) (by first | rfl | simp [AV.plain, plains, bl_plain]))) ?_
      refine dr_f 0 0 [5] rfl (fun H => op_fieldAddr Try.underlying46 rfl z3 (by decide) rfl) ?_
      refine dr_q 0 0 [34] rfl (op_load1 Try.underlying3 rfl rfl rfl rfl rfl) ?_
      -- STOP: call diwan/num.Put(t35) -> 36
      refine dr_fq 0 0 [35] rfl (fun H => op_callq (q2) Try.func86 ⟨rfl, rfl⟩ rfl rfl (fun nx => (.cons (.same (by rfl)) .nil)) (by rintro _ _ _ ⟨rfl, rfl, rfl⟩; exact .whole rfl (by simp) (by first | rfl | simp [AV.plain, plains, bl_plain]))) ?_
      refine dr_f 0 0 [5] rfl (fun H => op_fieldAddr Try.underlying46 rfl z9 (by decide) rfl) ?_
      refine dr_q 0 0 [37] rfl (op_load1 Try.underlying9 rfl rfl rfl rfl rfl) ?_
      -- STOP: call diwan/num.PutText(t38) -> 39
      refine dr_fq 0 0 [38] rfl (fun H => op_callq (q3) Try.func87 ⟨rfl, rfl⟩ rfl rfl (fun nx => (.cons (.same (by rfl)) .nil)) (by rintro _ _ _ ⟨rfl, rfl, rfl⟩; exact .whole rfl (by simp) (by first | rfl | simp [AV.plain, plains, bl_plain]))) ?_
      refine dr_fq 0 0 [30, 33, 36, 39] rfl (fun H => op_bslF Try.underlying190 i22 o22 (by decide) rfl rfl rfl (by first | rfl | simp [AV.plain, plains, bl_plain]) (by decide)) ?_
      -- STOP: call slices.Concat[[]byte,byte](t40) -> 41
      refine dr_e 0 [40] rfl (op_callg [] 0 false [] [] (hc2) Try.func85 ⟨rfl, rfl⟩ rfl rfl rfl rfl (by omega) (by intro p hp; cases hp) rfl (.cons (.same (by rfl)) .nil) rfl rfl rfl) ?_
      refine dr_f 0 1 [5] rfl (fun H => op_fieldAddr Try.underlying46 rfl z4 (by decide) rfl) ?_
      refine dr_q 0 1 [42] rfl (op_load1 Try.underlying4 rfl rfl rfl rfl rfl) ?_
      -- STOP: call diwan/txn.flag(t43) -> 44
      refine dr_fq 1 1 [43] rfl (fun H => op_callq (hfl) Try.func88 ⟨rfl, rfl⟩ rfl rfl (fun nx => (.cons (.same (by rfl)) .nil)) (by rintro _ _ _ ⟨rfl, rfl, rfl⟩; exact .same rfl)) ?_
      refine dr_fq 1 1 [44] rfl (fun H => op_bslF Try.underlying22 i5 o5 (by decide) rfl rfl rfl (by first | rfl | simp [AV.plain, plains, bl_plain]) (by decide)) ?_
      refine dr_e 1 [41, 45] rfl (op_app Try.underlying22 Try.underlying22 (.inl ⟨_, rfl⟩) i5 o5 rfl rfl rfl (by first | rfl | omega | (simp; done) | (simp; omega)) ((SrcA.sl (.inr trivial)).ok rfl (by intro z hz; simp only [List.mem_singleton, List.drop_zero, List.take_succ_cons, List.take_zero, List.mem_cons, List.not_mem_nil, or_false, List.mem_map] at hz; first | (subst hz; rfl) | (obtain ⟨_, _, rfl⟩ := hz; rfl) | (rcases hz with rfl | rfl <;> rfl))) (by simp; try omega) rfl) ?_
      refine dr_f 2 2 [46] rfl (fun H => mva rfl) ?_
      refine dr_end [(13, 0)] (by kernel_rfl) (by kernel_rfl) (by kernel_rfl) (by kernel_rfl) ⟨(by first | exact ⟨_, rfl, OpP.q (op_load1L Try.underlying4 rfl rfl rfl)⟩ | exact ⟨_, rfl, OpP.q (op_load1 Try.underlying4 rfl rfl rfl rfl rfl)⟩ | exact ⟨_, rfl, OpP.q (op_load1 Try.underlying4 rfl rfl rfl (by assumption) rfl)⟩), trivial⟩ ?_
      refine nmb ?_
      refine nm ?_
      refine aw_region ?_
      refine st_p (op_addi rfl rfl (by omega)) rfl ?_
      refine st_p (mv rfl) rfl ?_
      refine al_nil ?_
      refine nm ?_
      refine ⟨⟨i + 1, hlt⟩, by dsimp only; omega, le_to [(0, 0), (1, 4)] rfl rfl rfl rfl rfl ⟨rfl, ?_, rfl, rfl, rfl, trivial⟩ ⟨rfl, ?_, trivial⟩⟩
      · rw [hnext]; simp [tget, AV.ren, swp]
      · rw [hnext]; simp [hget, rest, swp, Blk.ren, AV.ren]
    · have e : rs.take i = rs := List.take_of_length_le (by omega)
      rw [e]
      have hcl : ((rs.map rdBytes).flatten).length ≤ 360 := by
        have := flat_le (ll := rs.map rdBytes) (m := 60) (fun l hl => by
          obtain ⟨r, hr, rfl⟩ := List.mem_map.1 hl
          exact rdBytes_le r (hkr r hr) (hvr r hr).2 (hv r hr))
        rw [List.length_map] at this
        omega
      have p4 := num_Put ((ws.map wrA).length : Int) (by omega) (by omega)
      have l4 := putNum_le (ws.map wrA).length (by omega)
      rw [Int.toNat_natCast] at p4
      have l5 := putNum_le ws.length (by omega)
      have hM : H ++ (rs.map rdBytes).flatten ++ putNum (ws.map wrA).length = txMid ⟨ses, seq, rs, ws⟩ := by rw [← hH, hwl]; rfl
      generalize hB : H ++ (rs.map rdBytes).flatten = B at hM ⊢
      have hBl : B.length ≤ 400 := by rw [← hB, List.length_append]; omega
      refine aw_seq ?_
      refine aw_region ?_
      refine st_p (OpP.conv (op_lt rfl rfl) (no (by first | assumption | omega))) rfl ?_
      refine al_nil ?_
      refine nm ?_
      refine aw_seq ?_
      -- IF t27
      refine aw_no (rfl) ?_
      refine aw_exit ?_
      refine xs ?_
      refine xs ?_
      refine xb ?_
      refine nm ?_
      refine aw_seq ?_
      refine aw_region ?_
      refine st_p (mv rfl) rfl ?_
      refine st_p (op_fieldAddr Try.underlying26 rfl z24 (by decide) rfl) rfl ?_
      refine st_p (op_load1 Try.underlying24 rfl rfl rfl rfl rfl) rfl ?_
      refine st_p (op_len Try.underlying24 rfl) rfl ?_
      -- STOP: call diwan/num.Put(t51) -> 52
      refine st_o ((op_callq (p4) Try.func86 ⟨rfl, rfl⟩ rfl rfl (fun nx => (.cons (.same (by rfl)) .nil)) (by rintro _ _ _ ⟨rfl, rfl, rfl⟩; exact .whole rfl (by simp) (by first | rfl | simp [AV.plain, plains, bl_plain]))).ok) rfl ?_
      refine st_o (op_app Try.underlying22 Try.underlying22 (.inl ⟨_, rfl⟩) i5 o5 rfl rfl rfl (by first | rfl | omega | (simp; done) | (simp; omega)) ((SrcA.sl (.inr trivial)).ok rfl (by intro z hz; simp only [List.mem_singleton, List.drop_zero, List.take_succ_cons, List.take_zero, List.mem_cons, List.not_mem_nil, or_false, List.mem_map] at hz; first | (subst hz; rfl) | (obtain ⟨_, _, rfl⟩ := hz; rfl) | (rcases hz with rfl | rfl <;> rfl))) (by simp; try omega) rfl) rfl ?_
      refine st_p (mva rfl) rfl ?_
      refine al_nil ?_
      refine nm ?_
      refine aw_seq ?_
      refine aw_seq ?_
      refine aw_region ?_
      refine st_p (op_fieldAddr Try.underlying26 rfl z24 (by decide) rfl) rfl ?_
      refine st_p (op_load1 Try.underlying24 rfl rfl rfl rfl rfl) rfl ?_
      refine st_p (op_len Try.underlying24 rfl) rfl ?_
      refine st_p (mv rfl) rfl ?_
      refine al_nil ?_
      refine nm ?_
      refine aw_block ?_
      -- LOOP
      refine aw_loop (fun j : {j : Nat // j ≤ ws.length} => ⟨[(1, .ptr 0 0 0), (3, .own 1 0 (txMid ⟨ses, seq, rs, ws⟩ ++ ((ws.take j.1).map wrBytes).flatten).length), (55, .sl 3 (ws.map wrA)), (56, .int .i64 ws.length), (57, .int .i64 j.1)], [(0, .cells 4 [.agg [.int .i64 ses, .int .i64 seq, .sl 4 (rs.map rdA), .sl 3 (ws.map wrA)]]), (1, .cells 1 (bl (txMid ⟨ses, seq, rs, ws⟩ ++ ((ws.take j.1).map wrBytes).flatten)))], 2⟩) (fun j => ws.length - j.1) ⟨0, Nat.zero_le _⟩ ?_ ?_
      · refine le_to [(0, 0), (1, 2)] rfl rfl rfl rfl rfl ⟨rfl, ?_, rfl, by rw [← hwl]; rfl, rfl, trivial⟩ ⟨rfl, ?_, trivial⟩
        · rw [← hM]; simp [tget, AV.ren, swp]
        · rw [← hM]; simp [hget, rest, swp, Blk.ren, AV.ren]; rfl
      · have hMl : (txMid ⟨ses, seq, rs, ws⟩).length ≤ 409 := by rw [← hM, List.length_append]; omega
        clear hM p4 l4
        have hput : putTx ⟨ses, seq, rs, ws⟩ = txMid ⟨ses, seq, rs, ws⟩ ++ (ws.map wrBytes).flatten := rfl
        rw [hput]
        clear hput
        generalize txMid ⟨ses, seq, rs, ws⟩ = M at hMl
        rintro ⟨j, hj⟩
        dsimp only
        by_cases hjt : j < ws.length
        · obtain ⟨x, hx⟩ : ∃ x, ws[j]? = some x := ⟨_, List.getElem?_eq_getElem hjt⟩
          have hxb : (ws.map wrA)[((j : Nat) : Int).toNat]? = some (.agg [sb x.key, sb x.val, .bool x.gone]) := by rw [Int.toNat_natCast, List.getElem?_map, hx]; rfl
          have hxm : x ∈ ws := List.mem_of_getElem? hx
          have hk := hkw x hxm
          have hvx := hvw x hxm
          have hcl : (((ws.take j).map wrBytes).flatten).length ≤ 60 * j := by
            have := flat_le (ll := (ws.take j).map wrBytes) (m := 60) (fun l hl => by
              obtain ⟨r, hr, rfl⟩ := List.mem_map.1 hl
              have hr := List.mem_of_mem_take hr
              exact wrBytes_le r (hkw r hr) (hvw r hr))
            rw [List.length_map, List.length_take, Nat.min_eq_left (by omega)] at this
            exact this
          have q1 := num_PutText x.key (by omega)
          have q3 := num_PutText x.val (by omega)
          have k1 := putText_le x.key (by omega)
          have k3 := putText_le x.val (by omega)
          have hnext : M ++ ((ws.take (j + 1)).map wrBytes).flatten = [M ++ ((ws.take j).map wrBytes).flatten, putText x.key, putText x.val].flatten ++ [flagN x.gone] := by
            rw [List.take_add_one, hx]
            simp [wrBytes]
          generalize hC : M ++ ((ws.take j).map wrBytes).flatten = C at hnext ⊢
          have hCl : C.length ≤ 409 + 60 * j := by rw [← hC, List.length_append]; omega
          have hc2 := concat_bytes [C, putText x.key, putText x.val] (by simp) (by simp only [List.flatten_cons, List.flatten_nil, List.length_append, List.length_nil]; omega)
          have hdl : [C, putText x.key, putText x.val].flatten.length ≤ 1000 := by simp only [List.flatten_cons, List.flatten_nil, List.length_append, List.length_nil]; omega
          generalize hD : [C, putText x.key, putText x.val].flatten = D at hc2 hdl hnext
          have hfl := txn_flag x.gone
          refine aw_seq ?_
          refine aw_region ?_
          refine st_p (OpP.conv (op_lt rfl rfl) (yes (by first | assumption | omega))) rfl ?_
          refine al_nil ?_
          refine nm ?_
          refine aw_seq ?_
          -- IF t58
          refine aw_yes (rfl) ?_
          refine aw_skip ?_
          refine nm ?_
          refine aw_seq ?_
          refine aw_block ?_
          refine aw_seq ?_
          refine aw_frz 1 rfl (by first | rfl | assumption | simp [AV.plain, plains, bl_plain, sb]) rfl ?_
          dsimp only [frzS, hdel, List.map_cons, List.map_nil, AV.frz, frzs, Blk.frz, ↓reduceIte, Nat.reduceEqDiff, reduceCtorEq]
          refine aw_le (st' := ⟨[(1, .ptr 0 0 0), (3, .sl 1 (bl C)), (55, .sl 3 (ws.map wrA)), (56, .int .i64 ws.length), (57, .int .i64 j)], [(0, .cells 4 [.agg [.int .i64 ses, .int .i64 seq, .sl 4 (rs.map rdA), .sl 3 (ws.map wrA)]])], 2⟩) (le_to [(0, 0)] rfl rfl rfl rfl rfl ⟨rfl, by simp [tget, AV.ren, AV.frz, bl_take, bl_drop], rfl, rfl, rfl, trivial⟩ ⟨rfl, trivial⟩) ?_
          refine aw_region ?_
          refine st_p (op_indexAddrL Try.underlying24 z48 rfl rfl (by omega) (by first | assumption | rfl)) rfl ?_
          refine st_p (op_loadAL Try.underlying48 rfl z48 rfl rfl) rfl ?_
          refine st_o (op_alloc a48 rfl rfl) rfl ?_
          refine st_n (stA z48 rfl rfl rfl rfl rfl rfl rfl rfl rfl rfl) ?_
          refine al_nil ?_
          refine nm ?_
          refine dr_go ?_
          refine dr_f 0 0 [3] rfl (fun H => mv rfl) ?_
          refine dr_f 0 0 [7] rfl (fun H => op_fieldAddr Try.underlying48 rfl z9 (by decide) rfl) ?_
          refine dr_q 0 0 [62] rfl (op_load1 Try.underlying9 rfl rfl rfl rfl rfl) ?_
          -- STOP: call diwan/num.PutText(t63) -> 64
          refine dr_fq 0 0 [63] rfl (fun H => op_callq (q1) Try.func87 ⟨rfl, rfl⟩ rfl rfl (fun nx => (.cons (.same (by rfl)) .nil)) (by rintro _ _ _ ⟨rfl, rfl, rfl⟩; exact .whole rfl (by simp) (by first | rfl | simp [AV.plain, plains, bl_plain]))) ?_
          refine dr_f 0 0 [7] rfl (fun H => op_fieldAddr Try.underlying48 rfl z9 (by decide) rfl) ?_
          refine dr_q 0 0 [65] rfl (op_load1 Try.underlying9 rfl rfl rfl rfl rfl) ?_
          -- STOP: call diwan/num.PutText(t66) -> 67
          refine dr_fq 0 0 [66] rfl (fun H => op_callq (q3) Try.func87 ⟨rfl, rfl⟩ rfl rfl (fun nx => (.cons (.same (by rfl)) .nil)) (by rintro _ _ _ ⟨rfl, rfl, rfl⟩; exact .whole rfl (by simp) (by first | rfl | simp [AV.plain, plains, bl_plain]))) ?_
          refine dr_fq 0 0 [61, 64, 67] rfl (fun H => op_bslF Try.underlying190 i22 o22 (by decide) rfl rfl rfl (by first | rfl | simp [AV.plain, plains, bl_plain]) (by decide)) ?_
          -- STOP: call slices.Concat[[]byte,byte](t68) -> 69
          refine dr_e 0 [68] rfl (op_callg [] 0 false [] [] (hc2) Try.func85 ⟨rfl, rfl⟩ rfl rfl rfl rfl (by omega) (by intro p hp; cases hp) rfl (.cons (.same (by rfl)) .nil) rfl rfl rfl) ?_
          refine dr_f 0 1 [7] rfl (fun H => op_fieldAddr Try.underlying48 rfl z4 (by decide) rfl) ?_
          refine dr_q 0 1 [70] rfl (op_load1 Try.underlying4 rfl rfl rfl rfl rfl) ?_
          -- STOP: call diwan/txn.flag(t71) -> 72
          refine dr_fq 1 1 [71] rfl (fun H => op_callq (hfl) Try.func88 ⟨rfl, rfl⟩ rfl rfl (fun nx => (.cons (.same (by rfl)) .nil)) (by rintro _ _ _ ⟨rfl, rfl, rfl⟩; exact .same rfl)) ?_
          refine dr_fq 1 1 [72] rfl (fun H => op_bslF Try.underlying22 i5 o5 (by decide) rfl rfl rfl (by first | rfl | simp [AV.plain, plains, bl_plain]) (by decide)) ?_
          refine dr_e 1 [69, 73] rfl (op_app Try.underlying22 Try.underlying22 (.inl ⟨_, rfl⟩) i5 o5 rfl rfl rfl (by first | rfl | omega | (simp; done) | (simp; omega)) ((SrcA.sl (.inr trivial)).ok rfl (by intro z hz; simp only [List.mem_singleton, List.drop_zero, List.take_succ_cons, List.take_zero, List.mem_cons, List.not_mem_nil, or_false, List.mem_map] at hz; first | (subst hz; rfl) | (obtain ⟨_, _, rfl⟩ := hz; rfl) | (rcases hz with rfl | rfl <;> rfl))) (by simp; try omega) rfl) ?_
          refine dr_f 2 2 [74] rfl (fun H => mva rfl) ?_
          refine dr_end [(10, 0)] (by kernel_rfl) (by kernel_rfl) (by kernel_rfl) (by kernel_rfl) ⟨(by first | exact ⟨_, rfl, OpP.q (op_load1L Try.underlying4 rfl rfl rfl)⟩ | exact ⟨_, rfl, OpP.q (op_load1 Try.underlying4 rfl rfl rfl rfl rfl)⟩ | exact ⟨_, rfl, OpP.q (op_load1 Try.underlying4 rfl rfl rfl (by assumption) rfl)⟩), trivial⟩ ?_
          refine nmb ?_
          refine nm ?_
          refine aw_region ?_
          refine st_p (op_addi rfl rfl (by omega)) rfl ?_
          refine st_p (mv rfl) rfl ?_
          refine al_nil ?_
          refine nm ?_
          refine ⟨⟨j + 1, hjt⟩, by dsimp only; omega, le_to [(0, 0), (1, 4)] rfl rfl rfl rfl rfl ⟨rfl, ?_, rfl, rfl, rfl, trivial⟩ ⟨rfl, ?_, trivial⟩⟩
          · rw [hnext]; simp [tget, AV.ren, swp]
          · rw [hnext]; simp [hget, rest, swp, Blk.ren, AV.ren]
        · have e : ws.take j = ws := List.take_of_length_le (by omega)
          rw [e]
          refine aw_seq ?_
          refine aw_region ?_
          refine st_p (OpP.conv (op_lt rfl rfl) (no (by first | assumption | omega))) rfl ?_
          refine al_nil ?_
          refine nm ?_
          refine aw_seq ?_
          -- IF t58
          refine aw_no (rfl) ?_
          refine aw_exit ?_
          refine xs ?_
          refine xs ?_
          refine xb ?_
          refine nm ?_
          refine aw_seq ?_
          refine aw_region ?_
          refine st_p (mv rfl) rfl ?_
          refine st_p (mva rfl) rfl ?_
          refine al_nil ?_
          refine nm ?_
          refine aw_ret ?_
          exact ret_a ⟨[(2, .own 0 0 (M ++ (ws.map wrBytes).flatten).length)], [(0, .cells 1 (bl (M ++ (ws.map wrBytes).flatten)))], 1⟩ (le_to [(0, 1)] rfl rfl rfl rfl rfl ⟨rfl, trivial⟩ ⟨by simp only [Blk.ren, ren_bl]; rfl, trivial⟩) (res1 Try.results25) (.inr ⟨rfl, by simp [Blk.nosl, AV.nosl, bl]⟩) ⟨rfl, rfl, rfl⟩

theorem txn_Put_no (t : TX) (hm : mayTxB t = false) (hr : t.reads.length ≤ 1000000) (hw : t.writes.length ≤ 1000000) (hkr : ∀ r ∈ t.reads, r.key.length ≤ 281474976710656) (hkw : ∀ w ∈ t.writes, w.key.length ≤ 281474976710656) :
    AC Try.prog 25 [txA t] [] 0 false (fun v h nx => v = .nils ∧ h = [] ∧ nx = 0) := by
  have hmay := txn_May t hr hw hkr hkw
  rw [hm] at hmay
  obtain ⟨ses, seq, ll, mm⟩ := t
  dsimp only [txA] at hmay ⊢
  refine ac_fn Try.func25 rfl rfl rfl rfl (fun w0 S0 r0 => ?_)
  refine aw_seq ?_
  refine aw_region ?_
  refine st_o (bx rfl rfl) rfl ?_
  refine st_p (mva rfl) rfl ?_
  refine al_nil ?_
  refine nm ?_
  refine aw_seq ?_
  refine aw_seq ?_
  refine aw_region ?_
  refine st_p (op_loadA Try.underlying26 rfl z26 rfl rfl rfl rfl) rfl ?_
  -- STOP: call diwan/txn.May(t8) -> 9
  refine st_o ((op_callq (hmay) Try.func23 ⟨rfl, rfl⟩ rfl rfl (fun nx => (.cons (.same (by rfl)) .nil)) (by rintro _ _ _ ⟨rfl, rfl, rfl⟩; exact .same rfl)).ok) rfl ?_
  refine st_p (op_notF rfl) rfl ?_
  refine al_nil ?_
  refine nm ?_
  -- IF t10
  refine aw_yes (rfl) ?_
  refine aw_seq ?_
  refine aw_region ?_
  refine st_p (mva rfl) rfl ?_
  refine al_nil ?_
  refine nm ?_
  refine aw_ret ?_
  refine rs ?_
  exact ret_a ⟨[(2, .nils)], [], 0⟩ (le_to [] rfl rfl rfl rfl rfl ⟨rfl, trivial⟩ trivial) (res1 Try.results25) (.inr ⟨rfl, rfl⟩) ⟨rfl, rfl, rfl⟩

end Go.Proofs.Ytloddmbbfkejcaa.Abs
end
section
/-
  Regions whose order is open, that of what turns the heap too: one walk serves every order. It holds of any program.
-/
namespace Go.Proofs.Ytloddmbbfkejcaa.Abs

structure IX where
  v : AV
  ef : Bool
  b0 : Nat
  b1 : Nat
  tm : List (Nat × AV)

/-- A stage: which of those that turn the heap have run, and what the heap is then. -/
structure SG where
  e : List Nat
  h : Heap
  x : Nat

section
variable {P : Program} {c : Ctx} {n : Nat} {op : Op} {tm : List (Nat × AV)} {H H' : Heap} {X X' : Nat} {v : AV} {ρ : Rho} {S : Nat → Prop} {a : Act} {w : World}

theorem Rep.raise (h : Rep c n ⟨tm, H, X⟩ ρ S a w) (hx : X ≤ X') : Rep c n ⟨tm, H, X'⟩ ρ S a w :=
  ⟨h.size, h.defers, h.tmps, h.sim, h.post, fun b hb => h.fresh b (Nat.le_trans hx hb), Nat.le_trans h.le hx, fun b B hb => Nat.lt_of_lt_of_le (h.dom b B hb) hx⟩

/-- What an operation does leaves the older names as they are. -/
theorem OpOK.strong (h : OpOK P op ⟨tm, H, X⟩ v H' X') (hr : Rep c n ⟨tm, H, X⟩ ρ S a w) (o : Oper) (ho : o.op = op) :
    Does P o a w fun u w' => ∃ ρ' S', Rep c n ⟨tm, H', X'⟩ ρ' S' a w' ∧ VR S' w' ρ' v u ∧ (∀ b, b < X → ρ' b = ρ b) ∧ ∀ b, S b → S' b ∧ w'.heap[b]? = w.heap[b]? := by
  have hr' : Rep ⟨w, Own ρ H, S, ρ, X⟩ n ⟨tm, H, X⟩ ρ S a w :=
    ⟨hr.size, hr.defers, hr.tmps, hr.sim, ⟨rfl, rfl, rfl, Nat.le_refl _, fun _ _ _ => rfl, fun _ h => h, fun _ h => .inl h, fun b B r h1 h2 => .inl ⟨b, B, r, h1, h2, rfl⟩, fun _ _ => rfl⟩, hr.fresh, Nat.le_refl _, hr.dom⟩
  refine (h _ n ρ S a w hr' o ho).mono fun u w' ⟨ρ', S', h1, h2, _, h4⟩ => ⟨ρ', S', ?_, h2, fun b hb => h1.post.ids b hb, h4⟩
  have hp := hr.post
  have hq := h1.post
  have hown : ∀ b, Own ρ H b → c.own0 b ∨ c.w0.heap.size ≤ b := by
    rintro b ⟨i, B, r, e1, e2, rfl⟩
    exact hp.own i B r e1 e2
  refine ⟨h1.size, h1.defers, h1.tmps, h1.sim, ⟨hq.os.trans hp.os, hq.tape.trans hp.tape, hq.output.trans hp.output, Nat.le_trans hp.size hq.size, fun b hb ho => ?_, fun b hb => hq.sIn b (hp.sIn b hb), fun b hb => ?_, fun b B r e1 e2 => ?_, fun b hb => ?_⟩, h1.fresh, Nat.le_trans hr.le h1.le, h1.dom⟩
  · refine (hq.keep b (Nat.lt_of_lt_of_le hb hp.size) (fun hO => ?_)).trans (hp.keep b hb ho)
    rcases hown b hO with h' | h'
    · exact ho h'
    · omega
  · rcases hq.sNew b hb with h' | h'
    · exact hp.sNew b h'
    · exact .inr (Nat.le_trans hp.size h')
  · rcases hq.own b B r e1 e2 with h' | h'
    · exact hown _ h'
    · exact .inr (Nat.le_trans hp.size h')
  · exact (hq.ids b (Nat.lt_of_lt_of_le hb hr.le)).trans (hp.ids b hb)

/-- New names turned down. -/
def dwn (X β b : Nat) : Nat := if X ≤ b then b - X + β else b

def HR (X β β1 : Nat) (H1 H2 : Heap) : Prop := ∀ b B, hget H2 b = some B → ∃ b1 B1, hget H1 b1 = some B1 ∧ dwn X β b1 = b ∧ B1.ren (dwn X β) = B ∧ (b1 < X → b1 < β ∨ β1 ≤ b1)

theorem Rep.down {H1 H2 : Heap} {X k β β1 : Nat} {ρ0 : Rho} {S0 : Nat → Prop} {w0 : World} (hr0 : Rep c n ⟨tm, H, X⟩ ρ0 S0 a w0) (hr : Rep c n ⟨tm, H1, X + k⟩ ρ S a w) (hid : ∀ b, b < X → ρ b = ρ0 b) (hgap : ∀ b, β ≤ b → b < β1 → ρ0 b = none)
    (hk : β + k ≤ β1) (hX : β1 ≤ X) (hS : ∀ b, S0 b → S b ∧ w.heap[b]? = w0.heap[b]?) (hβ : c.nx0 ≤ β) (hh : HR X β β1 H1 H2) {v : AV} {u : Value} (hv : VR S w ρ v u) :
    ∃ ρ', Rep c n ⟨tm, H2, X⟩ ρ' S a w ∧ VR S w ρ' (v.ren (dwn X β)) u ∧ (∀ b r, ρ0 b = some r → ρ' b = some r) ∧ ∀ b, b < X → (b < β ∨ β1 ≤ b) → ρ' b = ρ0 b := by
  let ρ' : Rho := fun b => if β ≤ b ∧ b < β1 then (if b < β + k then ρ (b - β + X) else none) else if b < X then ρ b else none
  have e1 : ∀ b, b < X → (b < β ∨ β1 ≤ b) → ρ' b = ρ b := fun b hb ho => by
    show (if β ≤ b ∧ b < β1 then _ else if b < X then ρ b else none) = ρ b
    rw [if_neg (by omega), if_pos hb]
  have e2 : ∀ b, X ≤ b → b < X + k → ρ' (b - X + β) = ρ b := fun b hb ho => by
    show (if β ≤ b - X + β ∧ b - X + β < β1 then (if b - X + β < β + k then ρ (b - X + β - β + X) else none) else _) = ρ b
    rw [if_pos (by omega), if_pos (by omega), show b - X + β - β + X = b from by omega]
  have hτ : ∀ b r, ρ b = some r → ρ' (dwn X β b) = some r := fun b r hb => by
    have hlt := hr.known hb
    have hlt : b < X + k := hlt
    unfold dwn
    split
    · rename_i h; rw [e2 b h hlt]; exact hb
    · rename_i h
      rw [e1 b (by omega)]
      · exact hb
      · refine Classical.byContradiction fun hc => ?_
        have := hgap b (by omega) (by omega)
        rw [← hid b (by omega), hb] at this
        cases this
  have hext : ∀ b r, ρ0 b = some r → ρ' b = some r := fun b r hb => by
    have hlt : b < X := hr0.known hb
    rw [e1 b hlt]
    · rw [hid b hlt]; exact hb
    · refine Classical.byContradiction fun hc => ?_
      have := hgap b (by omega) (by omega)
      rw [hb] at this
      cases this
  have hback : ∀ b1, (∃ B1, hget H1 b1 = some B1) → (b1 < X → b1 < β ∨ β1 ≤ b1) → ρ' (dwn X β b1) = ρ b1 := fun b1 ⟨B1, hB1⟩ ho => by
    have hlt : b1 < X + k := hr.dom b1 B1 hB1
    unfold dwn
    split
    · rename_i h; exact e2 b1 h hlt
    · rename_i h; exact e1 b1 (by omega) (ho (by omega))
  refine ⟨ρ', ⟨hr.size, hr.defers, fun i => (hr0.tmps i).mono hS hext, ⟨fun b B hb => ?_, fun b b' B B' r r' hb hb' hq hq' hne => ?_, hr.sim.lt⟩, ?_, fun b hb => ?_, hr0.le, fun b B hb => ?_⟩, hv.ren hτ, hext, fun b hb ho => (e1 b hb ho).trans (hid b hb)⟩
  · obtain ⟨b1, B1, h1, h2, h3, h4⟩ := hh b B hb
    subst h2 h3
    rcases hr.sim.blk b1 B1 h1 with ⟨r, q1, q2, q3, q4⟩ | ⟨q1, sz, rfl⟩
    · exact .inl ⟨r, hτ _ _ q1, q2.ren hτ, q3, q4⟩
    · exact .inr ⟨(hback b1 ⟨_, h1⟩ h4).trans q1, sz, rfl⟩
  · obtain ⟨b1, B1, h1, h2, h3, h4⟩ := hh b B hb
    obtain ⟨b2, B2, g1, g2, g3, g4⟩ := hh b' B' hb'
    have k1 := hback b1 ⟨_, h1⟩ h4
    have k2 := hback b2 ⟨_, g1⟩ g4
    rw [h2, hq] at k1
    rw [g2, hq'] at k2
    exact hr.sim.inj b1 b2 B1 B2 r r' h1 g1 k1.symm k2.symm (fun e => hne (by rw [← h2, ← g2, e]))
  · have hp := hr.post
    refine ⟨hp.os, hp.tape, hp.output, hp.size, hp.keep, hp.sIn, hp.sNew, fun b B r hb hq => ?_, fun b hb => ?_⟩
    · obtain ⟨b1, B1, h1, h2, h3, h4⟩ := hh b B hb
      have k1 := hback b1 ⟨_, h1⟩ h4
      rw [h2, hq] at k1
      exact hp.own b1 B1 r h1 k1.symm
    · rw [e1 b (by omega) (.inl (by omega))]
      exact hp.ids b hb
  · show (if β ≤ b ∧ b < β1 then (if b < β + k then ρ (b - β + X) else none) else if b < X then ρ b else none) = none
    have hb : X ≤ b := hb
    rw [if_neg (by omega), if_neg (by omega)]
  · obtain ⟨b1, B1, h1, h2, h3, h4⟩ := hh b B hb
    have hlt : b1 < X + k := hr.dom b1 B1 h1
    show b < X
    rw [← h2]
    unfold dwn
    split <;> omega
end

/-- What one that turns the heap does, out of a stage into one. -/
def EffX (P : Program) (op : Op) (tm : List (Nat × AV)) (g g' : SG) (it : IX) : Prop :=
  (g.x ≤ it.b0 ∧ g'.x = it.b1 ∧ OpOK P op ⟨tm, g.h, it.b0⟩ it.v g'.h g'.x) ∨
  (it.b1 ≤ g.x ∧ g'.x = g.x ∧ ∃ v1 H1 k, OpOK P op ⟨tm, g.h, g.x⟩ v1 H1 (g.x + k) ∧ it.b0 + k ≤ it.b1 ∧ v1.ren (dwn g.x it.b0) = it.v ∧ HR g.x it.b0 it.b1 H1 g'.h)

def entX : List Oper → List IX → List (Nat × AV) → Nat → AV
  | o :: l, it :: its, tm, x => if o.dst = some x then it.v else entX l its tm x
  | _, _, tm, x => tget tm x

/-- What is looked at without the values; dn, un: may it have run, may it not have run, at a stage. -/
structure PlanX (l : List Oper) (its : List IX) (sg : List SG) (m : Nat) (dn un : Nat → Nat → Bool) : Prop where
  len : l.length = its.length
  up : ∀ (i : Nat) (o : Oper), l[i]? = some o → ∀ p ∈ edges o, p < i
  dist : ∀ (i j : Nat) (o o' : Oper) (d : Nat), l[i]? = some o → l[j]? = some o' → o.dst = some d → o'.dst = some d → i = j
  dnE : ∀ (i s : Nat) (it : IX) (g : SG), its[i]? = some it → it.ef = true → sg[s]? = some g → (i ∈ g.e → dn i s = true) ∧ (i ∉ g.e → un i s = true)
  dnQ : ∀ (i s : Nat) (o : Oper) (it : IX), l[i]? = some o → its[i]? = some it → it.ef = false → s < sg.length → (∀ p ∈ edges o, dn p s = true) → dn i s = true
  unQ : ∀ (i s : Nat) (it : IX), its[i]? = some it → it.ef = false → s < sg.length → (∀ (j : Nat) (o : Oper), l[j]? = some o → i ∈ edges o → un j s = true) → un i s = true
  rng : ∀ (i j : Nat) (it jt : IX), its[i]? = some it → its[j]? = some jt → it.ef = true → jt.ef = true → i ≠ j → it.b1 ≤ jt.b0 ∨ jt.b1 ≤ it.b0
  fin : ∀ (s : Nat) (g : SG), sg[s]? = some g → (∀ (i : Nat) (it : IX), its[i]? = some it → it.ef = true → i ∈ g.e) → s = m
  guard : ∀ (i : Nat) (o : Oper) (j : Nat) (b : Bool), l[i]? = some o → o.guard = some (j, b) → j ∈ edges o ∧ ∃ o' d, l[j]? = some o' ∧ o'.dst = some d

/-- What an operation sees: what was made ahead of it, or what was there ahead of the region. -/
def SeesX (l : List Oper) (its : List IX) (tm0 : List (Nat × AV)) : Prop := ∀ (i : Nat) (o : Oper) (it : IX) (x : Nat), l[i]? = some o → its[i]? = some it → tget it.tm x = .top ∨
  (∃ p ∈ edges o, ∃ o' jt, l[p]? = some o' ∧ its[p]? = some jt ∧ o'.dst = some x ∧ tget it.tm x = jt.v) ∨ (tget it.tm x = tget tm0 x ∧ ∀ (j : Nat) (o' : Oper), l[j]? = some o' → o'.dst = some x → i ∈ edges o')

def RunX (P : Program) (op : Op) (i : Nat) (it : IX) (tm : List (Nat × AV)) (sg : List SG) (g : SG) : Prop :=
  if it.ef then ∃ (s' : Nat) (g' : SG), sg[s']? = some g' ∧ (∀ j, j ∈ g'.e ↔ j ∈ g.e ∨ j = i) ∧ EffX P op tm g g' it else OpQ P op tm g.h it.v

def ObX (P : Program) (l : List Oper) (its : List IX) (sg : List SG) (i s : Nat) : Prop :=
  ∀ o it g, l[i]? = some o → its[i]? = some it → sg[s]? = some g →
    match o.guard with
    | none => RunX P o.op i it it.tm sg g
    | some (j, b) => ∃ r, (∃ q, its[j]? = some q ∧ gv q.v = some r) ∧ (r = some b → RunX P o.op i it it.tm sg g) ∧ (r ≠ some b → it.v = .tup [] ∧ (it.ef = true → ∃ (s' : Nat) (g' : SG), sg[s']? = some g' ∧ (∀ j, j ∈ g'.e ↔ j ∈ g.e ∨ j = i) ∧ g'.h = g.h ∧ g.x ≤ g'.x))

structure DX (c : Ctx) (n : Nat) (l : List Oper) (its : List IX) (sg : List SG) (tm0 : List (Nat × AV)) (t : Array Bool) (a : Act) (w : World) (s : Nat) (g : SG) : Prop where
  size : t.size = l.length
  closed : ∀ (i : Nat) (o : Oper), l[i]? = some o → L t i → ∀ p ∈ edges o, L t p
  at_ : sg[s]? = some g
  st : ∀ (i : Nat) (it : IX), its[i]? = some it → it.ef = true → (L t i ↔ i ∈ g.e)
  rep : ∃ tm ρ S, Rep c n ⟨tm, g.h, g.x⟩ ρ S a w ∧ (∀ (i : Nat) (o : Oper) (it : IX) (x : Nat), l[i]? = some o → its[i]? = some it → o.dst = some x → L t i → tget tm x = it.v) ∧
    (∀ x, (∀ (i : Nat) (o : Oper), l[i]? = some o → o.dst = some x → ¬ L t i) → tget tm x = tget tm0 x) ∧
    ∀ (i : Nat) (it : IX), its[i]? = some it → it.ef = true → ¬ L t i → ∀ b, it.b0 ≤ b → b < it.b1 → ρ b = none

section
variable {P : Program} {c : Ctx} {n : Nat} {Q : Exit → St → Prop} {l : List Oper} {its : List IX} {sg : List SG} {m : Nat} {tm0 : List (Nat × AV)} {dn un : Nat → Nat → Bool}

theorem dn_ok (hp : PlanX l its sg m dn un) {t : Array Bool} {a : Act} {w : World} {s : Nat} {g : SG} (hd : DX c n l its sg tm0 t a w s g) : ∀ (i : Nat), i < l.length → L t i → dn i s = true := by
  intro i
  induction i using Nat.strongRecOn with
  | ind i ih =>
    intro hi hL
    obtain ⟨o, ho⟩ : ∃ o, l[i]? = some o := ⟨_, List.getElem?_eq_getElem hi⟩
    obtain ⟨it, hit⟩ : ∃ it, its[i]? = some it := ⟨_, List.getElem?_eq_getElem (by rw [← hp.len]; exact hi)⟩
    cases hef : it.ef with
    | true => exact (hp.dnE i s it g hit hef hd.at_).1 ((hd.st i it hit hef).1 hL)
    | false =>
      refine hp.dnQ i s o it ho hit hef (List.getElem?_eq_some_iff.1 hd.at_).1 fun p hpe => ?_
      have := hp.up i o ho p hpe
      exact ih p this (by omega) (hd.closed i o ho hL p hpe)

theorem un_ok (hp : PlanX l its sg m dn un) {t : Array Bool} {a : Act} {w : World} {s : Nat} {g : SG} (hd : DX c n l its sg tm0 t a w s g) : ∀ (k i : Nat), l.length - i ≤ k → i < l.length → ¬ L t i → un i s = true := by
  intro k
  induction k with
  | zero => intro i h1 h2; omega
  | succ k ih =>
    intro i hk hi hn
    obtain ⟨it, hit⟩ : ∃ it, its[i]? = some it := ⟨_, List.getElem?_eq_getElem (by rw [← hp.len]; exact hi)⟩
    cases hef : it.ef with
    | true => exact (hp.dnE i s it g hit hef hd.at_).2 (fun h => hn ((hd.st i it hit hef).2 h))
    | false =>
      refine hp.unQ i s it hit hef (List.getElem?_eq_some_iff.1 hd.at_).1 fun j o ho he => ?_
      have h1 := hp.up j o ho i he
      exact ih j (by omega) (List.getElem?_eq_some_iff.1 ho).1 (fun hl => hn (hd.closed j o ho hl i he))

theorem entX_spec : ∀ (l : List Oper) (its : List IX) (tm : List (Nat × AV)) (x : Nat), l.length = its.length → (∀ (i j : Nat) (o o' : Oper) (d : Nat), l[i]? = some o → l[j]? = some o' → o.dst = some d → o'.dst = some d → i = j) →
    (∀ (i : Nat) (o : Oper) (it : IX), l[i]? = some o → its[i]? = some it → o.dst = some x → entX l its tm x = it.v) ∧ ((∀ (i : Nat) (o : Oper), l[i]? = some o → o.dst ≠ some x) → entX l its tm x = tget tm x) := by
  intro l
  induction l with
  | nil => intro its tm x hl _; exact ⟨fun i o it h => by simp at h, fun _ => by cases its <;> rfl⟩
  | cons o l ih =>
    intro its tm x hl hd
    cases its with
    | nil => simp at hl
    | cons it its =>
      obtain ⟨h1, h2⟩ := ih its tm x (by simpa using hl) (fun i j o o' d a b e f => by have := hd (i + 1) (j + 1) o o' d a b e f; omega)
      simp only [entX]
      refine ⟨fun i o' it' ho hi hdst => ?_, fun hno => ?_⟩
      · cases i with
        | zero =>
          simp only [List.getElem?_cons_zero, Option.some.injEq] at ho hi
          subst ho; subst hi
          rw [if_pos hdst]
        | succ i =>
          have : ¬ o.dst = some x := fun e => by have := hd 0 (i + 1) o o' x rfl ho e hdst; omega
          rw [if_neg this]
          exact h1 i o' it' ho hi hdst
      · rw [if_neg (hno 0 o rfl)]
        exact h2 (fun i o' ho => hno (i + 1) o' ho)

/-- One step, whatever operation comes up. -/
theorem drawX_step (hp : PlanX l its sg m dn un) (hdn : ∀ o ∈ l, ∀ d, o.dst = some d → d < n) (hT : SeesX l its tm0) (hb0 : ∀ (i : Nat) (it : IX), its[i]? = some it → it.ef = true → c.nx0 ≤ it.b0 ∧ it.b0 ≤ it.b1)
    (hob : ∀ (i s : Nat) (o : Oper), l[i]? = some o → s < sg.length → (∀ p ∈ edges o, dn p s = true) → un i s = true → ObX P l its sg i s)
    {t : Array Bool} {a : Act} {w : World} {s : Nat} {g : SG} (hd : DX c n l its sg tm0 t a w s g) {i : Nat} {o : Oper} (ho : l[i]? = some o) (hn : ¬ L t i) (hall : ∀ p ∈ edges o, L t p)
    {K : Act → World → Prop} {Qe : Exit → Act → World → Prop} (hK : ∀ a' w' s' g', DX c n l its sg tm0 (t.setIfInBounds i true) a' w' s' g' → K a' w') : wpOp P l.toArray Qe i K a w := by
  have hil : i < l.length := (List.getElem?_eq_some_iff.1 ho).1
  obtain ⟨it, hit⟩ : ∃ it, its[i]? = some it := ⟨_, List.getElem?_eq_getElem (by rw [← hp.len]; exact hil)⟩
  have hsl : s < sg.length := (List.getElem?_eq_some_iff.1 hd.at_).1
  obtain ⟨tm, ρ, S, hrep, hE1, hE2, hgap⟩ := hd.rep
  have hO := hob i s o ho hsl (fun p hpe => dn_ok hp hd p (by have := hp.up i o ho p hpe; omega) (hall p hpe)) (un_ok hp hd (l.length - i) i (Nat.le_refl _) hil hn) o it g ho hit hd.at_
  -- what the operation looks at is there
  have hmnr : ∀ {X' : Nat}, g.x ≤ X' → Rep c n ⟨it.tm, g.h, X'⟩ ρ S a w := fun {X'} hX => by
    have hrep := hrep.raise hX
    refine ⟨hrep.size, hrep.defers, fun x => ?_, hrep.sim, hrep.post, hrep.fresh, hrep.le, hrep.dom⟩
    show VR S w ρ (tget it.tm x) _
    rcases hT i o it x ho hit with h | ⟨p, hpe, o', jt, ho', hjt, hd', h⟩ | ⟨h, hj⟩
    · rw [h]; exact .top
    · rw [h, ← hE1 p o' jt x ho' hjt hd' (hall p hpe)]
      exact hrep.tmps x
    · rw [h, ← hE2 x (fun j o' ho' hd' hL => hn (hd.closed j o' ho' hL i (hj j o' ho' hd')))]
      exact hrep.tmps x
  have hset : i < t.size := by rw [hd.size]; exact hil
  have hsub : ∀ j, L (t.setIfInBounds i true) j → i = j ∨ L t j := fun j hL => (L_set hset).1 hL
  -- how things stand behind it
  have next : ∀ (w' : World) (u : Value) (ρ' : Rho) (S' : Nat → Prop) (s' : Nat) (g' : SG), Rep c n ⟨tm, g'.h, g'.x⟩ ρ' S' a w' → VR S' w' ρ' it.v u → sg[s']? = some g' →
      (∀ (j : Nat) (jt : IX), its[j]? = some jt → jt.ef = true → (i = j ∨ L t j ↔ j ∈ g'.e)) → (∀ (j : Nat) (jt : IX), its[j]? = some jt → jt.ef = true → i ≠ j → ¬ L t j → ∀ b, jt.b0 ≤ b → b < jt.b1 → ρ' b = none) →
      DX c n l its sg tm0 (t.setIfInBounds i true) (a.put o.dst u) w' s' g' := by
    intro w' u ρ' S' s' g' hr' hv' hs' hst' hg'
    refine ⟨by simp [hd.size], fun j o' ho' hL p hpe => ?_, hs', fun j jt hj he => ?_, ?_⟩
    · rw [L_set hset] at hL ⊢
      rcases hL with rfl | hL
      · rw [ho] at ho'
        obtain rfl := Option.some.inj ho'
        exact .inr (hall p hpe)
      · exact .inr (hd.closed j o' ho' hL p hpe)
    · rw [L_set hset]; exact hst' j jt hj he
    · have hgap' : ∀ (j : Nat) (jt : IX), its[j]? = some jt → jt.ef = true → ¬ L (t.setIfInBounds i true) j → ∀ b, jt.b0 ≤ b → b < jt.b1 → ρ' b = none := fun j jt hj he hnL => by
        rw [L_set hset] at hnL
        exact hg' j jt hj he (fun e => hnL (.inl e)) (fun e => hnL (.inr e))
      cases hdst : o.dst with
      | none =>
        refine ⟨tm, ρ', S', hr', fun j o' jt x hj hjt hx hL => ?_, fun x hx => hE2 x (fun j o' hj hxd hL => hx j o' hj hxd ((L_set hset).2 (.inr hL))), hgap'⟩
        rcases (L_set hset).1 hL with rfl | hL
        · rw [ho] at hj; obtain rfl := Option.some.inj hj; rw [hdst] at hx; cases hx
        · exact hE1 j o' jt x hj hjt hx hL
      | some d =>
        refine ⟨(d, it.v) :: tm, ρ', S', hr'.put d (hdn o (List.mem_of_getElem? ho) d hdst) it.v u hv', fun j o' jt x hj hjt hx hL => ?_, fun x hx => ?_, hgap'⟩
        · by_cases e : d = x
          · subst e
            have : i = j := hp.dist i j o o' d ho hj hdst hx
            subst this
            rw [hit] at hjt
            obtain rfl := Option.some.inj hjt
            simp [tget]
          · simp only [tget, e, if_false]
            rcases (L_set hset).1 hL with rfl | hL
            · rw [ho] at hj; obtain rfl := Option.some.inj hj; rw [hdst] at hx; exact absurd (Option.some.inj hx) e
            · exact hE1 j o' jt x hj hjt hx hL
        · have e : d ≠ x := fun e => hx i o ho (by rw [hdst, e]) ((L_set hset).2 (.inl rfl))
          simp only [tget, e, if_false]
          exact hE2 x (fun j o' hj hxd hL => hx j o' hj hxd ((L_set hset).2 (.inr hL)))
  have hquiet : ∀ (j : Nat) (jt : IX), it.ef = false → its[j]? = some jt → jt.ef = true → (i = j ∨ L t j ↔ j ∈ g.e) := by
    intro j jt hef hj he
    rw [← hd.st j jt hj he]
    constructor
    · rintro (rfl | h)
      · rw [hit] at hj; obtain rfl := Option.some.inj hj; rw [hef] at he; cases he
      · exact h
    · exact .inr
  have hgapq : ∀ (j : Nat) (jt : IX), its[j]? = some jt → jt.ef = true → i ≠ j → ¬ L t j → ∀ b, jt.b0 ≤ b → b < jt.b1 → ρ b = none := fun j jt hj he _ hnL => hgap j jt hj he hnL
  have hrun : RunX P o.op i it it.tm sg g → o.wp P a w K Qe := by
    intro hR
    unfold RunX at hR
    cases hef : it.ef with
    | true =>
      rw [hef] at hR
      simp only [if_true] at hR
      obtain ⟨s', g', hg', hmem, hE⟩ := hR
      obtain ⟨hc0, hc1⟩ := hb0 i it hit hef
      have hst' : ∀ (j : Nat) (jt : IX), its[j]? = some jt → jt.ef = true → (i = j ∨ L t j ↔ j ∈ g'.e) := fun j jt hj he => by
        rw [hmem, ← hd.st j jt hj he]
        exact ⟨fun h => h.elim (fun e => .inr e.symm) .inl, fun h => h.elim .inr (fun e => .inl e.symm)⟩
      rcases hE with ⟨q1, q2, q3⟩ | ⟨q1, q2, v1, H1, k, q3, q4, q5, q6⟩
      · refine (q3.strong (hmnr q1) o rfl).wp fun u w' ⟨ρ', S', r3, r4, r5, r6⟩ => ?_
        have hext : ∀ b r, ρ b = some r → ρ' b = some r := fun b r hb => by
          have hlt : b < g.x := hrep.known hb
          rw [r5 b (by omega)]; exact hb
        have hr' : Rep c n ⟨tm, g'.h, g'.x⟩ ρ' S' a w' := ⟨r3.size, r3.defers, fun x => (hrep.tmps x).mono r6 hext, r3.sim, r3.post, r3.fresh, r3.le, r3.dom⟩
        refine hK _ _ _ _ (next w' u ρ' S' s' g' hr' r4 hg' hst' fun j jt hj he hij hnL b h0 h1 => ?_)
        rcases hp.rng i j it jt hit hj hef he hij with h | h
        · exact r3.fresh b (by show g'.x ≤ b; omega)
        · rw [r5 b (by omega)]
          exact hgap j jt hj he hnL b h0 h1
      · refine (q3.strong (hmnr (Nat.le_refl _)) o rfl).wp fun u w' ⟨ρ', S', r3, r4, r5, r6⟩ => ?_
        have hext : ∀ b r, ρ b = some r → ρ' b = some r := fun b r hb => by
          have hlt : b < g.x := hrep.known hb
          rw [r5 b (by omega)]; exact hb
        have hr1 : Rep c n ⟨tm, H1, g.x + k⟩ ρ' S' a w' := ⟨r3.size, r3.defers, fun x => (hrep.tmps x).mono r6 hext, r3.sim, r3.post, r3.fresh, r3.le, r3.dom⟩
        obtain ⟨ρ2, k1, k2, k3, k4⟩ := Rep.down hrep hr1 r5 (fun b h0 h1 => hgap i it hit hef hn b h0 h1) q4 q1 r6 hc0 q6 r4
        rw [q5] at k2
        refine hK _ _ _ _ (next w' u ρ2 S' s' g' (by rw [q2]; exact k1) k2 hg' hst' fun j jt hj he hij hnL b h0 h1 => ?_)
        rcases Nat.lt_or_ge b g.x with hb | hb
        · rw [k4 b hb (by rcases hp.rng i j it jt hit hj hef he hij with h | h <;> omega)]
          exact hgap j jt hj he hnL b h0 h1
        · exact k1.fresh b hb
    | false =>
      rw [hef] at hR
      simp only [Bool.false_eq_true, if_false] at hR
      refine ((hR g.x).strong (hmnr (Nat.le_refl _)) o rfl).wp fun u w' ⟨ρ', S', r3, r4, r5, r6⟩ => ?_
      have hext : ∀ b r, ρ b = some r → ρ' b = some r := fun b r hb => by
        have hlt : b < g.x := hrep.known hb
        rw [r5 b hlt]; exact hb
      have hr' : Rep c n ⟨tm, g.h, g.x⟩ ρ' S' a w' := ⟨r3.size, r3.defers, fun x => (hrep.tmps x).mono r6 hext, r3.sim, r3.post, r3.fresh, r3.le, r3.dom⟩
      refine hK _ _ _ _ (next w' u ρ' S' s g hr' r4 hd.at_ (fun j jt => hquiet j jt hef) fun j jt hj he hij hnL b h0 h1 => ?_)
      rcases Nat.lt_or_ge b g.x with hb | hb
      · rw [r5 b hb]; exact hgap j jt hj he hnL b h0 h1
      · exact r3.fresh b hb
  unfold wpOp
  rw [show l.toArray[i]? = some o from by rw [List.getElem?_toArray]; exact ho]
  simp only []
  cases hg : o.guard with
  | none =>
    rw [hg] at hO
    rw [if_pos (by simp [Region.wanted, hg])]
    exact .inl (hrun hO)
  | some jb =>
    obtain ⟨j, b⟩ := jb
    rw [hg] at hO
    simp only [] at hO
    obtain ⟨b', ⟨q, hq1, hq2⟩, h1, h2⟩ := hO
    obtain ⟨hje, o', d, ho', hd'⟩ := hp.guard i o j b ho hg
    have hval := hE1 j o' q d ho' hq1 hd' (hall j hje)
    have hy : yielded l.toArray a.tmps j = b' := yielded_gv hrep (d := d) (by rw [List.getElem?_toArray, ho']; exact hd') (hdn o' (List.mem_of_getElem? ho') d hd') (by rw [show (St.mk tm g.h g.x).tm = tm from rfl, hval]; exact hq2)
    by_cases e : b' = some b
    · rw [if_pos (by simp [Region.wanted, hg, hy, e])]
      exact .inl (hrun (h1 e))
    · rw [if_neg (by simp [Region.wanted, hg, hy, e])]
      obtain ⟨e1, e2⟩ := h2 e
      have hvu : VR S w ρ it.v undef := by rw [e1]; exact .tup #[] rfl (fun i x u hx _ => by simp at hx)
      cases hef : it.ef with
      | false => exact hK _ _ _ _ (next w undef ρ S s g hrep hvu hd.at_ (fun j jt => hquiet j jt hef) hgapq)
      | true =>
        obtain ⟨s', g', k1, k2, k3, k4⟩ := e2 hef
        exact hK _ _ _ _ (next w undef ρ S s' g' (by rw [k3]; exact hrep.raise k4) hvu k1 (fun j jt hj he => by
          rw [k2, ← hd.st j jt hj he]
          exact ⟨fun h => h.elim (fun e => .inr e.symm) .inl, fun h => h.elim .inr (fun e => .inl e.symm)⟩) hgapq)

theorem drawX_any (hp : PlanX l its sg m dn un) (hT : SeesX l its tm0) (hdn : ∀ o ∈ l, ∀ d, o.dst = some d → d < n) {E : List (Nat × AV)} (hE : ∀ x, tget E x = entX l its tm0 x) (hb0 : ∀ (i : Nat) (it : IX), its[i]? = some it → it.ef = true → c.nx0 ≤ it.b0 ∧ it.b0 ≤ it.b1)
    (hob : ∀ (i s : Nat) (o : Oper), l[i]? = some o → s < sg.length → (∀ p ∈ edges o, dn p s = true) → un i s = true → ObX P l its sg i s) {g1 : SG} (hH : sg[m]? = some g1) (hQ : Q .normal ⟨E, g1.h, g1.x⟩) :
    ∀ (fuel : Nat) (t : Array Bool) (a : Act) (w : World) (s : Nat) (g : SG), left l.length t ≤ fuel → DX c n l its sg tm0 t a w s g → wpAny P .any l.toArray (Lift c n Q) fuel t a w := by
  have fin : ∀ (t : Array Bool) (a : Act) (w : World) (s : Nat) (g : SG), DX c n l its sg tm0 t a w s g → Region.ready .any l.toArray t = [] → Lift c n Q .normal a w := by
    intro t a w s g hd hr
    have hall : ∀ i, i < l.length → L t i := by
      intro i
      induction i using Nat.strongRecOn with
      | ind i ih =>
        intro hi
        refine Classical.byContradiction fun hn => ?_
        have : i ∈ Region.ready .any l.toArray t := (ready_mem hd.size).2 ⟨hi, hn, _, List.getElem?_eq_getElem hi, fun p hpe => by
          have := hp.up i _ (List.getElem?_eq_getElem hi) p hpe
          exact ih p this (by omega)⟩
        rw [hr] at this
        cases this
    obtain ⟨tm, ρ, S, hrep, hE1, hE2, _⟩ := hd.rep
    have hs : s = m := hp.fin s g hd.at_ fun i it hit he => (hd.st i it hit he).1 (hall i (by rw [hp.len]; exact (List.getElem?_eq_some_iff.1 hit).1))
    have hat := hd.at_
    rw [hs, hH] at hat
    obtain rfl := Option.some.inj hat
    refine ⟨⟨E, g1.h, g1.x⟩, ρ, S, hQ, hrep.size, hrep.defers, fun x => ?_, hrep.sim, hrep.post, hrep.fresh, hrep.le, hrep.dom⟩
    show VR S w ρ (tget E x) _
    obtain ⟨e1, e2⟩ := entX_spec l its tm0 x hp.len hp.dist
    have : tget E x = tget tm x := by
      rw [hE]
      by_cases hx : ∃ (i : Nat) (o : Oper), l[i]? = some o ∧ o.dst = some x
      · obtain ⟨i, o, ho, hx⟩ := hx
        have hil : i < l.length := (List.getElem?_eq_some_iff.1 ho).1
        obtain ⟨it, hit⟩ : ∃ it, its[i]? = some it := ⟨_, List.getElem?_eq_getElem (by rw [← hp.len]; exact hil)⟩
        rw [e1 i o it ho hit hx, hE1 i o it x ho hit hx (hall i hil)]
      · rw [e2 (fun i o ho hx' => hx ⟨i, o, ho, hx'⟩), hE2 x (fun i o ho hx' => absurd ⟨i, o, ho, hx'⟩ hx)]
    rw [this]
    exact hrep.tmps x
  intro fuel
  induction fuel with
  | zero =>
    intro t a w s g hl hd
    have hr : Region.ready .any l.toArray t = [] := by
      refine List.eq_nil_iff_forall_not_mem.2 fun i hi => ?_
      obtain ⟨h1, h2, _⟩ := (ready_mem hd.size).1 hi
      have : left l.length t = 0 := by omega
      unfold left at this
      rw [List.countP_eq_zero] at this
      have := this i (List.mem_range.2 h1)
      unfold L at h2
      exact this (by revert h2; cases t.getD i false <;> simp)
    exact ⟨hr, fin t a w s g hd hr⟩
  | succ fuel ih =>
    intro t a w s g hl hd
    refine ⟨fin t a w s g hd, fun i hi => ?_⟩
    obtain ⟨h1, h2, o, ho, h3⟩ := (ready_mem hd.size).1 hi
    refine drawX_step hp hdn hT hb0 hob hd ho h2 h3 fun a' w' s' g' hd' => ih _ a' w' s' g' ?_ hd'
    have hts : i < t.size := by rw [hd.size]; exact h1
    have := countP_less (p := fun j => !(t.setIfInBounds i true).getD j false) (q := fun j => !t.getD j false) (l := List.range l.length) (fun x _ hx => ?_) (List.mem_range.2 h1) ?_ ?_
    · unfold left at hl ⊢; omega
    · by_cases e : i = x
      · subst e
        rw [show (t.setIfInBounds i true).getD i false = true from (L_set hts).2 (.inl rfl)] at hx
        cases hx
      · rw [getD_set_ne false e] at hx; exact hx
    · unfold L at h2; revert h2; cases t.getD i false <;> simp
    · show (!(t.setIfInBounds i true).getD i false) = false
      rw [show (t.setIfInBounds i true).getD i false = true from (L_set hts).2 (.inl rfl)]; rfl

/-- A region whose order is open. -/
theorem aw_drawX {id : Nat} {st0 : St} (hm : P.follows .mixedOrders = true) (hp : PlanX l its sg m dn un) (hT : SeesX l its st0.tm) (hdn : ∀ o ∈ l, ∀ d, o.dst = some d → d < n) {E : List (Nat × AV)} (hE : ∀ x, tget E x = entX l its st0.tm x)
    (hb0 : ∀ (i : Nat) (it : IX), its[i]? = some it → it.ef = true → st0.nx ≤ it.b0 ∧ it.b0 ≤ it.b1)
    (hob : ∀ (i s : Nat) (o : Oper), l[i]? = some o → s < sg.length → (∀ p ∈ edges o, dn p s = true) → un i s = true → ObX P l its sg i s) {g0 g1 : SG} (h0 : sg[0]? = some g0) (h0e : g0 = ⟨[], st0.h, st0.nx⟩) (hH : sg[m]? = some g1) (hQ : Q .normal ⟨E, g1.h, g1.x⟩) :
    AW P c n (.region id l.toArray true) Q st0 := by
  intro ρ S a w hr
  have hno : ∀ i, ¬ L (Array.replicate l.length false) i := fun i h => by
    unfold L at h
    rw [Array.getD_eq_getD_getElem?, Array.getElem?_replicate] at h
    split at h <;> simp at h
  have hinit : DX c n l its sg st0.tm (Array.replicate l.length false) a w.drew 0 g0 := by
    refine ⟨by simp, fun i o _ h => (hno i h).elim, h0, fun i it hit he => ⟨fun h => (hno i h).elim, fun h => by rw [h0e] at h; cases h⟩, ?_⟩
    have hr' := hr.same (Same.drew w)
    refine ⟨st0.tm, ρ, S, by rw [h0e]; exact hr', fun i o it x _ _ _ h => (hno i h).elim, fun _ _ => rfl, fun i it hit he _ b h1 h2 => hr.fresh b (by have := (hb0 i it hit he).1; omega)⟩
  refine wp_region_any hm ?_
  have key := drawX_any (Q := Q) (c := c) hp hT hdn hE (fun i it hit he => ⟨Nat.le_trans hr.le (hb0 i it hit he).1, (hb0 i it hit he).2⟩) hob hH hQ l.length _ a w.drew 0 g0 (by
      unfold left
      exact Nat.le_trans List.countP_le_length (by simp)) hinit
  simpa using key
end
end Go.Proofs.Ytloddmbbfkejcaa.Abs
end
section
/-
  A machine that runs codes whose inputs are known: what it does. It holds of any program.
-/
namespace Go.Proofs.Ytloddmbbfkejcaa.Abs

def forceL {α β : Type} : List α → (List α → β) → β
  | [], k => k []
  | x :: xs, k => forceL xs fun ys => k (x :: ys)

theorem forceL_eq {α β : Type} : ∀ (l : List α) (k : List α → β), forceL l k = k l
  | [], _ => rfl
  | x :: xs, k => forceL_eq xs _

/-- What a block is, a slot's value: with quick tests. -/
def hgetF : Heap → Nat → Option Blk
  | [], _ => none
  | (i, b) :: t, j => match Nat.beq i j with
    | true => some b
    | false => hgetF t j

theorem hgetF_eq : ∀ (h : Heap) (j : Nat), hgetF h j = hget h j
  | [], _ => rfl
  | (i, b) :: t, j => by
    unfold hgetF hget
    by_cases e : i = j
    · subst e; rw [Nat.beq_refl]; simp
    · have : Nat.beq i j = false := by
        cases hb : Nat.beq i j with
        | false => rfl
        | true => exact absurd (Nat.eq_of_beq_eq_true hb) e
      rw [this, if_neg e]; exact hgetF_eq t j

def tgF : List (Nat × AV) → Nat → Option AV
  | [], _ => none
  | (i, v) :: t, j => match Nat.beq i j with
    | true => some v
    | false => tgF t j

theorem tgF_eq : ∀ (tm : List (Nat × AV)) (j : Nat), tgF tm j = tgetS tm j
  | [], _ => rfl
  | (i, b) :: t, j => by
    unfold tgF tgetS
    by_cases e : i = j
    · subst e; rw [Nat.beq_refl]; simp
    · have : Nat.beq i j = false := by
        cases hb : Nat.beq i j with
        | false => rfl
        | true => exact absurd (Nat.eq_of_beq_eq_true hb) e
      rw [this, if_neg e]; exact tgF_eq t j

def oeF (tm : List (Nat × AV)) : Operand → Option AV
  | .tmp t => tgF tm t
  | .const v => constS v
  | .global _ => none
  | .func f => some (.fn (.func f) [] [])

theorem oeF_spec {tm : List (Nat × AV)} {x : Operand} {v : AV} (h : oeF tm x = some v) : oevS tm x = some v := by
  cases x with
  | tmp t => exact (tgF_eq tm t).symm.trans h
  | const c => exact h
  | global g => exact h
  | func f => exact h

def oesF (tm : List (Nat × AV)) : List Operand → Option (List AV)
  | [] => some []
  | x :: t => match oeF tm x with
    | some v => match oesF tm t with
      | some r => some (v :: r)
      | none => none
    | none => none

theorem oesF_spec {tm : List (Nat × AV)} : ∀ {l : List Operand} {vs : List AV}, oesF tm l = some vs → oevsS tm l = some vs
  | [], _, h => h
  | x :: t, vs, h => by
    unfold oesF at h
    unfold oevsS
    split at h
    · rename_i v hv
      rw [oeF_spec hv]
      split at h
      · rename_i r hr
        rw [oesF_spec hr]
        exact h
      · cases h
    · cases h

mutual
/-- A heap without what nobody names any more: the names in a value. -/
def nmA (m : Nat) : AV → List Nat → List Nat
  | .ptr b _ _, acc => match Nat.ble m b with
    | true => b :: acc
    | false => acc
  | .own b _ _, acc => match Nat.ble m b with
    | true => b :: acc
    | false => acc
  | .omap b, acc => match Nat.ble m b with
    | true => b :: acc
    | false => acc
  | .fn _ xs ys, acc => nmL m xs (nmL m ys acc)
  | .ifc _ v, acc => nmA m v acc
  | .agg xs, acc => nmL m xs acc
  | .tup xs, acc => nmL m xs acc
  | _, acc => acc
def nmL (m : Nat) : List AV → List Nat → List Nat
  | [], acc => acc
  | x :: xs, acc => nmL m xs (nmA m x acc)
end

def nmB (m : Nat) : Blk → List Nat → List Nat
  | .cells _ xs, acc => nmL m xs acc
  | .map es, acc => es.foldl (fun a p => nmA m p.1 (nmA m p.2 a)) acc

def memF : List Nat → Nat → Bool
  | [], _ => false
  | i :: t, j => match Nat.beq i j with
    | true => true
    | false => memF t j

def reachN (m : Nat) (h : Heap) : Nat → List Nat → List Nat → List Nat
  | 0, _, seen => seen
  | _ + 1, [], seen => seen
  | k + 1, b :: w, seen => match memF seen b with
    | true => reachN m h k w seen
    | false => match hgetF h b with
      | some B => reachN m h k (nmB m B w) (b :: seen)
      | none => reachN m h k w seen

def oldRoots (m : Nat) : Heap → List Nat → List Nat
  | [], acc => acc
  | (i, B) :: t, acc => match Nat.blt i m with
    | true => oldRoots m t (nmB m B acc)
    | false => oldRoots m t acc

def keepH (p : Nat → Bool) : Heap → Heap
  | [] => []
  | (i, B) :: t => match p i with
    | true => (i, B) :: keepH p t
    | false => keepH p t

theorem keepH_get (p : Nat → Bool) : ∀ (h : Heap) (b : Nat) (B : Blk), hget (keepH p h) b = some B → hget h b = some B
  | [], _, _, h => by cases h
  | (i, X) :: t, b, B, h => by
    unfold keepH at h
    cases hp : p i with
    | true =>
      rw [hp] at h
      simp only [hget] at h ⊢
      split
      · rename_i e; rw [if_pos e] at h; exact h
      · rename_i e; rw [if_neg e] at h; exact keepH_get p t b B h
    | false =>
      rw [hp] at h
      simp only [hget]
      split
      · rename_i e
        subst e
        have : ∀ (t : Heap), hget (keepH p t) i = none := by
          intro t
          induction t with
          | nil => rfl
          | cons q t ih =>
            obtain ⟨j, Y⟩ := q
            unfold keepH
            cases hj : p j with
            | true =>
              simp only [hget]
              rw [if_neg (fun e => by rw [e, hp] at hj; cases hj)]
              exact ih
            | false => exact ih
        rw [this t] at h
        cases h
      · exact keepH_get p t b B h

def gcH (m : Nat) (roots : List Nat) (h : Heap) : Heap :=
  match reachN m h 100000 (oldRoots m h roots) [] with
  | seen => keepH (fun b => Nat.blt b m || memF seen b) h

theorem gcH_get (m : Nat) (roots : List Nat) (h : Heap) (b : Nat) (B : Blk) (hb : hget (gcH m roots h) b = some B) : hget h b = some B := keepH_get _ _ _ _ hb

def bytesOf : List AV → Option (List UInt8)
  | [] => some []
  | .int .u8 n :: t => match n, bytesOf t with
    | .ofNat m, some r => if Nat.blt m 256 then some (UInt8.ofNat m :: r) else none
    | _, _ => none
  | _ :: _ => none

def szOf (P : Program) (t : TypeId) : Option Nat := (P.info? t).map (·.size)

def intBin (b : BinOp) (k : IntKind) (m m' : Int) : Option AV :=
  match b with
  | .add => some (.int k (k.wrap (m + m')))
  | .sub => some (.int k (k.wrap (m - m')))
  | .mul => some (.int k (k.wrap (m * m')))
  | .quo => if m' = 0 then none else some (.int k (k.wrap (m.tdiv m')))
  | .rem => if m' = 0 then none else some (.int k (m.tmod m'))
  | .and => some (.int k (bits .and k m m'))
  | .or => some (.int k (bits .or k m m'))
  | .xor => some (.int k (bits .xor k m m'))
  | .eql => some (.bool (decide (m = m')))
  | .neq => some (.bool (decide (m ≠ m')))
  | .lss => some (.bool (decide (m < m')))
  | .leq => some (.bool (decide (m ≤ m')))
  | .gtr => some (.bool (decide (m > m')))
  | .geq => some (.bool (decide (m ≥ m')))
  | _ => none

def shBin (b : BinOp) (k : IntKind) (m m' : Int) : Option AV :=
  if 0 ≤ m' ∧ m' ≤ k.bits then
    match b with
    | .shl => some (.int k (k.wrap (m * 2 ^ m'.toNat)))
    | .shr => some (.int k (m / 2 ^ m'.toNat))
    | _ => none
  else none

def strBin (b : BinOp) (l l' : List UInt8) : Option AV :=
  match b with
  | .eql => some (.bool (decide (l = l')))
  | .neq => some (.bool (decide (l ≠ l')))
  | .lss => some (.bool (bless l l'))
  | .leq => some (.bool (bless l l' || l == l'))
  | .gtr => some (.bool (!(bless l l' || l == l')))
  | .geq => some (.bool (!bless l l'))
  | .add => if l.length + l'.length ≤ 9223372036854775807 then some (sb (l ++ l')) else none
  | _ => none

def nilP? : AV → Option Bool
  | .ptr _ _ _ => some false
  | .nilp => some true
  | _ => none
def nilS? : AV → Option Bool
  | .sl _ (_ :: _) => some false
  | .own _ _ (_ + 1) => some false
  | .nils => some true
  | _ => none

def isNilConst : Operand → Bool
  | .const (.pointer none) => true
  | _ => false
def isNilsConst : Operand → Bool
  | .const (.slice none 0 0) => true
  | _ => false

/-- Structs of numbers, truths and texts, field by field. -/
def eqFA (P : Program) : List Field → List AV → List AV → Option Bool
  | [], _, _ => some true
  | f :: fs, xs, ys => if f.name = "_" then none else match P.underlying f.type, xs[f.offset]?, ys[f.offset]? with
    | some (.int _), some (.int k m), some (.int k' m') => if k = k' then (if m = m' then eqFA P fs xs ys else some false) else none
    | some .bool, some (.bool p), some (.bool q) => if p == q then eqFA P fs xs ys else some false
    | some .string, some (.str s), some (.str s') => if s.data.toList = s'.data.toList then eqFA P fs xs ys else some false
    | _, _, _ => none

def stepBin (P : Program) (b : BinOp) (t : TypeId) (x y : Operand) (tm : List (Nat × AV)) : Option AV :=
  match oeF tm x with
  | some (.int k m) => match oeF tm y with
    | some (.int k' m') => match b with
      | .shl => shBin .shl k m m'
      | .shr => shBin .shr k m m'
      | b => if k = k' then intBin b k m m' else none
    | _ => none
  | some (.str s) => match oeF tm y with
    | some (.str s') => strBin b s.data.toList s'.data.toList
    | _ => none
  | some (.bool p) => match oeF tm y, P.underlying t with
    | some (.bool q), some .bool => match b with
      | .eql => some (.bool (p == q))
      | .neq => some (.bool (p != q))
      | _ => none
    | _, _ => none
  | some v => match P.underlying t with
    | some (.slice _) => if isNilsConst y then match nilS? v, b with
        | some r, .eql => some (.bool r)
        | some r, .neq => some (.bool (!r))
        | _, _ => none
      else none
    | some (.pointer e) => if isNilConst y && Nat.beq e (P.pointee t) then match nilP? v, b with
        | some r, .eql => some (.bool r)
        | some r, .neq => some (.bool (!r))
        | _, _ => none
      else none
    | some (.struct fs) => match v, oeF tm y with
      | .agg xs, some (.agg ys) => if !(P.stoodInHeld t) && !(P.eqGuardType P.depth t) then match eqFA P fs.toList xs ys, b with
          | some r, .eql => some (.bool r)
          | some r, .neq => some (.bool (!r))
          | _, _ => none
        else none
      | _, _ => none
    | _ => none
  | none => none

def bound (tm : List (Nat × AV)) (o : Option Operand) (dflt : Nat) : Option Nat :=
  match o with
  | none => some dflt
  | some x => match oeF tm x with
    | some (.int _ (.ofNat m)) => some m
    | _ => none

def partsS (P : Program) (tm : List (Nat × AV)) (fs : Array Field) : List (Nat × Operand) → Option (List (Nat × AV))
  | [] => some []
  | (i, x) :: t => match fs[i]?, oeF tm x, partsS P tm fs t with
    | some f, some v, some r => match szOf P f.type with
      | some m => if v.known && Nat.beq m v.cells.length then some ((f.offset, v) :: r) else none
      | none => none
    | _, _, _ => none

def stepV0 (P : Program) (tm : List (Nat × AV)) (x : Operand) : Option AV :=
  oeF tm x

def stepV1 (P : Program) (tm : List (Nat × AV)) (x : Operand) : Option AV :=
  oeF tm x

def stepV2 (P : Program) (tm : List (Nat × AV)) (q : Operand) (x : Operand) (y : Operand) : Option AV :=
  match oeF tm q with
    | some (.bool true) => oeF tm x
    | some (.bool false) => oeF tm y
    | _ => none

def stepV3 (P : Program) (tm : List (Nat × AV)) (x : Operand) : Option AV :=
  match oeF tm x with
    | some (.ptr b i o) => some (.ptr b i o)
    | some (.lp cs) => some (.lp cs)
    | some (.fn (.func f) a b) => some (.fn (.func f) a b)
    | _ => none

def stepV4 (P : Program) (tm : List (Nat × AV)) (x : Operand) : Option AV :=
  match oeF tm x with
    | some (.bool b) => some (.bool (!b))
    | _ => none

def stepV5 (P : Program) (tm : List (Nat × AV)) (b : BinOp) (t : TypeId) (x : Operand) (y : Operand) : Option AV :=
  stepBin P b t x y tm

def stepV6 (P : Program) (tm : List (Nat × AV)) (s : TypeId) (d : TypeId) (x : Operand) : Option AV :=
  match oeF tm x, P.underlying s, P.underlying d with
    | some (.int _ m), some (.int _), some (.int k') => some (.int k' (k'.wrap m))
    | some (.str z), some .string, some .string => some (.str z)
    | some (.sl 1 xs), some (.slice e), some .string => match P.underlying e, bytesOf xs with
      | some (.int .u8), some l => some (sb l)
      | _, _ => none
    | some .nils, some (.slice e), some .string => match P.underlying e with
      | some (.int .u8) => some (sb [])
      | _ => none
    | _, _, _ => none

def stepV7 (P : Program) (tm : List (Nat × AV)) (t : TypeId) (parts : Array (Nat × Operand)) : Option AV :=
  match P.underlying t, P.info? t with
    | some (.struct fs), some i => match i.zero with
      | some (.agg z) => if (z.toList.map ofConst1).all AV.one && fs.toList.all (fun f => (szOf P f.type).isSome) then match partsS P tm fs parts.toList with
          | some ps => match fillA (z.toList.map ofConst1) ps with
            | some cs => some (.agg cs)
            | none => none
          | none => none
        else none
      | _ => none
    | _, _ => none

def stepV8 (P : Program) (tm : List (Nat × AV)) (fn : Fn) (fs : Array Operand) (cs : Array Operand) : Option AV :=
  match oesF tm fs.toList, oesF tm cs.toList with
    | some xs, some ys => some (.fn fn xs ys)
    | _, _ => none

def stepV9 (P : Program) (tm : List (Nat × AV)) (x : Operand) (i : Nat) : Option AV :=
  match oeF tm x with
    | some (.tup vs) => vs[i]?
    | _ => none

def stepV10 (P : Program) (tm : List (Nat × AV)) (t : TypeId) (x : Operand) (y : Operand) : Option AV :=
  match P.underlying t, oeF tm x, oeF tm y with
    | some .string, some (.str s), some (.int _ (.ofNat m)) => match s.data.toList[m]? with
      | some b => some (.int .u8 b.toNat)
      | none => none
    | _, _, _ => none

def stepV11 (P : Program) (tm : List (Nat × AV)) (s : TypeId) (x : Operand) (k : Nat) : Option AV :=
  match P.underlying s with
    | some (.struct fs) => match fs[k]? with
      | some f => match szOf P f.type with
        | some (_ + 1) => match oeF tm x with
          | some (.ptr b i o) => some (.ptr b i (o + f.offset))
          | some (.lp cs) => some (.lp (cs.drop f.offset))
          | _ => none
        | _ => none
      | none => none
    | _ => none

def stepV12 (P : Program) (tm : List (Nat × AV)) (t : TypeId) (x : Operand) (y : Operand) : Option AV :=
  match P.underlying t with
    | some (.slice e) => match oeF tm x, oeF tm y, szOf P e with
      | some (.sl sz xs), some (.int _ (.ofNat m)), some sz' => if sz = sz' then match xs[m]? with
          | some v => some (.lp v.cells)
          | none => none
        else none
      | _, _, _ => none
    | _ => none

def stepV13 (P : Program) (tm : List (Nat × AV)) (t : TypeId) (x : Operand) : Option AV :=
  match oeF tm x, P.underlying t with
    | some (.lp cs), some d => if isAggD d then match szOf P t with
        | some m => match part cs 0 m with
          | some ds => some (.agg ds)
          | none => none
        | none => none
      else cs[0]?
    | _, _ => none

def stepV14 (P : Program) (tm : List (Nat × AV)) (t : TypeId) (x : Operand) (lo : Option Operand) (hi : Option Operand) : Option AV :=
  match oeF tm x, P.underlying t with
    | some (.str s), some .string => match bound tm lo 0, bound tm hi s.data.toList.length with
      | some l, some m => if Nat.ble l m && Nat.ble m s.data.toList.length then some (sb ((s.data.toList.drop l).take (m - l))) else none
      | _, _ => none
    | some (.sl sz xs), some (.slice e) => match bound tm lo 0, bound tm hi xs.length, szOf P e with
      | some l, some m, some sz' => if sz = sz' ∧ (Nat.ble l m && Nat.ble m xs.length) = true then some (.sl sz ((xs.drop l).take (m - l))) else none
      | _, _, _ => none
    | some .nils, some (.slice e) => match bound tm lo 0, bound tm hi 0, szOf P e with
      | some 0, some 0, some _ => some .nils
      | _, _, _ => none
    | _, _ => none

def stepV15 (P : Program) (tm : List (Nat × AV)) (x : Operand) (t : TypeId) : Option AV :=
  match oeF tm x, P.underlying t with
    | some (.sl _ xs), some (.slice _) => some (.int .i64 xs.length)
    | some (.own _ _ len), some (.slice _) => some (.int .i64 len)
    | some .nils, some (.slice _) => some (.int .i64 0)
    | some (.str s), some .string => some (.int .i64 s.data.toList.length)
    | _, _ => none

def stepV16 (P : Program) (tm : List (Nat × AV)) (x : Operand) (t : TypeId) : Option AV :=
  match oeF tm x, P.underlying t with
    | some .nils, some (.slice _) => some (.int .i64 0)
    | _, _ => none

def stepV17 (P : Program) (tm : List (Nat × AV)) (x : Operand) (y : Operand) : Option AV :=
  match oeF tm x, oeF tm y with
    | some (.int k m), some (.int k' m') => if k = k' then some (.int k (min m m')) else none
    | _, _ => none

def stepV18 (P : Program) (tm : List (Nat × AV)) (x : Operand) (y : Operand) : Option AV :=
  match oeF tm x, oeF tm y with
    | some (.int k m), some (.int k' m') => if k = k' then some (.int k (max m m')) else none
    | _, _ => none

/-- What needs no heap. -/
def stepVa (P : Program) (tm : List (Nat × AV)) (t : TypeId) (x : Operand) : Option AV :=
  match oeF tm x with
  | some v => if P.concrete t then some (.ifc t v) else none
  | none => none

def stepVb (P : Program) (tm : List (Nat × AV)) (x : Operand) (t : TypeId) (ok : Bool) : Option AV :=
  match oeF tm x, P.underlying t with
  | some (.ifc t' v), some (.struct _) => if t' = t then some (if ok then .tup [v, .bool true] else v) else none
  | _, _ => none

def stepVc (P : Program) (tm : List (Nat × AV)) (t : TypeId) (x : Operand) (k : Nat) : Option AV :=
  match P.underlying t, oeF tm x with
  | some (.struct fs), some (.agg cs) => match fs[k]? with
    | some f => match P.underlying f.type with
      | some d => if isAggD d then match szOf P f.type with
          | some m => match part cs f.offset m with
            | some ds => some (.agg ds)
            | none => none
          | none => none
        else cs[f.offset]?
      | none => none
    | none => none
  | _, _ => none

def stepV (P : Program) (op : Op) (tm : List (Nat × AV)) : Option AV :=
  match op with
  | .field t x k => stepVc P tm t x k
  | .makeInterface t x => stepVa P tm t x
  | .typeAssert x _ t ok => stepVb P tm x t ok
  | .move x => stepV0 P tm x
  | .assign x => stepV1 P tm x
  | .pick q x y => stepV2 P tm q x y
  | .nilCheck x => stepV3 P tm x
  | .unOp .not _ x => stepV4 P tm x
  | .binOp b t x y _ => stepV5 P tm b t x y
  | .convert s d x => stepV6 P tm s d x
  | .build t parts => stepV7 P tm t parts
  | .makeFunc fn fs cs => stepV8 P tm fn fs cs
  | .extract x i => stepV9 P tm x i
  | .index t x y => stepV10 P tm t x y
  | .fieldAddr s x k => stepV11 P tm s x k
  | .indexAddr t x y => stepV12 P tm t x y
  | .load t x => stepV13 P tm t x
  | .slice t x lo hi none => stepV14 P tm t x lo hi
  | .call { callee := .builtin .len, args := ⟨[x]⟩, argTypes := ⟨[t]⟩ } => stepV15 P tm x t
  | .call { callee := .builtin .cap, args := ⟨[x]⟩, argTypes := ⟨[t]⟩ } => stepV16 P tm x t
  | .call { callee := .builtin .min, args := ⟨[x, y]⟩, argTypes := _ } => stepV17 P tm x y
  | .call { callee := .builtin .max, args := ⟨[x, y]⟩, argTypes := _ } => stepV18 P tm x y
  | _ => none

def stepH0 (P : Program) (tm : List (Nat × AV)) (h : Heap) (t : TypeId) (x : Operand) : Option AV :=
  match oeF tm x, P.underlying t with
    | some (.ptr b i o), some d => match hgetF h b with
      | some (.cells _ xs) => match xs[i]? with
        | some e => if isAggD d then match szOf P t with
            | some m => match part e.cells o m with
              | some cs => some (.agg cs)
              | none => none
            | none => none
          else e.cells[o]?
        | none => none
      | _ => none
    | _, _ => none

def stepH1 (P : Program) (tm : List (Nat × AV)) (h : Heap) (t : TypeId) (x : Operand) (y : Operand) : Option AV :=
  match P.underlying t with
    | some (.slice e) => match oeF tm x, oeF tm y, szOf P e with
      | some (.own b st len), some (.int _ (.ofNat m)), some sz => match hgetF h b with
        | some (.cells sz' _) => if Nat.blt m len && Nat.beq sz sz' then some (.ptr b (st + m) 0) else none
        | _ => none
      | _, _, _ => none
    | _ => none

def stepH2 (P : Program) (tm : List (Nat × AV)) (h : Heap) (t : TypeId) (x : Operand) (lo : Option Operand) (hi : Option Operand) : Option AV :=
  match oeF tm x, P.underlying t with
    | some (.own b st len), some (.slice e) => match bound tm lo 0, bound tm hi len, szOf P e with
      | some l, some m, some sz => match hgetF h b with
        | some (.cells sz' _) => if Nat.ble l m && Nat.ble m len && Nat.beq sz sz' then some (.own b (st + l) (m - l)) else none
        | _ => none
      | _, _, _ => none
    | _, _ => none

def stepH3 (P : Program) (tm : List (Nat × AV)) (h : Heap) (s : TypeId) (d : TypeId) (x : Operand) : Option AV :=
  match oeF tm x, P.underlying s, P.underlying d with
    | some (.own b st len), some (.slice e), some .string => match P.underlying e, hgetF h b with
      | some (.int .u8), some (.cells 1 xs) => if Nat.ble (st + len) xs.length then match bytesOf ((xs.drop st).take len) with
          | some l => some (sb l)
          | none => none
        else none
      | _, _ => none
    | _, _, _ => none

/-- What looks at the heap. -/
def stepH (P : Program) (op : Op) (tm : List (Nat × AV)) (h : Heap) : Option AV :=
  match op with
  | .load t x => stepH0 P tm h t x
  | .indexAddr t x y => stepH1 P tm h t x y
  | .slice t x lo hi none => stepH2 P tm h t x lo hi
  | .convert s d x => stepH3 P tm h s d x
  | _ => none

def zeroOK (z : Value) (sz : Nat) : Bool := Nat.beq z.cells.size sz && z.cells.toList.all fun u => u.oneCell'

def srcS (tm : List (Nat × AV)) (h : Heap) (y : Operand) (str : Bool) (sz : Nat) : Option (List AV) :=
  match oeF tm y with
  | some (.str s) => if str && Nat.beq sz 1 then some (bl s.data.toList) else none
  | some (.sl sz' xs) => if !str && Nat.beq sz sz' && xs.all (fun x => Nat.beq x.cells.length sz) then some xs else none
  | some .nils => if str then none else some []
  | some (.own b st len) => match hgetF h b with
    | some (.cells sz' xs) => if !str && Nat.beq sz sz' && Nat.ble (st + len) xs.length && xs.all (fun x => Nat.beq x.cells.length sz) then some ((xs.drop st).take len) else none
    | _ => none
  | _ => none

def elemInfo (P : Program) (e : TypeId) : Option (Value × Nat × Nat) :=
  match P.info? e with
  | some i => match i.zero with
    | some z => if zeroOK z i.size && Nat.blt 0 i.size then some (z, i.size, i.bytes) else none
    | none => none
  | none => none

def rangeOK : Nat → List (Nat × Operand) → Bool
  | _, [] => true
  | i, p :: t => Nat.beq p.1 i && rangeOK (i + 1) t

def stepO0 (P : Program) (tm : List (Nat × AV)) (h : Heap) (nx : Nat) (x : Operand) : Option (AV × Heap × Nat) :=
  match oeF tm x with
    | some v => if v.known then some (.ptr nx 0 0, (nx, .cells v.cells.length [v]) :: h, nx + 1) else none
    | none => none

def stepO1 (P : Program) (tm : List (Nat × AV)) (h : Heap) (nx : Nat) (t : TypeId) : Option (AV × Heap × Nat) :=
  match P.info? t with
    | some i => match i.zero with
      | some z => match constS z with
        | some v => if v.known then some (.ptr nx 0 0, (nx, .cells v.cells.length [v]) :: h, nx + 1) else none
        | none => none
      | none => none
    | none => none

def stepO2 (P : Program) (tm : List (Nat × AV)) (h : Heap) (nx : Nat) (t : TypeId) (x : Operand) (y : Operand) : Option (AV × Heap × Nat) :=
  match P.underlying t with
    | some (.slice e) => match elemInfo P e, oeF tm x, oeF tm y with
      | some (z, sz, bytes), some (.int _ (.ofNat m)), some (.int _ (.ofNat m')) => match constS z with
        | some v => if v.known && Nat.beq v.cells.length sz && Nat.beq m m' && Nat.ble (bytes * m) 281474976710656 && Nat.ble m 9223372036854775807 then some (.own nx 0 m, (nx, .cells sz (List.replicate m v)) :: h, nx + 1) else none
        | none => none
      | _, _, _ => none
    | _ => none

def stepO3 (P : Program) (tm : List (Nat × AV)) (h : Heap) (nx : Nat) (t : TypeId) (len : Nat) (parts : Array (Nat × Operand)) : Option (AV × Heap × Nat) :=
  match P.underlying t with
    | some (.slice e) => match elemInfo P e, oesF tm (parts.toList.map (·.2)) with
      | some (_, sz, _), some vs => if rangeOK 0 parts.toList && Nat.beq vs.length len && Nat.ble (len * sz) 16777216 && vs.all (fun v => v.known && Nat.beq v.cells.length sz) then some (.own nx 0 len, (nx, .cells sz vs) :: h, nx + 1) else none
      | _, _ => none
    | _ => none

def stepO4 (P : Program) (tm : List (Nat × AV)) (h : Heap) (nx : Nat) (t : TypeId) (x : Operand) (y : Operand) : Option (AV × Heap × Nat) :=
  match oeF tm x, oeF tm y, szOf P t with
    | some (.ptr b i o), some v, some m => match hgetF h b with
      | some (.cells sz xs) => match xs[i]? with
        | some e => if v.known && Nat.beq e.cells.length sz && Nat.beq v.cells.length m then
            (if e.one && v.one && Nat.beq sz 1 && Nat.beq o 0 && Nat.beq m 1 then match setS xs i v with
              | some xs' => match hsetS h b (.cells sz xs') with
                | some h' => some (.top, h', nx)
                | none => none
              | none => none
            else match spl e.cells o v.cells with
              | some cs => match setS xs i (.agg cs) with
                | some xs' => match hsetS h b (.cells sz xs') with
                  | some h' => some (.top, h', nx)
                  | none => none
                | none => none
              | none => none)
          else none
        | none => none
      | _ => none
    | _, _, _ => none

def stepO5 (P : Program) (tm : List (Nat × AV)) (h : Heap) (nx : Nat) (x : Operand) (y : Operand) (t : TypeId) (tx : TypeId) : Option (AV × Heap × Nat) :=
  match P.underlying t, P.underlying tx with
    | some (.slice e), some (.int _) => match elemInfo P e, oeF tm x, oeF tm y with
      | some (_, sz, bytes), some .nils, some (.int _ (.ofNat (m + 1))) => if Nat.ble ((m + 1) * bytes) 140737488355328 && Nat.ble (m + 1) 140737488355328 then some (.own nx 0 (m + 1), (nx, .cells sz []) :: h, nx + 1) else none
      | _, _, _ => none
    | some (.slice e), some dx => match elemInfo P e, (match dx with | .string => some true | .slice _ => some false | _ => none) with
      | some (_, sz, bytes), some str => match srcS tm h y str sz, oeF tm x with
        | some ys, some .nils => if Nat.ble (ys.length * bytes) 140737488355328 && Nat.ble ys.length 9223372036854775807 then some (.own nx 0 ys.length, (nx, .cells sz ys) :: h, nx + 1) else none
        | some ys, some (.own b st len) => match hgetF h b with
          | some (.cells sz' xs) => if Nat.beq st 0 && Nat.beq sz sz' && Nat.beq len xs.length && Nat.ble ((len + ys.length) * bytes) 140737488355328 && Nat.ble (len + ys.length) 9223372036854775807 then
              match hdelS h b with
              | some h2 => forceL (xs ++ ys) fun zs => some (.own nx 0 zs.length, (nx, .cells sz zs) :: h2, nx + 1)
              | none => none
            else none
          | _ => none
        | _, _ => none
      | _, _ => none
    | _, _ => none

def stepOc (P : Program) (tm : List (Nat × AV)) (h : Heap) (nx : Nat) (x : Operand) (t : TypeId) : Option (AV × Heap × Nat) :=
  match P.underlying t, oeF tm x with
  | some (.slice _), some .nils => some (.tup [], h, nx)
  | some (.slice _), some (.sl _ []) => some (.tup [], h, nx)
  | some (.slice _), some (.own _ _ 0) => some (.tup [], h, nx)
  | some (.slice e), some (.own b st (len + 1)) => match elemInfo P e, hgetF h b with
    | some (_, sz, _), some (.cells sz' xs) => if Nat.beq sz sz' && Nat.ble st xs.length then match hsetS h b (.cells sz (xs.take st)) with
        | some h' => some (.tup [], h', nx)
        | none => none
      else none
    | _, _ => none
  | _, _ => none

/-- What turns the heap, but for calls. -/
def stepO (P : Program) (op : Op) (tm : List (Nat × AV)) (h : Heap) (nx : Nat) : Option (AV × Heap × Nat) :=
  match op with
  | .box _ x => stepO0 P tm h nx x
  | .alloc t => stepO1 P tm h nx t
  | .makeSlice t x y => stepO2 P tm h nx t x y
  | .buildSlice t len parts => stepO3 P tm h nx t len parts
  | .store t x y => stepO4 P tm h nx t x y
  | .call { callee := .builtin .append, args := ⟨[x, y]⟩, argTypes := ⟨[t, tx]⟩ } => stepO5 P tm h nx x y t tx
  | .call { callee := .builtin .clear, args := ⟨[x]⟩, argTypes := ⟨[t]⟩ } => stepOc P tm h nx x t
  | _ => none

/-- What leaves the heap alone but makes what is read alone. -/
def stepF (P : Program) (op : Op) (tm : List (Nat × AV)) : Option AV :=
  match op with
  | .buildSlice t len parts => match P.underlying t with
    | some (.slice e) => match elemInfo P e, oesF tm (parts.toList.map (·.2)) with
      | some (_, sz, _), some vs => if rangeOK 0 parts.toList && Nat.beq vs.length len && Nat.ble (len * sz) 16777216 && vs.all (fun v => v.known && Nat.beq v.cells.length sz) && vs.all AV.plain then some (.sl sz vs) else none
      | _, _ => none
    | _ => none
  | .convert s d x => match oeF tm x, P.underlying s, P.underlying d with
    | some (.str z), some .string, some (.slice e) => match P.underlying e with
      | some (.int .u8) => some (.sl 1 (bl z.data.toList))
      | _ => none
    | _, _, _ => none
  | _ => none

def forceN {α : Type} (n : Nat) (k : Nat → α) : α :=
  match n + 1 with
  | 0 => k n
  | m + 1 => k m

theorem forceN_eq {α : Type} (n : Nat) (k : Nat → α) : forceN n k = k n := rfl

def forceI {α : Type} (n : Int) (k : Int → α) : α :=
  match n with
  | .ofNat m => forceN m fun m => k (.ofNat m)
  | .negSucc m => forceN m fun m => k (.negSucc m)

def forceV {α : Type} (v : AV) (k : AV → α) : α :=
  match v with
  | .int i n => forceI n fun n => k (.int i n)
  | .bool b => match b with
    | true => k (.bool true)
    | false => k (.bool false)
  | .ptr b i o => forceN i fun i => forceN o fun o => k (.ptr b i o)
  | .own b st len => forceN st fun st => forceN len fun len => k (.own b st len)
  | v => k v

abbrev CF := FuncId → List AV → Heap → Nat → Option (AV × Heap × Nat)

def callArgs (tm : List (Nat × AV)) (c : Call) : Option (FuncId × List AV) :=
  match c.callee with
  | .value fo => match oeF tm fo, oesF tm c.args.toList with
    | some (.fn (.func f) first caps), some args => some (f, first ++ (args ++ caps))
    | _, _ => none
  | _ => none

def isCall : Op → Option Call
  | .call c => match c.callee with
    | .value _ => some c
    | _ => none
  | _ => none

def isInv : Op → Option (Operand × String × Array Operand)
  | .call c => match c.callee with
    | .invoke r m => some (r, m, c.args)
    | _ => none
  | _ => none

def methF (P : Program) (t : TypeId) (name : String) : Option (FuncId × Bool × TypeId) :=
  match P.info? t, P.underlying t with
  | some i, some (.pointer e) => match i.methods.find? (·.name == name) with
    | some m => match m.path.toList, m.func with
      | [], some (f, pr) => some (f, pr, e)
      | _, _ => none
    | none => none
  | _, _ => none

/-- A method of a value behind an interface. -/
def anyI (P : Program) (cf : CF) (r : Operand) (m : String) (xs : Array Operand) (tm : List (Nat × AV)) (h : Heap) (nx : Nat) : Option (AV × Heap × Nat) :=
  match oeF tm r, oesF tm xs.toList with
  | some (.ifc t (.ptr b i o)), some aa => match methF P t m with
    | some (f, pr, e) => match (if pr then some (.ptr b i o) else stepH0 P [(0, .ptr b i o)] h e (.tmp 0)) with
      | some rv => match cf f (rv :: aa) h nx with
        | some (v, h', nx') => if Nat.ble nx nx' then some (v, h', nx') else none
        | none => none
      | none => none
    | none => none
  | _, _ => none

def ordOf : Op → Nat
  | .box _ _ => 2
  | .alloc _ => 2
  | .makeSlice _ _ _ => 2
  | .buildSlice _ _ _ => 2
  | .store _ _ _ => 2
  | .load _ _ => 1
  | .indexAddr _ _ _ => 1
  | .slice _ _ _ _ _ => 1
  | .convert _ _ _ => 1
  | .call _ => 3
  | _ => 0

def anyV (P : Program) (op : Op) (tm : List (Nat × AV)) (h : Heap) (nx : Nat) : Option (AV × Heap × Nat) :=
  match stepV P op tm with
  | some v => some (v, h, nx)
  | none => none

def anyH (P : Program) (op : Op) (tm : List (Nat × AV)) (h : Heap) (nx : Nat) : Option (AV × Heap × Nat) :=
  match stepH P op tm h with
  | some v => some (v, h, nx)
  | none => match stepV P op tm with
    | some v => some (v, h, nx)
    | none => match stepF P op tm with
      | some v => some (v, h, nx)
      | none => none

def anyC (P : Program) (cf : CF) (op : Op) (tm : List (Nat × AV)) (h : Heap) (nx : Nat) : Option (AV × Heap × Nat) :=
  match isCall op with
  | some c => match callArgs tm c with
    | some (f, args) => match cf f args h nx with
      | some (r, h', nx') => if Nat.ble nx nx' then some (r, h', nx') else none
      | none => none
    | none => none
  | none => match isInv op with
    | some (r, m, xs) => anyI P cf r m xs tm h nx
    | none => match stepV P op tm with
      | some v => some (v, h, nx)
      | none => stepO P op tm h nx

/-- An operation in its place: its value, and what becomes of the heap. -/
def stepAny (P : Program) (cf : CF) (op : Op) (tm : List (Nat × AV)) (h : Heap) (nx : Nat) : Option (AV × Heap × Nat) :=
  match ordOf op with
  | 0 => anyV P op tm h nx
  | 1 => anyH P op tm h nx
  | 2 => stepO P op tm h nx
  | _ => anyC P cf op tm h nx

def dstOK (n : Nat) : Option Nat → Bool
  | none => true
  | some d => Nat.blt d n

def putF {α : Type} (d : Option Nat) (v : AV) (st : St) (k : St → α) : α :=
  match d with
  | some d => forceV v fun v => forceN st.nx fun nx => k ⟨(d, v) :: st.tm, st.h, nx⟩
  | none => forceN st.nx fun nx => k ⟨st.tm, st.h, nx⟩

def tgTop (tm : List (Nat × AV)) (d : Nat) : AV := match tgF tm d with
  | some v => v
  | none => .top

def gdst (ops : List Oper) (j : Nat) : Option Nat :=
  match ops[j]? with
  | some o => o.dst
  | none => none

/-- A region in its text's order. -/
def runOps (P : Program) (cf : CF) (n : Nat) (ops : List Oper) : List Oper → St → Option St
  | [], st => some st
  | o :: rest, st => if dstOK n o.dst then
      match o.guard with
      | none => match stepAny P cf o.op st.tm st.h st.nx with
        | some (v, h', nx') => putF o.dst v ⟨st.tm, h', nx'⟩ fun st' => runOps P cf n ops rest st'
        | none => none
      | some (j, b) => match gdst ops j with
        | some d => if Nat.blt d n then
            match gv (tgTop st.tm d) with
            | some g => if g == some b then
                match stepAny P cf o.op st.tm st.h st.nx with
                | some (v, h', nx') => putF o.dst v ⟨st.tm, h', nx'⟩ fun st' => runOps P cf n ops rest st'
                | none => none
              else putF o.dst (.tup []) st fun st' => runOps P cf n ops rest st'
            | none => none
          else none
        | none => none
    else none

mutual
/-- What is handed to a quiet call: rows of one's own are lent. -/
def lend1 (h : Heap) : AV → Option (Bool × AV)
  | .own b st len => match hgetF h b with
    | some (.cells sz xs) => if Nat.ble (st + len) xs.length && xs.all AV.plain then some (true, .sl sz ((xs.drop st).take len)) else none
    | _ => none
  | .agg xs => match lends h xs with
    | some (u, ys) => some (u, .agg ys)
    | none => none
  | v => if v.plain then some (false, v) else none
def lends (h : Heap) : List AV → Option (Bool × List AV)
  | [] => some (false, [])
  | x :: xs => match lend1 h x, lends h xs with
    | some (u, y), some (u', ys) => some (u || u', y :: ys)
    | _, _ => none
end

mutual
/-- What comes back is from then on read alone. -/
def frz1 (h : Heap) : AV → Option AV
  | .own b st len => match hgetF h b with
    | some (.cells sz xs) => if Nat.ble (st + len) xs.length && xs.all AV.plain then some (.sl sz ((xs.drop st).take len)) else none
    | _ => none
  | .agg xs => match frz2 h xs with
    | some ys => some (.agg ys)
    | none => none
  | .tup xs => match frz2 h xs with
    | some ys => some (.tup ys)
    | none => none
  | v => if v.plain then some v else none
def frz2 (h : Heap) : List AV → Option (List AV)
  | [] => some []
  | x :: xs => match frz1 h x, frz2 h xs with
    | some y, some ys => some (y :: ys)
    | _, _ => none
end

/-- Quiet, whatever the heap is. -/
def stepQ0 (P : Program) (cf : CF) (op : Op) (tm : List (Nat × AV)) : Option AV :=
  match isCall op with
  | some c => match callArgs tm c with
    | some (f, args) => if plains args then match cf f args [] 0 with
        | some (r, h', _) => frz1 h' r
        | none => none
      else none
    | none => none
  | none => match stepV P op tm with
    | some v => some v
    | none => stepF P op tm

/-- Quiet, at this heap. -/
def stepQ (P : Program) (cf : CF) (op : Op) (tm : List (Nat × AV)) (h : Heap) : Option AV :=
  match isCall op with
  | some c => match callArgs tm c with
    | some (f, args) => match lends h args with
      | some (_, largs) => match cf f largs [] 0 with
        | some (r, h', _) => if r.nosl && h'.all fun p => p.2.nosl then frz1 h' r else none
        | none => none
      | none => none
    | none => none
  | none => match stepV P op tm with
    | some v => some v
    | none => match stepH P op tm h with
      | some v => some v
      | none => stepF P op tm

mutual
def avEq : AV → AV → Bool
  | .top, .top => true
  | .bool a, .bool b => a == b
  | .int k n, .int k' n' => k == k' && n == n'
  | .str s, .str s' => s.data.toList == s'.data.toList
  | .nilp, .nilp => true
  | .ptr b i o, .ptr b' i' o' => Nat.beq b b' && Nat.beq i i' && Nat.beq o o'
  | .lp cs, .lp cs' => avsEq cs cs'
  | .nils, .nils => true
  | .sl sz xs, .sl sz' xs' => Nat.beq sz sz' && avsEq xs xs'
  | .own b st len, .own b' st' len' => Nat.beq b b' && Nat.beq st st' && Nat.beq len len'
  | .nilm, .nilm => true
  | .omap b, .omap b' => Nat.beq b b'
  | .fn f xs ys, .fn f' xs' ys' => decide (f = f') && avsEq xs xs' && avsEq ys ys'
  | .nilf, .nilf => true
  | .nili, .nili => true
  | .agg xs, .agg xs' => avsEq xs xs'
  | .tup xs, .tup xs' => avsEq xs xs'
  | _, _ => false
def avsEq : List AV → List AV → Bool
  | [], [] => true
  | x :: xs, y :: ys => avEq x y && avsEq xs ys
  | _, _ => false
end

def blkEq : Blk → Blk → Bool
  | .cells sz xs, .cells sz' xs' => Nat.beq sz sz' && avsEq xs xs'
  | _, _ => false

/-- The plan of a region whose order is open: per operation its kind (0 free, 1 quiet, 2 turns the heap) and what it reads; the stages (those that have run; how one comes there); where the text's own stages are; per operation the stages at which it may, at which it may not have run; other places of operations; the last stage. -/
structure PL where
  its : List (Nat × List Nat)
  sp : List (List Nat × Nat × Nat)
  tp : List Nat
  dn : List (List Nat)
  un : List (List Nat)
  ex : List (Nat × Nat × Nat)
  m : Nat

/-- What an operation came to: its value, whether it turned the heap, what it saw. -/
structure IV where
  v : AV
  ef : Bool
  tm : List (Nat × AV)

def rankV (its : List IV) (i : Nat) : Nat := (its.take i).countP fun it => it.ef

def giv (its : List IV) (j : Nat) : Option (Option Bool) :=
  match its[its.length - 1 - j]? with
  | some it => gv it.v
  | none => none

def selF (tm : List (Nat × AV)) : List Nat → Option (List (Nat × AV))
  | [] => some []
  | k :: ks => match tgF tm k, selF tm ks with
    | some v, some r => some ((k, v) :: r)
    | _, _ => none

/-- One walk in the text's order: the values, the heaps, which operations are free. -/
def runDraw (P : Program) (cf : CF) : List Oper → List (Nat × List Nat) → List IV → List (Heap × Nat) → List Nat → St → Option (List IV × List (Heap × Nat) × List Nat × St)
  | [], [], its, hs, fr, st => some (its, hs, fr, st)
  | o :: rest, (k, ks) :: ps, its, hs, fr, st =>
      let go : Unit → Option (List IV × List (Heap × Nat) × List Nat × St) := fun _ => match selF st.tm ks with
        | some tm1 => match k with
          | 0 => match stepQ0 P cf o.op tm1 with
            | some v => forceV v fun v => runDraw P cf rest ps (⟨v, false, tm1⟩ :: its) hs (its.length :: fr) (putA o.dst v st)
            | none => none
          | 1 => match stepQ P cf o.op tm1 st.h with
            | some v => forceV v fun v => runDraw P cf rest ps (⟨v, false, tm1⟩ :: its) hs fr (putA o.dst v st)
            | none => none
          | _ => match stepAny P cf o.op tm1 st.h st.nx with
            | some (v, h', nx') => forceV v fun v => forceN nx' fun nx' => runDraw P cf rest ps (⟨v, true, tm1⟩ :: its) ((h', nx') :: hs) fr (putA o.dst v ⟨st.tm, h', nx'⟩)
            | none => none
        | none => none
      match o.guard with
      | none => go ()
      | some (j, b) => if Nat.blt j its.length then match giv its j with
          | some g => if g == some b then go () else
              if Nat.ble 2 k then runDraw P cf rest ps (⟨.tup [], true, []⟩ :: its) ((st.h, st.nx) :: hs) fr (putA o.dst (.tup []) st)
              else runDraw P cf rest ps (⟨.tup [], false, []⟩ :: its) hs (its.length :: fr) (putA o.dst (.tup []) st)
          | none => none
        else none
  | _, _, _, _, _, _ => none

def b0of (its : List IV) (hs : List (Heap × Nat)) (i : Nat) : Nat := match hs[rankV its i]? with
  | some p => p.2
  | none => 0
def b1of (its : List IV) (hs : List (Heap × Nat)) (i : Nat) : Nat := match hs[rankV its i + 1]? with
  | some p => p.2
  | none => 0

def skipV (its : List IV) (g : Option (Nat × Bool)) : Bool := match g with
  | some (j, b) => match its[j]? with
    | some r => match gv r.v with
      | some w => !(w == some b)
      | none => false
    | none => false
  | none => false

/-- The stages' heaps. -/
def mkSg (P : Program) (cf : CF) (l : List Oper) (its : List IV) (hs : List (Heap × Nat)) : List (List Nat × Nat × Nat) → List SG → Option (List SG)
  | [], acc => some acc
  | (e, 0, k) :: t, acc => match hs[k]? with
    | some (h, x) => mkSg P cf l its hs t (acc ++ [⟨e, h, x⟩])
    | none => none
  | (e, p + 1, i) :: t, acc => match acc[p]?, l[i]?, its[i]? with
    | some g, some o, some it =>
      if skipV its o.guard then mkSg P cf l its hs t (acc ++ [⟨e, g.h, b1of its hs i⟩])
      else match stepAny P cf o.op it.tm g.h (b0of its hs i) with
        | some (_, h', x') => mkSg P cf l its hs t (acc ++ [⟨e, h', x'⟩])
        | none => none
    | _, _, _ => none

def heapEq : Heap → Heap → Bool
  | [], [] => true
  | (i, B) :: t, (j, C) :: u => Nat.beq i j && blkEq B C && heapEq t u
  | _, _ => false

def hrOK (X β β1 k : Nat) (H1 H2 : Heap) : Bool :=
  H2.all fun p => match hgetF H2 p.1 with
    | some B =>
      let b1 := if Nat.ble β p.1 && Nat.blt p.1 (β + k) then p.1 - β + X else p.1
      match hgetF H1 b1 with
      | some B1 => Nat.beq (dwn X β b1) p.1 && blkEq (B1.ren (dwn X β)) B && (Nat.ble X b1 || Nat.blt b1 β || Nat.ble β1 b1)
      | none => false
    | none => false

/-- Another place of an operation. -/
def exOK (P : Program) (cf : CF) (l : List Oper) (its : List IV) (hs : List (Heap × Nat)) (sg : List SG) (q : Nat × Nat × Nat) : Bool :=
  match l[q.1]?, its[q.1]?, sg[q.2.1]? with
  | some o, some it, some g =>
    match o.guard with
    | some (j, b) => match its[j]? with
      | some r => match gv r.v with
        | some w => if w == some b then go o it g else if it.ef then match sg[q.2.2]? with
            | some g' => heapEq g.h g'.h && Nat.ble g.x g'.x
            | none => false
          else true
        | none => false
      | none => false
    | none => go o it g
  | _, _, _ => false
where go (o : Oper) (it : IV) (g : SG) : Bool :=
    if it.ef then match sg[q.2.2]? with
        | some g' =>
          if Nat.ble g.x (b0of its hs q.1) then match stepAny P cf o.op it.tm g.h (b0of its hs q.1) with
            | some (v, h', x') => avEq v it.v && heapEq h' g'.h && Nat.beq x' (b1of its hs q.1) && Nat.beq g'.x x'
            | none => false
          else Nat.ble (b1of its hs q.1) g.x && Nat.beq g'.x g.x && match stepAny P cf o.op it.tm g.h g.x with
            | some (v1, h1, x1) => Nat.ble g.x x1 && Nat.ble (b0of its hs q.1 + (x1 - g.x)) (b1of its hs q.1) && avEq (v1.ren (dwn g.x (b0of its hs q.1))) it.v && hrOK g.x (b0of its hs q.1) (b1of its hs q.1) (x1 - g.x) h1 g'.h
            | none => false
        | none => false
      else match stepQ P cf o.op it.tm g.h with
        | some v => avEq v it.v
        | none => false

def dnF (ll : List (List Nat)) (i s : Nat) : Bool := match ll[i]? with
  | some r => r.contains s
  | none => false

def sameS (l l' : List Nat) : Bool := l.all l'.contains && l'.all l.contains

def isEf (pl : PL) (i : Nat) : Bool := match pl.its[i]? with
  | some (k, _) => Nat.ble 2 k
  | none => false

def rankP (its : List (Nat × List Nat)) (i : Nat) : Nat := (its.take i).countP fun p => Nat.ble 2 p.1

/-- What is looked at without the values. -/
def chkX1 (l : List Oper) (pl : PL) (i : Nat) (o : Oper) (k : Nat) (ks : List Nat) : Bool :=
  let ns := List.range pl.sp.length
  (edges o).all (fun p => Nat.blt p i) &&
  (match o.dst with | none => true | some d => (l.take i).all fun o' => !dstIs o' d) &&
  (if Nat.ble 2 k then ns.all fun s => match pl.sp[s]? with
      | some q => (!(q.1.contains i) || dnF pl.dn i s) && (q.1.contains i || dnF pl.un i s)
      | none => true
    else ns.all fun s => (!((edges o).all fun p => dnF pl.dn p s) || dnF pl.dn i s) &&
      (!((List.range l.length).all fun j => match l[j]? with
          | some o' => !((edges o').contains i) || dnF pl.un j s
          | none => true) || dnF pl.un i s)) &&
  (ks.all fun k => ((edges o).any fun p => match l[p]? with | some o' => dstIs o' k | none => false) || l.all fun o' => !dstIs o' k || (edges o').contains i) &&
  (match o.guard with | none => true | some (j, _) => (edges o).contains j && match l[j]? with | some o' => o'.dst.isSome | none => false) &&
  -- where it may stand
  (ns.all fun s => !((edges o).all fun p => dnF pl.dn p s) || !(dnF pl.un i s) || Nat.beq k 0 || (match pl.tp[rankP pl.its i]? with | some s' => Nat.beq s s' | none => false) || pl.ex.any fun q => Nat.beq q.1 i && Nat.beq q.2.1 s) &&
  -- the text's own next stage
  (!(Nat.ble 2 k) || match pl.tp[rankP pl.its i]?, pl.tp[rankP pl.its i + 1]? with
    | some s, some s' => match pl.sp[s]?, pl.sp[s']? with
      | some q, some q' => sameS q'.1 (i :: q.1)
      | _, _ => false
    | _, _ => false)

def chkX (l : List Oper) (pl : PL) : Bool :=
  Nat.beq l.length pl.its.length &&
  ((List.range l.length).all fun i => match l[i]?, pl.its[i]? with
    | some o, some (k, ks) => chkX1 l pl i o k ks
    | _, _ => true) &&
  ((List.range pl.sp.length).all fun s => match pl.sp[s]? with
    | some q => Nat.beq s pl.m || (List.range pl.its.length).any fun i => isEf pl i && !(q.1.contains i)
    | none => true) &&
  (pl.ex.all fun q => match pl.sp[q.2.1]?, pl.sp[q.2.2]? with
    | some r, some r' => !(isEf pl q.1) || sameS r'.1 (q.1 :: r.1)
    | _, _ => false) &&
  ((List.range pl.tp.length).all fun k => match pl.tp[k]? with
    | some s => match pl.sp[s]? with
      | some (_, 0, k') => Nat.beq k k'
      | _ => false
    | none => true) &&
  (match pl.tp[0]?, pl.sp[0]? with
    | some 0, some ([], 0, 0) => true
    | _, _ => false) &&
  (match pl.tp[rankP pl.its pl.its.length]? with
    | some s => Nat.beq s pl.m
    | none => false)

def monoX : List (Heap × Nat) → Bool
  | p :: q :: t => Nat.ble p.2 q.2 && monoX (q :: t)
  | _ => true

/-- How a run goes: the plans of the regions, and what is done with calls. -/
structure Cfg where
  pl : Nat → Nat → Option PL
  wrap : CF → CF

def res1S (P : Program) (tm : List (Nat × AV)) (h : Heap) : ResultVar → Option AV
  | .tmp t => tgetS tm t
  | .cell a t => stepH P (.load t (.tmp a)) tm h

def ressS (P : Program) (tm : List (Nat × AV)) (h : Heap) : List ResultVar → Option (List AV)
  | [] => some []
  | r :: l => match res1S P tm h r, ressS P tm h l with
    | some x, some xs => some (x :: xs)
    | _, _ => none

def resS (P : Program) (l : List ResultVar) (tm : List (Nat × AV)) (h : Heap) : Option AV :=
  match ressS P tm h l with
  | some [x] => some x
  | some xs => some (.tup xs)
  | none => none

def rootsR (m : Nat) (tm : List (Nat × AV)) : List ResultVar → List Nat → List Nat
  | [], acc => acc
  | .tmp t :: l, acc => rootsR m tm l (match tgF tm t with
    | some v => nmA m v acc
    | none => acc)
  | .cell t _ :: l, acc => rootsR m tm l (match tgF tm t with
    | some v => nmA m v acc
    | none => acc)

/-- The end of a function: what it hands back, and a heap without what nobody names. -/
def retF (P : Program) (l : List ResultVar) (nx : Nat) (st : St) : Option (AV × Heap × Nat) :=
  forceL (gcH nx (rootsR nx st.tm l []) st.h) fun h' => match resS P l st.tm h' with
    | some r => forceV r fun r => forceN st.nx fun nx' => some (r, h', nx')
    | none => none

abbrev Self := Nat → Nat → Code → St → Option (Exit × St)

def callFn (P : Program) (self : Self) : CF := fun f args h nx =>
  match P.funcs[f]? with
  | some fn => match fn.body with
    | some body => if Nat.ble args.length fn.ntmps && h.all (fun p => Nat.blt p.1 nx) && !(fn.name == "runtime.NumGoroutine") then
        match self fn.ntmps f body ⟨argTm args, h, nx⟩ with
        | some (.normal, st) => retF P fn.results.toList nx st
        | some (.ret, st) => retF P fn.results.toList nx st
        | _ => none
      else none
    | none => none
  | none => none

def dom : List (Nat × AV) → List Nat → List Nat
  | [], acc => acc
  | (i, _) :: t, acc => match memF acc i with
    | true => dom t acc
    | false => dom t (i :: acc)

def nmT (m : Nat) : List (Nat × AV) → List Nat → List Nat
  | [], acc => acc
  | (_, v) :: t, acc => nmT m t (nmA m v acc)

def loopN (body : St → Option (Exit × St)) (ks : List Nat) (m : Nat) : Nat → St → Option (Exit × St)
  | 0, _ => none
  | k + 1, st => match body st with
    | some (.normal, st') => match selF st'.tm ks with
      | some tm' => forceL (gcH m (nmT m tm' []) st'.h) fun h' => loopN body ks m k ⟨tm', h', st'.nx⟩
      | none => none
    | r => r

def drawn (P : Program) (cf : CF) (n : Nat) (l : List Oper) (pl : PL) (st : St) : Option St :=
  if chkX l pl && (l.all fun o => dstOK n o.dst) then
    match runDraw P cf l pl.its [] [(st.h, st.nx)] [] st with
    | some (its, hs, _, st') => if monoX hs.reverse then
        match mkSg P cf l its.reverse hs.reverse pl.sp [] with
        | some sg => if pl.ex.all (exOK P cf l its.reverse hs.reverse sg) then some st' else none
        | none => none
      else none
    | none => none
  else none

def runStep (P : Program) (T : Cfg) (self : Self) : Self := fun n f code st =>
  match code with
  | .skip => some (.normal, st)
  | .exit id => some (.exit id, st)
  | .ret => some (.ret, st)
  | .seq x y => match self n f x st with
    | some (.normal, st') => self n f y st'
    | r => r
  | .block id x => match self n f x st with
    | some (.exit id', st') => if Nat.beq id' id then some (.normal, st') else some (.exit id', st')
    | r => r
  | .cond o x y => match oeF st.tm o with
    | some (.bool true) => self n f x st
    | some (.bool false) => self n f y st
    | _ => none
  | .loop x => loopN (fun st => self n f x st) (dom st.tm []) st.nx 1000000 st
  | .region id ops true => match T.pl f id with
    | some pl => match drawn P (T.wrap (callFn P self)) n ops.toList pl st with
      | some st' => some (.normal, st')
      | none => none
    | none => none
  | .region _ ops false => match runOps P (T.wrap (callFn P self)) n ops.toList ops.toList st with
    | some st' => some (.normal, st')
    | none => none
  | _ => none

def run (P : Program) (T : Cfg) (n : Nat) : Self := Nat.rec (fun _ _ _ _ => none) (fun _ self => runStep P T self) n

def runF (P : Program) (T : Cfg) (n : Nat) : CF := T.wrap (callFn P (run P T n))

/-- Calls whose arguments are lent: the callee begins with no heap. -/
def lendCF (pu : Nat → Bool) (cf : CF) : CF := fun f args h nx =>
  match h with
  | [] => cf f args [] nx
  | p :: t => match pu f with
    | true => match lends (p :: t) args with
      | some (_, largs) => match cf f largs [] 0 with
        | some (r, h', n') => if (r.nosl && h'.all fun p => p.2.nosl) && ((p :: t).all fun p => Nat.blt p.1 nx) then
            forceL (h'.map (fun q => (q.1 + nx, q.2.ren (fun b => b + nx))) ++ p :: t) fun h1 => some (r.ren (fun b => b + nx), h1, nx + n')
          else cf f args (p :: t) nx
        | none => cf f args (p :: t) nx
      | none => cf f args (p :: t) nx
    | false => cf f args (p :: t) nx

/-- A call that is known. -/
structure EN where
  f : FuncId
  args : List AV
  r : AV
  h : Heap
  nx : Nat

def tabF (f : FuncId) (args : List AV) : List EN → Option (AV × Heap × Nat)
  | [] => none
  | e :: t => match Nat.beq e.f f with
    | true => match avsEq e.args args with
      | true => some (e.r, e.h, e.nx)
      | false => tabF f args t
    | false => tabF f args t

/-- Calls that are known first. -/
def tabCF (tab : List EN) (cf : CF) : CF := fun f args h nx =>
  match h, nx with
  | [], 0 => match tabF f args tab with
    | some r => some r
    | none => cf f args [] 0
  | h, nx => cf f args h nx

end Go.Proofs.Ytloddmbbfkejcaa.Abs
end
