/- Texts of this session, merged: AInschain, RunShardForms. -/
import Derived.Test.YtloddmbbfkejcaaGreatBShardForms2
set_option linter.unusedVariables false
set_option linter.unusedSimpArgs false
section
/-
  slices.Insert of one element into a row of one's own: by capacity it is put into the room behind, or a new row is made.
-/
-- hget_top: new rows have names that are not told
namespace Go.Proofs.YtloddmbbfkejcaaGreat.Abs

theorem ov_next_chain : Extern.findNext Tryz.f186 = none := by decide
set_option maxRecDepth 100000 in
theorem ov_find_chain : Extern.find Tryz.f186 = some (Extern.SlicesOverlaps.overlaps #[34, 34] #[4]) := by rfl
theorem ov_name_chain : (Tryz.f186.name == "runtime.NumGoroutine") = false := by decide

set_option maxHeartbeats 4000000 in
theorem insert_chain (l : List AV) (x : AV) (i K : Nat) (al : Bool) (hi : i ≤ l.length) (hl : l.length ≤ 100000) (hzl : ∀ z ∈ l, z.cells.length = 2) (hzx : ∀ z ∈ [x], z.cells.length = 2)
    (hren : ∀ σ : Nat → Nat, (∀ b, b < K + 2 → σ b = b) → (insA l i x).map (AV.ren σ) = insA l i x) (hal : al = true ∨ (Blk.cells 2 (insA l i x)).nosl = true) :
    AC Tryz.prog 163 [.own 0 0 l.length, .int .i64 i, .own 1 0 1] [(0, .cells 2 l), (1, .cells 2 [x])] (K + 2) al
      (fun v h nx => v = .own (K + 2) 0 (l.length + 1) ∧ h = [(K + 2, .cells 2 (insA l i x))] ∧ nx = K + 3) := by
  have hn1 : ([x] : List AV).length = 1 := rfl
  have hal' : al = true ∨ ((AV.own (K + 2) 0 (l.length + 1)).nosl = true ∧ ([(K + 2, Blk.cells 2 (insA l i x))] : Heap).all (fun p => p.2.nosl) = true) := hal.imp id fun h => ⟨rfl, by rw [List.all_cons, h]; rfl⟩
  have hsw : ∀ (j : Nat), (Blk.cells 2 (insA l i x)).ren (swp [] (K + 3) j) = .cells 2 (insA l i x) := fun j => by
    rw [Blk.ren, hren _ (fun b hb => by simp only [swp]; rw [if_pos (by omega)])]
  have hsw2 : ∀ (j : Nat), (Blk.cells 2 (insA l i x)).ren (swp [(K + 2, 0)] (K + 3) j) = .cells 2 (insA l i x) := fun j => by
    rw [Blk.ren, hren _ (fun b hb => by simp only [swp]; rw [if_neg (by omega), if_pos (by omega)])]
  by_cases h1 : i = l.length
  · skip
    refine ac_fn Tryz.func163 rfl rfl rfl rfl (fun w0 S0 r0 => ?_)
    refine aw_seq ?_
    refine aw_region ?_
    refine st_p (mva rfl) rfl ?_
    refine al_nil ?_
    refine nm ?_
    refine aw_seq ?_
    refine aw_region ?_
    refine st_p (mv rfl) rfl ?_
    refine st_p (mv rfl) rfl ?_
    first | refine st_p (op_sliceL Tryz.underlying34 z97 rfl (by exact ⟨_, rfl⟩) (by exact rfl) (by first | omega | (simp only [bl_len, List.length_map, List.length_append, List.length_take, List.length_drop]; omega)) (by first | omega | (simp only [bl_len, List.length_map, List.length_append, List.length_take, List.length_drop]; omega)) (by first | omega | (simp only [bl_len, List.length_map, List.length_append, List.length_take, List.length_drop]; omega))) rfl ?_ | refine st_p (op_slice Tryz.underlying34 z97 rfl rfl (by exact ⟨_, rfl⟩) (by exact rfl) (by first | omega | (simp only [bl_len, List.length_map, List.length_append, List.length_take, List.length_drop]; omega)) (by first | omega | (simp only [bl_len, List.length_map, List.length_append, List.length_take, List.length_drop]; omega)) (by first | omega | (simp only [bl_len, List.length_map, List.length_append, List.length_take, List.length_drop]; omega))) rfl ?_ | refine st_p (op_slice Tryz.underlying34 z97 rfl hget_top (by exact ⟨_, rfl⟩) (by exact rfl) (by first | omega | (simp only [bl_len, List.length_map, List.length_append, List.length_take, List.length_drop]; omega)) (by first | omega | (simp only [bl_len, List.length_map, List.length_append, List.length_take, List.length_drop]; omega)) (by first | omega | (simp only [bl_len, List.length_map, List.length_append, List.length_take, List.length_drop]; omega))) rfl ?_ | refine st_p (op_sliceC Tryz.underlying34 z97 rfl rfl (by exact ⟨_, rfl⟩) (by exact rfl) (by first | omega | (simp only [bl_len, List.length_map, List.length_append, List.length_take, List.length_drop]; omega)) (by first | omega | (simp only [bl_len, List.length_map, List.length_append, List.length_take, List.length_drop]; omega)) (by omega) (by first | omega | (simp only [bl_len, List.length_map, List.length_append, List.length_take, List.length_drop]; omega))) rfl ?_
    refine al_nil ?_
    refine nm ?_
    refine aw_seq ?_
    refine aw_region ?_
    refine st_p (mv rfl) rfl ?_
    first | refine st_p (op_len Tryz.underlying34 rfl) rfl ?_ | refine st_p (op_leno Tryz.underlying34 rfl) rfl ?_ | refine st_p (op_lenn Tryz.underlying34 rfl) rfl ?_
    refine st_p (mva rfl) rfl ?_
    refine al_nil ?_
    refine nm ?_
    refine aw_seq ?_
    refine aw_seq ?_
    refine aw_region ?_
    refine st_p (mv rfl) rfl ?_
    first | refine st_p (OpP.conv (op_eq rfl rfl) (yes (by first | assumption | omega))) rfl ?_ | refine st_p (OpP.conv (op_eq rfl rfl) (no (by first | assumption | omega))) rfl ?_ | refine st_p (op_eq rfl rfl) rfl ?_
    refine al_nil ?_
    refine nm ?_
    -- IF t16
    refine aw_no (rfl) ?_
    refine aw_skip ?_
    refine nm ?_
    refine aw_seq ?_
    refine aw_region ?_
    refine st_p (mv rfl) rfl ?_
    first | refine st_p (op_len Tryz.underlying34 rfl) rfl ?_ | refine st_p (op_leno Tryz.underlying34 rfl) rfl ?_ | refine st_p (op_lenn Tryz.underlying34 rfl) rfl ?_
    refine st_p (mva rfl) rfl ?_
    refine al_nil ?_
    refine nm ?_
    refine aw_seq ?_
    refine aw_seq ?_
    refine aw_region ?_
    refine st_p (mv rfl) rfl ?_
    refine st_p (mv rfl) rfl ?_
    first | refine st_p (OpP.conv (op_eq rfl rfl) (yes (by first | assumption | omega))) rfl ?_ | refine st_p (OpP.conv (op_eq rfl rfl) (no (by first | assumption | omega))) rfl ?_ | refine st_p (op_eq rfl rfl) rfl ?_
    refine al_nil ?_
    refine nm ?_
    -- IF t22
    refine aw_yes (rfl) ?_
    refine aw_seq ?_
    refine aw_region ?_
    refine st_p (mv rfl) rfl ?_
    refine st_p (mv rfl) rfl ?_
    first | refine st_o (op_app Tryz.underlying34 Tryz.underlying34 (.inl ⟨_, rfl⟩) i97 o97 rfl rfl rfl (by first | rfl | omega | (simp; done) | (simp; omega)) ((SrcA.whole rfl (by first | rfl | simp)).ok rfl (by first | assumption | intro z hz; simp only [List.mem_singleton, List.drop_zero, List.take_succ_cons, List.take_zero, List.mem_cons, List.not_mem_nil, or_false, List.mem_map] at hz; first | (subst hz; rfl) | (obtain ⟨_, _, rfl⟩ := hz; rfl) | (rcases hz with rfl | rfl <;> rfl))) (by first | omega | (simp; try omega)) rfl) rfl ?_ | refine st_o (op_appN Tryz.underlying34 Tryz.underlying34 (.inl ⟨_, rfl⟩) i97 o97 rfl ((SrcA.whole rfl (by first | rfl | simp)).ok rfl (by first | assumption | intro z hz; simp only [List.mem_singleton, List.drop_zero, List.take_succ_cons, List.take_zero, List.mem_cons, List.not_mem_nil, or_false, List.mem_map] at hz; first | (subst hz; rfl) | (obtain ⟨_, _, rfl⟩ := hz; rfl) | (rcases hz with rfl | rfl <;> rfl))) (by first | omega | (simp; try omega))) rfl ?_ | refine st_o (op_app Tryz.underlying34 Tryz.underlying34 (.inl ⟨_, rfl⟩) i97 o97 rfl rfl rfl (by first | rfl | omega | (simp; done) | (simp; omega)) ((SrcA.own rfl (by first | omega | (simp; try omega))).ok rfl (by first | assumption | intro z hz; simp only [List.mem_singleton, List.drop_zero, List.take_succ_cons, List.take_zero, List.mem_cons, List.not_mem_nil, or_false, List.mem_map] at hz; first | (subst hz; rfl) | (obtain ⟨_, _, rfl⟩ := hz; rfl) | (rcases hz with rfl | rfl <;> rfl))) (by first | omega | (simp; try omega)) rfl) rfl ?_ | refine st_o (op_appN Tryz.underlying34 Tryz.underlying34 (.inl ⟨_, rfl⟩) i97 o97 rfl ((SrcA.own rfl (by first | omega | (simp; try omega))).ok rfl (by first | assumption | intro z hz; simp only [List.mem_singleton, List.drop_zero, List.take_succ_cons, List.take_zero, List.mem_cons, List.not_mem_nil, or_false, List.mem_map] at hz; first | (subst hz; rfl) | (obtain ⟨_, _, rfl⟩ := hz; rfl) | (rcases hz with rfl | rfl <;> rfl))) (by first | omega | (simp; try omega))) rfl ?_ | refine st_o (op_app Tryz.underlying34 Tryz.underlying34 (.inl ⟨_, rfl⟩) i97 o97 rfl rfl rfl (by first | rfl | omega | (simp; done) | (simp; omega)) ((SrcA.sl (.inr trivial)).ok rfl (by first | assumption | intro z hz; simp only [List.mem_singleton, List.drop_zero, List.take_succ_cons, List.take_zero, List.mem_cons, List.not_mem_nil, or_false, List.mem_map] at hz; first | (subst hz; rfl) | (obtain ⟨_, _, rfl⟩ := hz; rfl) | (rcases hz with rfl | rfl <;> rfl))) (by first | omega | (simp; try omega)) rfl) rfl ?_ | refine st_o (op_appN Tryz.underlying34 Tryz.underlying34 (.inl ⟨_, rfl⟩) i97 o97 rfl ((SrcA.sl (.inr trivial)).ok rfl (by first | assumption | intro z hz; simp only [List.mem_singleton, List.drop_zero, List.take_succ_cons, List.take_zero, List.mem_cons, List.not_mem_nil, or_false, List.mem_map] at hz; first | (subst hz; rfl) | (obtain ⟨_, _, rfl⟩ := hz; rfl) | (rcases hz with rfl | rfl <;> rfl))) (by first | omega | (simp; try omega))) rfl ?_ | refine st_o (op_app Tryz.underlying34 Tryz.underlying34 (.inl ⟨_, rfl⟩) i97 o97 rfl rfl rfl (by first | rfl | omega | (simp; done) | (simp; omega)) (SrcA.nils.ok rfl (by intro z hz; cases hz)) (by first | omega | (simp; try omega)) rfl) rfl ?_ | refine st_o (op_appN Tryz.underlying34 Tryz.underlying34 (.inl ⟨_, rfl⟩) i97 o97 rfl (SrcA.nils.ok rfl (by intro z hz; cases hz)) (by first | omega | (simp; try omega))) rfl ?_
    refine st_p (mva rfl) rfl ?_
    refine al_nil ?_
    refine nm ?_
    refine aw_ret ?_
    refine rs ?_
    have e : (l ++ [x]).length = l.length + 1 := by rw [List.length_append, hn1]
    have e' : insA l i x = l ++ [x] := by rw [insA, h1, List.take_length, List.drop_length]
    exact ret_a ⟨[(6, .own (K + 2) 0 (l.length + 1))], [(K + 2, .cells 2 (insA l i x))], K + 3⟩ (le_to [] (by first | rfl | simp) (by first | rfl | simp) (by first | rfl | simp) (by first | rfl | simp) (by first | rfl | simp [apart]) ⟨by rw [e]; simp [tget, AV.ren, swp], trivial⟩ ⟨by rw [hsw, e']; simp [hget, swp], trivial⟩) (res1 Tryz.results163) hal' ⟨rfl, rfl, rfl⟩
  · have hlt : i < l.length := by omega
    refine ac_fn Tryz.func163 rfl rfl rfl rfl (fun w0 S0 r0 => ?_)
    refine aw_seq ?_
    refine aw_region ?_
    refine st_p (mva rfl) rfl ?_
    refine al_nil ?_
    refine nm ?_
    refine aw_seq ?_
    refine aw_region ?_
    refine st_p (mv rfl) rfl ?_
    refine st_p (mv rfl) rfl ?_
    first | refine st_p (op_sliceL Tryz.underlying34 z97 rfl (by exact ⟨_, rfl⟩) (by exact rfl) (by first | omega | (simp only [bl_len, List.length_map, List.length_append, List.length_take, List.length_drop]; omega)) (by first | omega | (simp only [bl_len, List.length_map, List.length_append, List.length_take, List.length_drop]; omega)) (by first | omega | (simp only [bl_len, List.length_map, List.length_append, List.length_take, List.length_drop]; omega))) rfl ?_ | refine st_p (op_slice Tryz.underlying34 z97 rfl rfl (by exact ⟨_, rfl⟩) (by exact rfl) (by first | omega | (simp only [bl_len, List.length_map, List.length_append, List.length_take, List.length_drop]; omega)) (by first | omega | (simp only [bl_len, List.length_map, List.length_append, List.length_take, List.length_drop]; omega)) (by first | omega | (simp only [bl_len, List.length_map, List.length_append, List.length_take, List.length_drop]; omega))) rfl ?_ | refine st_p (op_slice Tryz.underlying34 z97 rfl hget_top (by exact ⟨_, rfl⟩) (by exact rfl) (by first | omega | (simp only [bl_len, List.length_map, List.length_append, List.length_take, List.length_drop]; omega)) (by first | omega | (simp only [bl_len, List.length_map, List.length_append, List.length_take, List.length_drop]; omega)) (by first | omega | (simp only [bl_len, List.length_map, List.length_append, List.length_take, List.length_drop]; omega))) rfl ?_ | refine st_p (op_sliceC Tryz.underlying34 z97 rfl rfl (by exact ⟨_, rfl⟩) (by exact rfl) (by first | omega | (simp only [bl_len, List.length_map, List.length_append, List.length_take, List.length_drop]; omega)) (by first | omega | (simp only [bl_len, List.length_map, List.length_append, List.length_take, List.length_drop]; omega)) (by omega) (by first | omega | (simp only [bl_len, List.length_map, List.length_append, List.length_take, List.length_drop]; omega))) rfl ?_
    refine al_nil ?_
    refine nm ?_
    refine aw_seq ?_
    refine aw_region ?_
    refine st_p (mv rfl) rfl ?_
    first | refine st_p (op_len Tryz.underlying34 rfl) rfl ?_ | refine st_p (op_leno Tryz.underlying34 rfl) rfl ?_ | refine st_p (op_lenn Tryz.underlying34 rfl) rfl ?_
    refine st_p (mva rfl) rfl ?_
    refine al_nil ?_
    refine nm ?_
    refine aw_seq ?_
    refine aw_seq ?_
    refine aw_region ?_
    refine st_p (mv rfl) rfl ?_
    first | refine st_p (OpP.conv (op_eq rfl rfl) (yes (by first | assumption | omega))) rfl ?_ | refine st_p (OpP.conv (op_eq rfl rfl) (no (by first | assumption | omega))) rfl ?_ | refine st_p (op_eq rfl rfl) rfl ?_
    refine al_nil ?_
    refine nm ?_
    -- IF t16
    refine aw_no (rfl) ?_
    refine aw_skip ?_
    refine nm ?_
    refine aw_seq ?_
    refine aw_region ?_
    refine st_p (mv rfl) rfl ?_
    first | refine st_p (op_len Tryz.underlying34 rfl) rfl ?_ | refine st_p (op_leno Tryz.underlying34 rfl) rfl ?_ | refine st_p (op_lenn Tryz.underlying34 rfl) rfl ?_
    refine st_p (mva rfl) rfl ?_
    refine al_nil ?_
    refine nm ?_
    refine aw_seq ?_
    refine aw_seq ?_
    refine aw_region ?_
    refine st_p (mv rfl) rfl ?_
    refine st_p (mv rfl) rfl ?_
    first | refine st_p (OpP.conv (op_eq rfl rfl) (yes (by first | assumption | omega))) rfl ?_ | refine st_p (OpP.conv (op_eq rfl rfl) (no (by first | assumption | omega))) rfl ?_ | refine st_p (op_eq rfl rfl) rfl ?_
    refine al_nil ?_
    refine nm ?_
    -- IF t22
    by_cases hc : (l.length : Int) + ((1 : Nat) : Int) > ((capR r0 0 - 0 : Nat) : Int)
    · skip
      refine aw_no (rfl) ?_
      refine aw_skip ?_
      refine nm ?_
      refine aw_seq ?_
      refine aw_seq ?_
      refine aw_region ?_
      refine st_p (mv rfl) rfl ?_
      refine st_p (mv rfl) rfl ?_
      first | refine st_p (op_addi rfl rfl (by omega)) rfl ?_ | refine st_p (op_add rfl rfl) rfl ?_
      refine st_p (mv rfl) rfl ?_
      first | refine st_p (op_capN Tryz.underlying34 rfl) rfl ?_ | refine st_c (opc_cap Tryz.underlying34 rfl (by omega) (by first | decide | omega)) rfl ?_
      first | refine st_p (OpP.conv (op_gt rfl rfl) (yes (by first | assumption | omega))) rfl ?_ | refine st_p (OpP.conv (op_gt rfl rfl) (no (by first | assumption | omega))) rfl ?_ | refine st_p (op_gt rfl rfl) rfl ?_
      refine al_nil ?_
      refine nm ?_
      -- IF t31
      obtain ⟨B0, hB0⟩ : ∃ B0, B0 = l.take i ++ List.replicate (l.length + 1 - i) (ofConst (.agg #[.string ByteArray.empty, .slice none 0 0])) := ⟨_, rfl⟩
      have hl0 : B0.length = l.length + 1 := by rw [hB0, List.length_append, List.length_take, List.length_replicate]; omega
      refine aw_yes (rfl) ?_
      refine aw_seq ?_
      refine aw_region ?_
      refine st_p (mv rfl) rfl ?_
      refine st_p (mv rfl) rfl ?_
      first | refine st_p (op_sliceN Tryz.underlying34 z97 rfl rfl) rfl ?_ | refine st_p (op_sliceL Tryz.underlying34 z97 rfl (by exact rfl) (by exact ⟨_, rfl⟩) (by first | omega | (simp only [bl_len, List.length_map, List.length_append, List.length_take, List.length_drop]; omega)) (by first | omega | (simp only [bl_len, List.length_map, List.length_append, List.length_take, List.length_drop]; omega)) (by first | omega | (simp only [bl_len, List.length_map, List.length_append, List.length_take, List.length_drop]; omega))) rfl ?_ | refine st_p (op_slice Tryz.underlying34 z97 rfl rfl (by exact rfl) (by exact ⟨_, rfl⟩) (by first | omega | (simp only [bl_len, List.length_map, List.length_append, List.length_take, List.length_drop]; omega)) (by first | omega | (simp only [bl_len, List.length_map, List.length_append, List.length_take, List.length_drop]; omega)) (by first | omega | (simp only [bl_len, List.length_map, List.length_append, List.length_take, List.length_drop]; omega))) rfl ?_ | refine st_p (op_slice Tryz.underlying34 z97 rfl hget_top (by exact rfl) (by exact ⟨_, rfl⟩) (by first | omega | (simp only [bl_len, List.length_map, List.length_append, List.length_take, List.length_drop]; omega)) (by first | omega | (simp only [bl_len, List.length_map, List.length_append, List.length_take, List.length_drop]; omega)) (by first | omega | (simp only [bl_len, List.length_map, List.length_append, List.length_take, List.length_drop]; omega))) rfl ?_ | refine st_p (op_sliceC Tryz.underlying34 z97 rfl rfl (by exact rfl) (by exact ⟨_, rfl⟩) (by first | omega | (simp only [bl_len, List.length_map, List.length_append, List.length_take, List.length_drop]; omega)) (by first | omega | (simp only [bl_len, List.length_map, List.length_append, List.length_take, List.length_drop]; omega)) (by omega) (by first | omega | (simp only [bl_len, List.length_map, List.length_append, List.length_take, List.length_drop]; omega))) rfl ?_
      refine st_p (mv rfl) rfl ?_
      refine st_p (mv rfl) rfl ?_
      first | refine st_p (op_addi rfl rfl (by omega)) rfl ?_ | refine st_p (op_add rfl rfl) rfl ?_
      refine st_p (mv rfl) rfl ?_
      first | refine st_p (op_subi rfl rfl (by omega)) rfl ?_ | refine st_p (op_sub rfl rfl) rfl ?_
      first | refine st_o (op_appZi Tryz.underlying34 Tryz.underlying3 i97 o97 (by decide) rfl rfl (by omega) (by omega) (by omega)) rfl ?_ | refine st_c (opc_appZg Tryz.underlying34 Tryz.underlying3 i97 o97 (by decide) rfl rfl rfl rfl (by omega) rfl (by first | decide | omega) (by omega) (by omega) (by omega) (by omega)) rfl ?_
      refine st_p (mva rfl) rfl ?_
      refine al_nil ?_
      refine nm ?_
      refine aw_seq ?_
      refine aw_top (h' := [(K + 2, .cells 2 B0), (0, .cells 2 l), (1, .cells 2 [x])]) (own_len (st' := 0) (k' := l.length + 1) rfl (by omega)) ?_ ?_
      · rw [hB0, show (i : Int).toNat - Int.toNat 0 = i from by omega, show (((l.length : Nat) : Int) + ((1 : Nat) : Int) - (i : Int)).toNat = l.length + 1 - i from by omega]
      refine aw_region ?_
      refine st_p (mv rfl) rfl ?_
      refine st_p (mv rfl) rfl ?_
      first | refine st_p (op_sliceL Tryz.underlying34 z97 rfl (by exact ⟨_, rfl⟩) (by exact rfl) (by first | omega | (simp only [bl_len, List.length_map, List.length_append, List.length_take, List.length_drop]; omega)) (by first | omega | (simp only [bl_len, List.length_map, List.length_append, List.length_take, List.length_drop]; omega)) (by first | omega | (simp only [bl_len, List.length_map, List.length_append, List.length_take, List.length_drop]; omega))) rfl ?_ | refine st_p (op_slice Tryz.underlying34 z97 rfl rfl (by exact ⟨_, rfl⟩) (by exact rfl) (by first | omega | (simp only [bl_len, List.length_map, List.length_append, List.length_take, List.length_drop]; omega)) (by first | omega | (simp only [bl_len, List.length_map, List.length_append, List.length_take, List.length_drop]; omega)) (by first | omega | (simp only [bl_len, List.length_map, List.length_append, List.length_take, List.length_drop]; omega))) rfl ?_ | refine st_p (op_slice Tryz.underlying34 z97 rfl hget_top (by exact ⟨_, rfl⟩) (by exact rfl) (by first | omega | (simp only [bl_len, List.length_map, List.length_append, List.length_take, List.length_drop]; omega)) (by first | omega | (simp only [bl_len, List.length_map, List.length_append, List.length_take, List.length_drop]; omega)) (by first | omega | (simp only [bl_len, List.length_map, List.length_append, List.length_take, List.length_drop]; omega))) rfl ?_ | refine st_p (op_sliceC Tryz.underlying34 z97 rfl rfl (by exact ⟨_, rfl⟩) (by exact rfl) (by first | omega | (simp only [bl_len, List.length_map, List.length_append, List.length_take, List.length_drop]; omega)) (by first | omega | (simp only [bl_len, List.length_map, List.length_append, List.length_take, List.length_drop]; omega)) (by omega) (by first | omega | (simp only [bl_len, List.length_map, List.length_append, List.length_take, List.length_drop]; omega))) rfl ?_
      refine st_p (mv rfl) rfl ?_
      first | refine st_o (op_copy Tryz.underlying34 z97 rfl (by omega) rfl (by omega) rfl (.own rfl (by omega))) rfl ?_ | refine st_o (op_copy Tryz.underlying34 z97 rfl (by omega) rfl (by omega) rfl (.sl (.inr trivial))) rfl ?_ | refine st_o (op_copy Tryz.underlying34 z97 rfl (by omega) rfl (by omega) rfl .nils) rfl ?_ | refine st_o (op_copy Tryz.underlying34 z97 rfl (by omega) hget_top (by omega) rfl (.own rfl (by omega))) rfl ?_ | refine st_o (op_copy Tryz.underlying34 z97 rfl (by omega) hget_top (by omega) rfl (.sl (.inr trivial))) rfl ?_ | refine st_o (op_copy Tryz.underlying34 z97 rfl (by omega) hget_top (by omega) rfl .nils) rfl ?_
      refine al_nil ?_
      refine nm ?_
      refine aw_seq ?_
      obtain ⟨B1, hB1⟩ : ∃ B1, B1 = B0.take i ++ [x] ++ B0.drop (i + 1) := ⟨_, rfl⟩
      have hl1 : B1.length = l.length + 1 := by rw [hB1, List.length_append, List.length_append, List.length_take, List.length_drop, hn1]; omega
      refine aw_re rfl (h' := [(K + 2, .cells 2 B1), (0, .cells 2 l), (1, .cells 2 [x])]) ?_ ?_
      · refine hset3 ?_
        rw [hB1]
        have e1 : (([x].drop 0).take 1) = [x] := rfl
        have e2 : min (([x].drop 0).take 1).length ((((l.length + 1 : Nat) : Int)).toNat - (i : Int).toNat) = 1 := by rw [e1, hn1]; omega
        refine cp_eq (by omega) ?_ ?_
        · rw [e2]; rfl
        · rw [e2]; omega
      refine dr_go ?_
      refine dr_f 0 0 [9] rfl (fun H => mv rfl) ?_
      refine dr_f 0 0 [1] rfl (fun H => mv rfl) ?_
      refine dr_f 0 0 [7] rfl (fun H => mv rfl) ?_
      first | refine dr_f 0 0 [47, 48] rfl (fun H => op_addi rfl rfl (by omega)) ?_ | refine dr_f 0 0 [47, 48] rfl (fun H => op_add rfl rfl) ?_
      first | refine dr_q 0 0 [46, 49] rfl (op_sliceL Tryz.underlying34 z97 rfl (by exact ⟨_, rfl⟩) (by exact rfl) (by first | omega | (simp only [bl_len, List.length_map, List.length_append, List.length_take, List.length_drop]; omega)) (by first | omega | (simp only [bl_len, List.length_map, List.length_append, List.length_take, List.length_drop]; omega)) (by first | omega | (simp only [bl_len, List.length_map, List.length_append, List.length_take, List.length_drop]; omega))) ?_ | refine dr_q 0 0 [46, 49] rfl (op_slice Tryz.underlying34 z97 rfl rfl (by exact ⟨_, rfl⟩) (by exact rfl) (by first | omega | (simp only [bl_len, List.length_map, List.length_append, List.length_take, List.length_drop]; omega)) (by first | omega | (simp only [bl_len, List.length_map, List.length_append, List.length_take, List.length_drop]; omega)) (by first | omega | (simp only [bl_len, List.length_map, List.length_append, List.length_take, List.length_drop]; omega))) ?_ | refine dr_q 0 0 [46, 49] rfl (op_slice Tryz.underlying34 z97 rfl hget_top (by exact ⟨_, rfl⟩) (by exact rfl) (by first | omega | (simp only [bl_len, List.length_map, List.length_append, List.length_take, List.length_drop]; omega)) (by first | omega | (simp only [bl_len, List.length_map, List.length_append, List.length_take, List.length_drop]; omega)) (by first | omega | (simp only [bl_len, List.length_map, List.length_append, List.length_take, List.length_drop]; omega))) ?_ | refine dr_q 0 0 [46, 49] rfl (op_sliceC Tryz.underlying34 z97 rfl rfl (by exact ⟨_, rfl⟩) (by exact rfl) (by first | omega | (simp only [bl_len, List.length_map, List.length_append, List.length_take, List.length_drop]; omega)) (by first | omega | (simp only [bl_len, List.length_map, List.length_append, List.length_take, List.length_drop]; omega)) (by omega) (by first | omega | (simp only [bl_len, List.length_map, List.length_append, List.length_take, List.length_drop]; omega))) ?_
      refine dr_f 0 0 [0] rfl (fun H => mv rfl) ?_
      refine dr_f 0 0 [1] rfl (fun H => mv rfl) ?_
      first | refine dr_q 0 0 [51, 52] rfl (op_sliceL Tryz.underlying34 z97 rfl (by exact ⟨_, rfl⟩) (by exact rfl) (by first | omega | (simp only [bl_len, List.length_map, List.length_append, List.length_take, List.length_drop]; omega)) (by first | omega | (simp only [bl_len, List.length_map, List.length_append, List.length_take, List.length_drop]; omega)) (by first | omega | (simp only [bl_len, List.length_map, List.length_append, List.length_take, List.length_drop]; omega))) ?_ | refine dr_q 0 0 [51, 52] rfl (op_slice Tryz.underlying34 z97 rfl rfl (by exact ⟨_, rfl⟩) (by exact rfl) (by first | omega | (simp only [bl_len, List.length_map, List.length_append, List.length_take, List.length_drop]; omega)) (by first | omega | (simp only [bl_len, List.length_map, List.length_append, List.length_take, List.length_drop]; omega)) (by first | omega | (simp only [bl_len, List.length_map, List.length_append, List.length_take, List.length_drop]; omega))) ?_ | refine dr_q 0 0 [51, 52] rfl (op_slice Tryz.underlying34 z97 rfl hget_top (by exact ⟨_, rfl⟩) (by exact rfl) (by first | omega | (simp only [bl_len, List.length_map, List.length_append, List.length_take, List.length_drop]; omega)) (by first | omega | (simp only [bl_len, List.length_map, List.length_append, List.length_take, List.length_drop]; omega)) (by first | omega | (simp only [bl_len, List.length_map, List.length_append, List.length_take, List.length_drop]; omega))) ?_ | refine dr_q 0 0 [51, 52] rfl (op_sliceC Tryz.underlying34 z97 rfl rfl (by exact ⟨_, rfl⟩) (by exact rfl) (by first | omega | (simp only [bl_len, List.length_map, List.length_append, List.length_take, List.length_drop]; omega)) (by first | omega | (simp only [bl_len, List.length_map, List.length_append, List.length_take, List.length_drop]; omega)) (by omega) (by first | omega | (simp only [bl_len, List.length_map, List.length_append, List.length_take, List.length_drop]; omega))) ?_
      first | refine dr_e 0 [50, 53] rfl (op_copy Tryz.underlying34 z97 rfl (by omega) rfl (by omega) rfl (.own rfl (by omega))) ?_ | refine dr_e 0 [50, 53] rfl (op_copy Tryz.underlying34 z97 rfl (by omega) rfl (by omega) rfl (.sl (.inr trivial))) ?_ | refine dr_e 0 [50, 53] rfl (op_copy Tryz.underlying34 z97 rfl (by omega) rfl (by omega) rfl .nils) ?_ | refine dr_e 0 [50, 53] rfl (op_copy Tryz.underlying34 z97 rfl (by omega) hget_top (by omega) rfl (.own rfl (by omega))) ?_ | refine dr_e 0 [50, 53] rfl (op_copy Tryz.underlying34 z97 rfl (by omega) hget_top (by omega) rfl (.sl (.inr trivial))) ?_ | refine dr_e 0 [50, 53] rfl (op_copy Tryz.underlying34 z97 rfl (by omega) hget_top (by omega) rfl .nils) ?_
      refine dr_end [] (by kernel_rfl) (by kernel_rfl) (by kernel_rfl) (by kernel_rfl) trivial ?_
      refine nm ?_
      refine aw_seq ?_
      refine aw_region ?_
      refine st_p (mv rfl) rfl ?_
      refine st_p (mva rfl) rfl ?_
      refine al_nil ?_
      refine nm ?_
      refine aw_ret ?_
      refine rs ?_
      have e3 : (l.drop (0 + (i : Int).toNat)).take ((l.length : Int).toNat - (i : Int).toNat) = l.drop i := by
        rw [show 0 + (i : Int).toNat = i from by omega, show (l.length : Int).toNat - (i : Int).toNat = l.length - i from by omega]
        exact List.take_of_length_le (by rw [List.length_drop]; omega)
      have e4 : min ((l.drop (0 + (i : Int).toNat)).take ((l.length : Int).toNat - (i : Int).toNat)).length ((((l.length + 1 : Nat) : Int)).toNat - ((i : Int) + ((1 : Nat) : Int)).toNat) = l.length - i := by rw [e3, List.length_drop]; omega
      refine ra_re rfl (h' := [(K + 2, .cells 2 (insA l i x)), (0, .cells 2 l), (1, .cells 2 [x])]) ?_ ?_
      · refine hset3 ?_
        rw [← ins_grow l x (ofConst (.agg #[.string ByteArray.empty, .slice none 0 0])) i hlt, ← hB0, ← hB1]
        refine cp_eq (by omega) ?_ ?_
        · rw [e4, e3]; exact List.take_of_length_le (by rw [List.length_drop]; omega)
        · rw [e4]; omega
      exact ret_a ⟨[(6, .own (K + 2) 0 (l.length + 1))], [(K + 2, .cells 2 (insA l i x))], K + 3⟩ (le_to [] (by first | rfl | simp) (by first | rfl | simp) (by first | rfl | simp) (by first | rfl | simp) (by first | rfl | simp [apart]) ⟨by simp [tget, AV.ren, swp], trivial⟩ ⟨by rw [hsw]; simp [hget, swp], trivial⟩) (res1 Tryz.results163) hal' ⟨rfl, rfl, rfl⟩
    · skip
      refine aw_no (rfl) ?_
      refine aw_skip ?_
      refine nm ?_
      refine aw_seq ?_
      refine aw_seq ?_
      refine aw_region ?_
      refine st_p (mv rfl) rfl ?_
      refine st_p (mv rfl) rfl ?_
      first | refine st_p (op_addi rfl rfl (by omega)) rfl ?_ | refine st_p (op_add rfl rfl) rfl ?_
      refine st_p (mv rfl) rfl ?_
      first | refine st_p (op_capN Tryz.underlying34 rfl) rfl ?_ | refine st_c (opc_cap Tryz.underlying34 rfl (by omega) (by first | decide | omega)) rfl ?_
      first | refine st_p (OpP.conv (op_gt rfl rfl) (yes (by first | assumption | omega))) rfl ?_ | refine st_p (OpP.conv (op_gt rfl rfl) (no (by first | assumption | omega))) rfl ?_ | refine st_p (op_gt rfl rfl) rfl ?_
      refine al_nil ?_
      refine nm ?_
      -- IF t31
      obtain ⟨J, hJ⟩ : ∃ J, J = l ++ List.replicate (capR r0 0 - l.length) (junk 2) := ⟨_, rfl⟩
      have hlJ : J.length = capR r0 0 := by rw [hJ, List.length_append, List.length_replicate]; omega
      refine aw_room 0 (h' := [(0, .cells 2 J), (1, .cells 2 [x])]) rfl (by omega) (by rw [← hJ]; rfl) ?_
      refine aw_no (rfl) ?_
      refine aw_skip ?_
      refine nm ?_
      refine aw_seq ?_
      refine aw_region ?_
      refine st_p (mv rfl) rfl ?_
      refine st_p (mv rfl) rfl ?_
      refine st_p (mv rfl) rfl ?_
      first | refine st_p (op_addi rfl rfl (by omega)) rfl ?_ | refine st_p (op_add rfl rfl) rfl ?_
      first | refine st_p (op_sliceN Tryz.underlying34 z97 rfl rfl) rfl ?_ | refine st_p (op_sliceL Tryz.underlying34 z97 rfl (by exact rfl) (by exact ⟨_, rfl⟩) (by first | omega | (simp only [bl_len, List.length_map, List.length_append, List.length_take, List.length_drop]; omega)) (by first | omega | (simp only [bl_len, List.length_map, List.length_append, List.length_take, List.length_drop]; omega)) (by first | omega | (simp only [bl_len, List.length_map, List.length_append, List.length_take, List.length_drop]; omega))) rfl ?_ | refine st_p (op_slice Tryz.underlying34 z97 rfl rfl (by exact rfl) (by exact ⟨_, rfl⟩) (by first | omega | (simp only [bl_len, List.length_map, List.length_append, List.length_take, List.length_drop]; omega)) (by first | omega | (simp only [bl_len, List.length_map, List.length_append, List.length_take, List.length_drop]; omega)) (by first | omega | (simp only [bl_len, List.length_map, List.length_append, List.length_take, List.length_drop]; omega))) rfl ?_ | refine st_p (op_slice Tryz.underlying34 z97 rfl hget_top (by exact rfl) (by exact ⟨_, rfl⟩) (by first | omega | (simp only [bl_len, List.length_map, List.length_append, List.length_take, List.length_drop]; omega)) (by first | omega | (simp only [bl_len, List.length_map, List.length_append, List.length_take, List.length_drop]; omega)) (by first | omega | (simp only [bl_len, List.length_map, List.length_append, List.length_take, List.length_drop]; omega))) rfl ?_ | refine st_p (op_sliceC Tryz.underlying34 z97 rfl rfl (by exact rfl) (by exact ⟨_, rfl⟩) (by first | omega | (simp only [bl_len, List.length_map, List.length_append, List.length_take, List.length_drop]; omega)) (by first | omega | (simp only [bl_len, List.length_map, List.length_append, List.length_take, List.length_drop]; omega)) (by omega) (by first | omega | (simp only [bl_len, List.length_map, List.length_append, List.length_take, List.length_drop]; omega))) rfl ?_
      refine st_p (mva rfl) rfl ?_
      refine al_nil ?_
      refine nm ?_
      refine aw_seq ?_
      refine aw_seq ?_
      refine aw_region ?_
      refine st_p (mv rfl) rfl ?_
      refine st_p (mv rfl) rfl ?_
      refine st_p (mv rfl) rfl ?_
      refine st_p (mv rfl) rfl ?_
      first | refine st_p (op_addi rfl rfl (by omega)) rfl ?_ | refine st_p (op_add rfl rfl) rfl ?_
      first | refine st_p (op_sliceL Tryz.underlying34 z97 rfl (by exact ⟨_, rfl⟩) (by exact rfl) (by first | omega | (simp only [bl_len, List.length_map, List.length_append, List.length_take, List.length_drop]; omega)) (by first | omega | (simp only [bl_len, List.length_map, List.length_append, List.length_take, List.length_drop]; omega)) (by first | omega | (simp only [bl_len, List.length_map, List.length_append, List.length_take, List.length_drop]; omega))) rfl ?_ | refine st_p (op_slice Tryz.underlying34 z97 rfl rfl (by exact ⟨_, rfl⟩) (by exact rfl) (by first | omega | (simp only [bl_len, List.length_map, List.length_append, List.length_take, List.length_drop]; omega)) (by first | omega | (simp only [bl_len, List.length_map, List.length_append, List.length_take, List.length_drop]; omega)) (by first | omega | (simp only [bl_len, List.length_map, List.length_append, List.length_take, List.length_drop]; omega))) rfl ?_ | refine st_p (op_slice Tryz.underlying34 z97 rfl hget_top (by exact ⟨_, rfl⟩) (by exact rfl) (by first | omega | (simp only [bl_len, List.length_map, List.length_append, List.length_take, List.length_drop]; omega)) (by first | omega | (simp only [bl_len, List.length_map, List.length_append, List.length_take, List.length_drop]; omega)) (by first | omega | (simp only [bl_len, List.length_map, List.length_append, List.length_take, List.length_drop]; omega))) rfl ?_ | refine st_p (op_sliceC Tryz.underlying34 z97 rfl rfl (by exact ⟨_, rfl⟩) (by exact rfl) (by first | omega | (simp only [bl_len, List.length_map, List.length_append, List.length_take, List.length_drop]; omega)) (by first | omega | (simp only [bl_len, List.length_map, List.length_append, List.length_take, List.length_drop]; omega)) (by omega) (by first | omega | (simp only [bl_len, List.length_map, List.length_append, List.length_take, List.length_drop]; omega))) rfl ?_
      -- STOP: call slices.overlaps[diwan/api.Chain](t61, t66) -> 67
      refine st_p (op_overlaps Tryz.func186 ov_name_chain rfl ov_next_chain ov_find_chain Tryz.underlying34 z97 (by omega) rfl (by omega) rfl (by omega) rfl (by omega) rfl (by omega) (by decide)) rfl ?_
      first | refine st_p (op_notT rfl) rfl ?_ | refine st_p (op_notF rfl) rfl ?_ | refine st_p (op_not rfl) rfl ?_
      refine al_nil ?_
      refine nm ?_
      -- IF t68
      refine aw_yes (rfl) ?_
      refine aw_seq ?_
      have hzJ : ∀ z ∈ J, z.cells.length = 2 := fun z hz => by
        rw [hJ] at hz
        rcases List.mem_append.1 hz with h | h
        · exact hzl z h
        · rw [List.eq_of_mem_replicate h]; exact junk_len 2
      have hlJ' : l.length + 1 ≤ J.length := by omega
      refine dr_go ?_
      refine dr_f 0 0 [0] rfl (fun H => mv rfl) ?_
      refine dr_f 0 0 [1] rfl (fun H => mv rfl) ?_
      refine dr_f 0 0 [7] rfl (fun H => mv rfl) ?_
      first | refine dr_f 0 0 [70, 71] rfl (fun H => op_addi rfl rfl (by omega)) ?_ | refine dr_f 0 0 [70, 71] rfl (fun H => op_add rfl rfl) ?_
      first | refine dr_q 0 0 [69, 72] rfl (op_sliceL Tryz.underlying34 z97 rfl (by exact ⟨_, rfl⟩) (by exact rfl) (by first | omega | (simp only [bl_len, List.length_map, List.length_append, List.length_take, List.length_drop]; omega)) (by first | omega | (simp only [bl_len, List.length_map, List.length_append, List.length_take, List.length_drop]; omega)) (by first | omega | (simp only [bl_len, List.length_map, List.length_append, List.length_take, List.length_drop]; omega))) ?_ | refine dr_q 0 0 [69, 72] rfl (op_slice Tryz.underlying34 z97 rfl rfl (by exact ⟨_, rfl⟩) (by exact rfl) (by first | omega | (simp only [bl_len, List.length_map, List.length_append, List.length_take, List.length_drop]; omega)) (by first | omega | (simp only [bl_len, List.length_map, List.length_append, List.length_take, List.length_drop]; omega)) (by first | omega | (simp only [bl_len, List.length_map, List.length_append, List.length_take, List.length_drop]; omega))) ?_ | refine dr_q 0 0 [69, 72] rfl (op_slice Tryz.underlying34 z97 rfl hget_top (by exact ⟨_, rfl⟩) (by exact rfl) (by first | omega | (simp only [bl_len, List.length_map, List.length_append, List.length_take, List.length_drop]; omega)) (by first | omega | (simp only [bl_len, List.length_map, List.length_append, List.length_take, List.length_drop]; omega)) (by first | omega | (simp only [bl_len, List.length_map, List.length_append, List.length_take, List.length_drop]; omega))) ?_ | refine dr_q 0 0 [69, 72] rfl (op_sliceC Tryz.underlying34 z97 rfl rfl (by exact ⟨_, rfl⟩) (by exact rfl) (by first | omega | (simp only [bl_len, List.length_map, List.length_append, List.length_take, List.length_drop]; omega)) (by first | omega | (simp only [bl_len, List.length_map, List.length_append, List.length_take, List.length_drop]; omega)) (by omega) (by first | omega | (simp only [bl_len, List.length_map, List.length_append, List.length_take, List.length_drop]; omega))) ?_
      refine dr_f 0 0 [0] rfl (fun H => mv rfl) ?_
      refine dr_f 0 0 [1] rfl (fun H => mv rfl) ?_
      first | refine dr_q 0 0 [74, 75] rfl (op_sliceL Tryz.underlying34 z97 rfl (by exact ⟨_, rfl⟩) (by exact rfl) (by first | omega | (simp only [bl_len, List.length_map, List.length_append, List.length_take, List.length_drop]; omega)) (by first | omega | (simp only [bl_len, List.length_map, List.length_append, List.length_take, List.length_drop]; omega)) (by first | omega | (simp only [bl_len, List.length_map, List.length_append, List.length_take, List.length_drop]; omega))) ?_ | refine dr_q 0 0 [74, 75] rfl (op_slice Tryz.underlying34 z97 rfl rfl (by exact ⟨_, rfl⟩) (by exact rfl) (by first | omega | (simp only [bl_len, List.length_map, List.length_append, List.length_take, List.length_drop]; omega)) (by first | omega | (simp only [bl_len, List.length_map, List.length_append, List.length_take, List.length_drop]; omega)) (by first | omega | (simp only [bl_len, List.length_map, List.length_append, List.length_take, List.length_drop]; omega))) ?_ | refine dr_q 0 0 [74, 75] rfl (op_slice Tryz.underlying34 z97 rfl hget_top (by exact ⟨_, rfl⟩) (by exact rfl) (by first | omega | (simp only [bl_len, List.length_map, List.length_append, List.length_take, List.length_drop]; omega)) (by first | omega | (simp only [bl_len, List.length_map, List.length_append, List.length_take, List.length_drop]; omega)) (by first | omega | (simp only [bl_len, List.length_map, List.length_append, List.length_take, List.length_drop]; omega))) ?_ | refine dr_q 0 0 [74, 75] rfl (op_sliceC Tryz.underlying34 z97 rfl rfl (by exact ⟨_, rfl⟩) (by exact rfl) (by first | omega | (simp only [bl_len, List.length_map, List.length_append, List.length_take, List.length_drop]; omega)) (by first | omega | (simp only [bl_len, List.length_map, List.length_append, List.length_take, List.length_drop]; omega)) (by omega) (by first | omega | (simp only [bl_len, List.length_map, List.length_append, List.length_take, List.length_drop]; omega))) ?_
      first | refine dr_e 0 [73, 76] rfl (op_copy Tryz.underlying34 z97 rfl (by omega) rfl (by omega) rfl (.own rfl (by omega))) ?_ | refine dr_e 0 [73, 76] rfl (op_copy Tryz.underlying34 z97 rfl (by omega) rfl (by omega) rfl (.sl (.inr trivial))) ?_ | refine dr_e 0 [73, 76] rfl (op_copy Tryz.underlying34 z97 rfl (by omega) rfl (by omega) rfl .nils) ?_ | refine dr_e 0 [73, 76] rfl (op_copy Tryz.underlying34 z97 rfl (by omega) hget_top (by omega) rfl (.own rfl (by omega))) ?_ | refine dr_e 0 [73, 76] rfl (op_copy Tryz.underlying34 z97 rfl (by omega) hget_top (by omega) rfl (.sl (.inr trivial))) ?_ | refine dr_e 0 [73, 76] rfl (op_copy Tryz.underlying34 z97 rfl (by omega) hget_top (by omega) rfl .nils) ?_
      refine dr_end [] (by kernel_rfl) (by kernel_rfl) (by kernel_rfl) (by kernel_rfl) trivial ?_
      refine nm ?_
      refine aw_seq ?_
      have e5 : ((J.drop (0 + Int.toNat 0 + (i : Int).toNat)).take ((((((l.length : Int) + ((1 : Nat) : Int)).toNat - Int.toNat 0 : Nat) : Int)).toNat - (i : Int).toNat)).take (l.length - i) = l.drop i := by
        rw [show 0 + Int.toNat 0 + (i : Int).toNat = i from by omega, List.take_take, Nat.min_eq_left (by omega), hJ, List.drop_append_of_le_length (by omega)]
        exact List.take_left' (by rw [List.length_drop])
      obtain ⟨J1, hJ1⟩ : ∃ J1, J1 = J.take (i + 1) ++ l.drop i ++ J.drop (l.length + 1) := ⟨_, rfl⟩
      have hl1 : J1.length = J.length := by rw [hJ1, List.length_append, List.length_append, List.length_take, List.length_drop, List.length_drop]; omega
      refine aw_re rfl (h' := [(0, .cells 2 J1), (1, .cells 2 [x])]) ?_ ?_
      · refine hset2 ?_
        rw [hJ1]
        have e7 : min ((J.drop (0 + Int.toNat 0 + (i : Int).toNat)).take ((((((l.length : Int) + ((1 : Nat) : Int)).toNat - Int.toNat 0 : Nat) : Int)).toNat - (i : Int).toNat)).length ((((((l.length : Int) + ((1 : Nat) : Int)).toNat - Int.toNat 0 : Nat) : Int)).toNat - ((i : Int) + ((1 : Nat) : Int)).toNat) = l.length - i := by
          rw [List.length_take, List.length_drop]; omega
        refine cp_eq (by omega) ?_ ?_
        · rw [e7]; exact e5
        · rw [e7]; omega
      refine aw_region ?_
      refine st_p (mv rfl) rfl ?_
      refine st_p (mv rfl) rfl ?_
      first | refine st_p (op_sliceL Tryz.underlying34 z97 rfl (by exact ⟨_, rfl⟩) (by exact rfl) (by first | omega | (simp only [bl_len, List.length_map, List.length_append, List.length_take, List.length_drop]; omega)) (by first | omega | (simp only [bl_len, List.length_map, List.length_append, List.length_take, List.length_drop]; omega)) (by first | omega | (simp only [bl_len, List.length_map, List.length_append, List.length_take, List.length_drop]; omega))) rfl ?_ | refine st_p (op_slice Tryz.underlying34 z97 rfl rfl (by exact ⟨_, rfl⟩) (by exact rfl) (by first | omega | (simp only [bl_len, List.length_map, List.length_append, List.length_take, List.length_drop]; omega)) (by first | omega | (simp only [bl_len, List.length_map, List.length_append, List.length_take, List.length_drop]; omega)) (by first | omega | (simp only [bl_len, List.length_map, List.length_append, List.length_take, List.length_drop]; omega))) rfl ?_ | refine st_p (op_slice Tryz.underlying34 z97 rfl hget_top (by exact ⟨_, rfl⟩) (by exact rfl) (by first | omega | (simp only [bl_len, List.length_map, List.length_append, List.length_take, List.length_drop]; omega)) (by first | omega | (simp only [bl_len, List.length_map, List.length_append, List.length_take, List.length_drop]; omega)) (by first | omega | (simp only [bl_len, List.length_map, List.length_append, List.length_take, List.length_drop]; omega))) rfl ?_ | refine st_p (op_sliceC Tryz.underlying34 z97 rfl rfl (by exact ⟨_, rfl⟩) (by exact rfl) (by first | omega | (simp only [bl_len, List.length_map, List.length_append, List.length_take, List.length_drop]; omega)) (by first | omega | (simp only [bl_len, List.length_map, List.length_append, List.length_take, List.length_drop]; omega)) (by omega) (by first | omega | (simp only [bl_len, List.length_map, List.length_append, List.length_take, List.length_drop]; omega))) rfl ?_
      refine st_p (mv rfl) rfl ?_
      first | refine st_o (op_copy Tryz.underlying34 z97 rfl (by omega) rfl (by omega) rfl (.own rfl (by omega))) rfl ?_ | refine st_o (op_copy Tryz.underlying34 z97 rfl (by omega) rfl (by omega) rfl (.sl (.inr trivial))) rfl ?_ | refine st_o (op_copy Tryz.underlying34 z97 rfl (by omega) rfl (by omega) rfl .nils) rfl ?_ | refine st_o (op_copy Tryz.underlying34 z97 rfl (by omega) hget_top (by omega) rfl (.own rfl (by omega))) rfl ?_ | refine st_o (op_copy Tryz.underlying34 z97 rfl (by omega) hget_top (by omega) rfl (.sl (.inr trivial))) rfl ?_ | refine st_o (op_copy Tryz.underlying34 z97 rfl (by omega) hget_top (by omega) rfl .nils) rfl ?_
      refine al_nil ?_
      refine nm ?_
      refine aw_seq ?_
      obtain ⟨J2, hJ2⟩ : ∃ J2, J2 = J1.take i ++ [x] ++ J1.drop (i + 1) := ⟨_, rfl⟩
      refine aw_re rfl (h' := [(0, .cells 2 J2), (1, .cells 2 [x])]) ?_ ?_
      · refine hset2 ?_
        rw [hJ2]
        have e1 : (([x].drop 0).take 1) = [x] := rfl
        have e8 : min (([x].drop 0).take 1).length ((((((l.length : Int) + ((1 : Nat) : Int)).toNat - Int.toNat 0 : Nat) : Int)).toNat - (i : Int).toNat) = 1 := by rw [e1, hn1]; omega
        refine cp_eq (by omega) ?_ ?_
        · rw [e8]; rfl
        · rw [e8]; omega
      refine aw_trim 0 (l.length + 1) rfl ?_
      refine aw_region ?_
      refine st_p (mv rfl) rfl ?_
      refine st_p (mva rfl) rfl ?_
      refine al_nil ?_
      refine nm ?_
      refine aw_ret ?_
      refine rs ?_
      have e6 : J2.take (l.length + 1) = insA l i x := by rw [hJ2, hJ1]; exact ins_room l x i hlt J _ hJ
      exact ret_a ⟨[(6, .own (K + 2) 0 (l.length + 1))], [(K + 2, .cells 2 (insA l i x))], K + 3⟩ (le_to [(K + 2, 0)] (by first | rfl | simp) (by first | rfl | simp) (by first | rfl | simp) (by first | rfl | simp) (by first | rfl | simp [apart]) ⟨by simp [tget, AV.ren, swp], trivial⟩ ⟨by rw [hsw2]; simp [hget, swp, hset, e6], trivial⟩) (res1 Tryz.results163) hal' ⟨rfl, rfl, rfl⟩

end Go.Proofs.YtloddmbbfkejcaaGreat.Abs
end
section
/-
  The law ShardForms, run: it comes to yes.
-/
namespace Go.Proofs.YtloddmbbfkejcaaGreat.Abs
namespace RunShardForms
/-- The plans of the regions whose order is open. -/
def planRows : List (Nat × List (Nat × PL)) := [
  (36, [(3, ⟨[(0, [1]), (1, [6]), (0, [7]), (0, [8]), (0, [1]), (1, [10]), (0, [11]), (0, [9, 12]), (0, [13]), (0, [1]), (1, [15]), (0, [16]), (0, [14, 17]), (0, [18]), (0, [1]), (1, [20]), (0, [1]), (1, [22]), (0, [21, 23]), (0, [19, 24]), (0, [25]), (0, [1]), (1, [27]), (0, [28]), (0, [26, 29]), (0, [30]), (0, [1]), (1, [32]), (0, [33]), (0, [1]), (1, [35]), (0, [34, 36]), (0, [31, 37]), (0, [38]), (0, [1]), (1, [40]), (0, [3]), (2, [42]), (2, [41, 43]), (0, [44]), (0, [39, 45]), (0, [46]), (0, [1]), (1, [48]), (0, [49]), (0, [1]), (1, [51]), (0, [50, 52]), (0, [47, 53]), (0, [54]), (0, [1]), (1, [56]), (0, [3]), (2, [58]), (2, [57, 59]), (0, [60]), (0, [55, 61]), (0, [62]), (0, [1]), (1, [64]), (2, [65]), (0, [63, 66]), (0, [67]), (0, [1]), (0, [69]), (1, [70]), (0, [4]), (2, [71, 72]), (0, [73]), (0, [68, 74]), (0, [75]), (1, [1]), (2, [77]), (0, [76, 78]), (0, [79])], [([], 0, 0), ([37], 0, 1), ([37, 38], 0, 2), ([37, 38, 53], 0, 3), ([37, 38, 53, 54], 0, 4), ([37, 38, 53, 54, 60], 0, 5), ([37, 38, 53, 54, 60, 67], 0, 6), ([37, 38, 53, 54, 60, 67, 72], 0, 7)], [0, 1, 2, 3, 4, 5, 6, 7], [[0, 1, 2, 3, 4, 5, 6, 7], [0, 1, 2, 3, 4, 5, 6, 7], [0, 1, 2, 3, 4, 5, 6, 7], [0, 1, 2, 3, 4, 5, 6, 7], [0, 1, 2, 3, 4, 5, 6, 7], [0, 1, 2, 3, 4, 5, 6, 7], [0, 1, 2, 3, 4, 5, 6, 7], [0, 1, 2, 3, 4, 5, 6, 7], [0, 1, 2, 3, 4, 5, 6, 7], [0, 1, 2, 3, 4, 5, 6, 7], [0, 1, 2, 3, 4, 5, 6, 7], [0, 1, 2, 3, 4, 5, 6, 7], [0, 1, 2, 3, 4, 5, 6, 7], [0, 1, 2, 3, 4, 5, 6, 7], [0, 1, 2, 3, 4, 5, 6, 7], [0, 1, 2, 3, 4, 5, 6, 7], [0, 1, 2, 3, 4, 5, 6, 7], [0, 1, 2, 3, 4, 5, 6, 7], [0, 1, 2, 3, 4, 5, 6, 7], [0, 1, 2, 3, 4, 5, 6, 7], [0, 1, 2, 3, 4, 5, 6, 7], [0, 1, 2, 3, 4, 5, 6, 7], [0, 1, 2, 3, 4, 5, 6, 7], [0, 1, 2, 3, 4, 5, 6, 7], [0, 1, 2, 3, 4, 5, 6, 7], [0, 1, 2, 3, 4, 5, 6, 7], [0, 1, 2, 3, 4, 5, 6, 7], [0, 1, 2, 3, 4, 5, 6, 7], [0, 1, 2, 3, 4, 5, 6, 7], [0, 1, 2, 3, 4, 5, 6, 7], [0, 1, 2, 3, 4, 5, 6, 7], [0, 1, 2, 3, 4, 5, 6, 7], [0, 1, 2, 3, 4, 5, 6, 7], [0, 1, 2, 3, 4, 5, 6, 7], [0, 1, 2, 3, 4, 5, 6, 7], [0, 1, 2, 3, 4, 5, 6, 7], [0, 1, 2, 3, 4, 5, 6, 7], [1, 2, 3, 4, 5, 6, 7], [2, 3, 4, 5, 6, 7], [2, 3, 4, 5, 6, 7], [2, 3, 4, 5, 6, 7], [2, 3, 4, 5, 6, 7], [2, 3, 4, 5, 6, 7], [2, 3, 4, 5, 6, 7], [2, 3, 4, 5, 6, 7], [2, 3, 4, 5, 6, 7], [2, 3, 4, 5, 6, 7], [2, 3, 4, 5, 6, 7], [2, 3, 4, 5, 6, 7], [2, 3, 4, 5, 6, 7], [2, 3, 4, 5, 6, 7], [2, 3, 4, 5, 6, 7], [2, 3, 4, 5, 6, 7], [3, 4, 5, 6, 7], [4, 5, 6, 7], [4, 5, 6, 7], [4, 5, 6, 7], [4, 5, 6, 7], [4, 5, 6, 7], [4, 5, 6, 7], [5, 6, 7], [5, 6, 7], [5, 6, 7], [5, 6, 7], [5, 6, 7], [5, 6, 7], [5, 6, 7], [6, 7], [6, 7], [6, 7], [6, 7], [6, 7], [7], [7], [7]], [[0], [0], [0], [0], [0], [0], [0], [0], [0], [0], [0], [0], [0], [0], [0], [0], [0], [0], [0], [0], [0], [0], [0], [0], [0], [0], [0], [0], [0], [0], [0], [0], [0], [0], [0, 1], [0, 1], [0], [0], [0, 1], [0, 1, 2], [0, 1, 2], [0, 1, 2], [0, 1, 2], [0, 1, 2], [0, 1, 2], [0, 1, 2], [0, 1, 2], [0, 1, 2], [0, 1, 2], [0, 1, 2], [0, 1, 2, 3], [0, 1, 2, 3], [0, 1, 2], [0, 1, 2], [0, 1, 2, 3], [0, 1, 2, 3, 4], [0, 1, 2, 3, 4], [0, 1, 2, 3, 4], [0, 1, 2, 3, 4], [0, 1, 2, 3, 4], [0, 1, 2, 3, 4], [0, 1, 2, 3, 4, 5], [0, 1, 2, 3, 4, 5], [0, 1, 2, 3, 4, 5], [0, 1, 2, 3, 4, 5], [0, 1, 2, 3, 4, 5], [0, 1, 2, 3, 4, 5], [0, 1, 2, 3, 4, 5], [0, 1, 2, 3, 4, 5, 6], [0, 1, 2, 3, 4, 5, 6], [0, 1, 2, 3, 4, 5, 6], [0, 1, 2, 3, 4, 5, 6], [0, 1, 2, 3, 4, 5, 6], [0, 1, 2, 3, 4, 5, 6, 7], [0, 1, 2, 3, 4, 5, 6, 7]], [(35, 1, 0), (51, 3, 0)], 7⟩)]),
  (40, [(10, ⟨[(0, [9]), (1, [32]), (0, [2]), (1, [34]), (0, [9]), (1, [36]), (2, [35, 37]), (0, [33, 38]), (0, [39])], [([], 0, 0), ([6], 0, 1)], [0, 1], [[0, 1], [0, 1], [0, 1], [0, 1], [0, 1], [0, 1], [1], [1], [1]], [[0, 1], [0, 1], [0], [0], [0], [0], [0], [0, 1], [0, 1]], [(1, 1, 0)], 1⟩)]),
  (42, [(9, ⟨[(1, [3]), (1, [4]), (2, [41, 42]), (1, [3]), (2, [44]), (2, []), (0, [43]), (2, [12, 45])], [([], 0, 0), ([2], 0, 1), ([5], 1, 5), ([2, 4], 0, 2), ([2, 5], 2, 5), ([2, 4, 5], 0, 3), ([2, 4, 5, 7], 0, 4)], [0, 1, 3, 5, 6], [[0, 1, 2, 3, 4, 5, 6], [0, 1, 2, 3, 4, 5, 6], [1, 3, 4, 5, 6], [0, 1, 2, 3, 4, 5, 6], [3, 5, 6], [2, 4, 5, 6], [5, 6], [6]], [[0, 2], [0, 2], [0, 2], [0, 1, 2, 4], [0, 1, 2, 4], [0, 1, 3], [0, 1, 2, 3, 4, 5], [0, 1, 2, 3, 4, 5]], [(0, 2, 0), (1, 2, 0), (2, 2, 4), (3, 0, 0), (3, 2, 0), (3, 4, 0), (4, 4, 5), (5, 0, 2), (5, 1, 4)], 6⟩),
    (11, ⟨[(0, [12]), (1, [50]), (0, [11]), (2, [52]), (2, [51, 53]), (0, [12]), (1, [55]), (0, [10]), (2, [57]), (2, [56, 58]), (0, [8]), (0, [12]), (2, [61, 54]), (0, [12]), (2, [62, 59]), (0, [12]), (2, [63, 60])], [([], 0, 0), ([3], 0, 1), ([8], 1, 8), ([3, 4], 0, 2), ([3, 8], 2, 8), ([3, 4, 8], 0, 3), ([3, 4, 8, 9], 0, 4), ([3, 4, 8, 9, 12], 0, 5), ([3, 4, 8, 9, 12, 14], 0, 6), ([3, 4, 8, 9, 12, 14, 16], 0, 7)], [0, 1, 3, 5, 6, 7, 8, 9], [[0, 1, 2, 3, 4, 5, 6, 7, 8, 9], [0, 1, 2, 3, 4, 5, 6, 7, 8, 9], [0, 1, 2, 3, 4, 5, 6, 7, 8, 9], [1, 3, 4, 5, 6, 7, 8, 9], [3, 5, 6, 7, 8, 9], [0, 1, 2, 3, 4, 5, 6, 7, 8, 9], [0, 1, 2, 3, 4, 5, 6, 7, 8, 9], [0, 1, 2, 3, 4, 5, 6, 7, 8, 9], [2, 4, 5, 6, 7, 8, 9], [6, 7, 8, 9], [0, 1, 2, 3, 4, 5, 6, 7, 8, 9], [3, 5, 6, 7, 8, 9], [7, 8, 9], [7, 8, 9], [8, 9], [8, 9], [9]], [[0, 1, 2, 4], [0, 1, 2, 4], [0, 2], [0, 2], [0, 1, 2, 4], [0, 1, 2, 3, 4, 5], [0, 1, 2, 3, 4, 5], [0, 1, 3], [0, 1, 3], [0, 1, 2, 3, 4, 5], [0, 1, 2, 3, 4, 5, 6, 7, 8], [0, 1, 2, 3, 4, 5, 6], [0, 1, 2, 3, 4, 5, 6], [0, 1, 2, 3, 4, 5, 6, 7], [0, 1, 2, 3, 4, 5, 6, 7], [0, 1, 2, 3, 4, 5, 6, 7, 8], [0, 1, 2, 3, 4, 5, 6, 7, 8]], [(1, 1, 0), (1, 2, 0), (1, 4, 0), (3, 2, 4), (4, 4, 5), (6, 0, 0), (6, 1, 0), (6, 2, 0), (6, 4, 0), (6, 5, 0), (8, 0, 2), (8, 1, 4)], 9⟩)]),
  (80, [(1, ⟨[(0, [1]), (0, [2]), (1, [6]), (2, [5, 7]), (0, [2]), (1, [9]), (0, [8, 10]), (0, [11])], [([], 0, 0), ([3], 0, 1)], [0, 1], [[0, 1], [0, 1], [0, 1], [1], [0, 1], [0, 1], [1], [1]], [[0], [0], [0], [0], [0, 1], [0, 1], [0, 1], [0, 1]], [(5, 0, 0)], 1⟩)]),
  (89, [(6, ⟨[(0, [0]), (0, [5]), (1, [16, 17]), (1, [18]), (0, [1]), (0, [5]), (1, [20, 21]), (1, [22]), (0, [19, 23])], [([], 0, 0)], [0], [[0], [0], [0], [0], [0], [0], [0], [0], [0]], [[0], [0], [0], [0], [0], [0], [0], [0], [0]], [], 0⟩)]),
  (94, [(2, ⟨[(0, [1]), (1, [10]), (2, [11]), (0, [1]), (1, [13]), (2, [14]), (0, [1]), (1, [16]), (2, [17]), (0, [1]), (2, [19, 12]), (0, [1]), (2, [20, 15]), (0, [1]), (2, [21, 18])], [([], 0, 0), ([2], 0, 1), ([2, 5], 0, 2), ([2, 5, 8], 0, 3), ([2, 5, 8, 10], 0, 4), ([2, 5, 8, 10, 12], 0, 5), ([2, 5, 8, 10, 12, 14], 0, 6)], [0, 1, 2, 3, 4, 5, 6], [[0, 1, 2, 3, 4, 5, 6], [0, 1, 2, 3, 4, 5, 6], [1, 2, 3, 4, 5, 6], [0, 1, 2, 3, 4, 5, 6], [0, 1, 2, 3, 4, 5, 6], [2, 3, 4, 5, 6], [0, 1, 2, 3, 4, 5, 6], [0, 1, 2, 3, 4, 5, 6], [3, 4, 5, 6], [1, 2, 3, 4, 5, 6], [4, 5, 6], [4, 5, 6], [5, 6], [5, 6], [6]], [[0], [0], [0], [0, 1], [0, 1], [0, 1], [0, 1, 2], [0, 1, 2], [0, 1, 2], [0, 1, 2, 3], [0, 1, 2, 3], [0, 1, 2, 3, 4], [0, 1, 2, 3, 4], [0, 1, 2, 3, 4, 5], [0, 1, 2, 3, 4, 5]], [(4, 0, 0), (7, 0, 0), (7, 1, 0)], 6⟩)]),
  (116, [(6, ⟨[(0, [0]), (0, [3]), (1, [16, 17]), (1, [18]), (0, [0]), (0, [3]), (0, [21]), (1, [20, 22]), (1, [23]), (0, [19, 24])], [([], 0, 0)], [0], [[0], [0], [0], [0], [0], [0], [0], [0], [0], [0]], [[0], [0], [0], [0], [0], [0], [0], [0], [0], [0]], [], 0⟩),
    (11, ⟨[(0, [4]), (0, [5]), (1, [35, 36]), (1, [37]), (0, [4]), (0, [5]), (0, [40]), (1, [39, 41]), (1, [42]), (0, [38, 43])], [([], 0, 0)], [0], [[0], [0], [0], [0], [0], [0], [0], [0], [0], [0]], [[0], [0], [0], [0], [0], [0], [0], [0], [0], [0]], [], 0⟩)]),
  (128, [(6, ⟨[(0, [0]), (0, [5]), (1, [16, 17]), (1, [18]), (0, [1]), (0, [5]), (1, [20, 21]), (1, [22]), (0, [19, 23])], [([], 0, 0)], [0], [[0], [0], [0], [0], [0], [0], [0], [0], [0]], [[0], [0], [0], [0], [0], [0], [0], [0], [0]], [], 0⟩)]),
  (129, [(6, ⟨[(0, [0]), (0, [5]), (1, [16, 17]), (1, [18]), (0, [1]), (0, [5]), (1, [20, 21]), (1, [22]), (0, [19, 23])], [([], 0, 0)], [0], [[0], [0], [0], [0], [0], [0], [0], [0], [0]], [[0], [0], [0], [0], [0], [0], [0], [0], [0]], [], 0⟩)]),
  (136, [(1, ⟨[(0, [0]), (1, [1]), (2, [5, 6]), (1, [2]), (0, [7, 8]), (0, [9])], [([], 0, 0), ([2], 0, 1)], [0, 1], [[0, 1], [0, 1], [1], [0, 1], [1], [1]], [[0], [0], [0], [0, 1], [0, 1], [0, 1]], [(3, 0, 0)], 1⟩)]),
  (138, [(7, ⟨[(0, [2]), (1, [22]), (0, [5]), (0, [6]), (1, [25]), (0, [1]), (2, [26, 27]), (1, [23, 24]), (0, [29]), (2, [30, 28])], [([], 0, 0), ([6], 0, 1), ([6, 9], 0, 2)], [0, 1, 2], [[0, 1, 2], [0, 1, 2], [0, 1, 2], [0, 1, 2], [0, 1, 2], [0, 1, 2], [1, 2], [1, 2], [1, 2], [2]], [[0, 1], [0, 1], [0, 1], [0], [0], [0], [0], [0, 1], [0, 1], [0, 1]], [(1, 1, 0)], 2⟩)]),
  (143, [(11, ⟨[(0, [3]), (1, [51]), (0, [10]), (0, [3]), (1, [54]), (0, [10]), (1, [55, 56]), (0, [57]), (1, [58]), (1, [9]), (2, [59, 60]), (1, [52, 53]), (0, [62]), (2, [63, 61])], [([], 0, 0), ([10], 0, 1), ([10, 13], 0, 2)], [0, 1, 2], [[0, 1, 2], [0, 1, 2], [0, 1, 2], [0, 1, 2], [0, 1, 2], [0, 1, 2], [0, 1, 2], [0, 1, 2], [0, 1, 2], [0, 1, 2], [1, 2], [1, 2], [1, 2], [2]], [[0, 1], [0, 1], [0, 1], [0], [0], [0], [0], [0], [0], [0], [0], [0, 1], [0, 1], [0, 1]], [(1, 1, 0)], 2⟩)]),
  (148, [(17, ⟨[(0, [1]), (0, [73]), (0, [74]), (0, [0]), (0, [1]), (0, [77]), (1, [76, 78]), (1, [79]), (0, [0]), (0, [11]), (1, [81, 82]), (1, [83]), (2, [80, 84]), (0, [85]), (0, [75, 86])], [([], 0, 0), ([12], 0, 1)], [0, 1], [[0, 1], [0, 1], [0, 1], [0, 1], [0, 1], [0, 1], [0, 1], [0, 1], [0, 1], [0, 1], [0, 1], [0, 1], [1], [1], [1]], [[0], [0], [0], [0], [0], [0], [0], [0], [0], [0], [0], [0], [0], [0, 1], [0, 1]], [], 1⟩)]),
  (154, [(11, ⟨[(0, [9]), (0, [1]), (0, [7]), (0, [47, 48]), (1, [46, 49]), (0, [0]), (0, [1]), (1, [51, 52]), (2, [50, 53])], [([], 0, 0), ([8], 0, 1)], [0, 1], [[0, 1], [0, 1], [0, 1], [0, 1], [0, 1], [0, 1], [0, 1], [0, 1], [1]], [[0], [0], [0], [0], [0], [0], [0], [0], [0]], [], 1⟩),
    (15, ⟨[(0, [0]), (0, [1]), (0, [7]), (0, [70, 71]), (1, [69, 72]), (0, [0]), (0, [1]), (1, [74, 75]), (2, [73, 76])], [([], 0, 0), ([8], 0, 1)], [0, 1], [[0, 1], [0, 1], [0, 1], [0, 1], [0, 1], [0, 1], [0, 1], [0, 1], [1]], [[0], [0], [0], [0], [0], [0], [0], [0], [0]], [], 1⟩)]),
  (159, [(5, ⟨[(0, [1]), (1, [17]), (0, [3]), (0, [4]), (1, [20]), (2, [21]), (1, [18, 19]), (0, [23]), (2, [24, 22])], [([], 0, 0), ([5], 0, 1), ([5, 8], 0, 2)], [0, 1, 2], [[0, 1, 2], [0, 1, 2], [0, 1, 2], [0, 1, 2], [0, 1, 2], [1, 2], [1, 2], [1, 2], [2]], [[0, 1], [0, 1], [0, 1], [0], [0], [0], [0, 1], [0, 1], [0, 1]], [(1, 1, 0)], 2⟩)]),
  (162, [(1, ⟨[(0, [3]), (1, [5]), (0, [0]), (2, [7]), (0, [6, 8])], [([], 0, 0), ([3], 0, 1)], [0, 1], [[0, 1], [0, 1], [0, 1], [1], [1]], [[0, 1], [0, 1], [0], [0], [0, 1]], [(1, 1, 0)], 1⟩),
    (3, ⟨[(0, [0]), (2, [12]), (1, [3]), (2, [14]), (2, [13, 15]), (0, [16])], [([], 0, 0), ([1], 0, 1), ([3], 1, 3), ([1, 3], 0, 2), ([1, 3, 4], 0, 3)], [0, 1, 3, 4], [[0, 1, 2, 3, 4], [1, 3, 4], [0, 1, 2, 3, 4], [2, 3, 4], [4], [4]], [[0, 2], [0, 2], [0, 1], [0, 1], [0, 1, 2, 3], [0, 1, 2, 3, 4]], [(1, 2, 3), (2, 0, 0), (3, 0, 2)], 4⟩)]),
  (163, [(11, ⟨[(0, [9]), (0, [1]), (0, [7]), (0, [47, 48]), (1, [46, 49]), (0, [0]), (0, [1]), (1, [51, 52]), (2, [50, 53])], [([], 0, 0), ([8], 0, 1)], [0, 1], [[0, 1], [0, 1], [0, 1], [0, 1], [0, 1], [0, 1], [0, 1], [0, 1], [1]], [[0], [0], [0], [0], [0], [0], [0], [0], [0]], [], 1⟩),
    (15, ⟨[(0, [0]), (0, [1]), (0, [7]), (0, [70, 71]), (1, [69, 72]), (0, [0]), (0, [1]), (1, [74, 75]), (2, [73, 76])], [([], 0, 0), ([8], 0, 1)], [0, 1], [[0, 1], [0, 1], [0, 1], [0, 1], [0, 1], [0, 1], [0, 1], [0, 1], [1]], [[0], [0], [0], [0], [0], [0], [0], [0], [0]], [], 1⟩)]),
  (165, [(4, ⟨[(0, [7]), (0, [1]), (0, [16, 17]), (0, [18]), (0, [0]), (0, [7]), (1, [20, 21]), (1, [22]), (0, [0]), (0, [7]), (0, [25]), (1, [24, 26]), (1, [27]), (2, [23, 28]), (0, [19, 29])], [([], 0, 0), ([13], 0, 1)], [0, 1], [[0, 1], [0, 1], [0, 1], [0, 1], [0, 1], [0, 1], [0, 1], [0, 1], [0, 1], [0, 1], [0, 1], [0, 1], [0, 1], [1], [1]], [[0], [0], [0], [0], [0], [0], [0], [0], [0], [0], [0], [0], [0], [0], [0, 1]], [], 1⟩),
    (6, ⟨[(0, [0]), (0, [7]), (0, [0]), (0, [7]), (0, [36]), (0, [0]), (0, [7]), (0, [39]), (1, [38, 40]), (1, [41]), (0, [0]), (0, [7]), (1, [43, 44]), (1, [45]), (1, [33, 34]), (2, [47, 42]), (1, [35, 37]), (2, [48, 46])], [([], 0, 0), ([15], 0, 1), ([15, 17], 0, 2)], [0, 1, 2], [[0, 1, 2], [0, 1, 2], [0, 1, 2], [0, 1, 2], [0, 1, 2], [0, 1, 2], [0, 1, 2], [0, 1, 2], [0, 1, 2], [0, 1, 2], [0, 1, 2], [0, 1, 2], [0, 1, 2], [0, 1, 2], [0, 1, 2], [1, 2], [1, 2], [2]], [[0], [0], [0, 1], [0, 1], [0, 1], [0], [0], [0], [0], [0], [0], [0], [0], [0], [0], [0], [0, 1], [0, 1]], [], 2⟩)]),
  (166, [(10, ⟨[(0, [0]), (0, [6]), (0, [0]), (0, [6]), (0, [10]), (0, [36, 37]), (0, [0]), (0, [6]), (0, [10]), (0, [40, 41]), (1, [39, 42]), (1, [43]), (0, [0]), (0, [6]), (1, [45, 46]), (1, [47]), (1, [33, 34]), (2, [49, 44]), (1, [35, 38]), (2, [50, 48])], [([], 0, 0), ([17], 0, 1), ([17, 19], 0, 2)], [0, 1, 2], [[0, 1, 2], [0, 1, 2], [0, 1, 2], [0, 1, 2], [0, 1, 2], [0, 1, 2], [0, 1, 2], [0, 1, 2], [0, 1, 2], [0, 1, 2], [0, 1, 2], [0, 1, 2], [0, 1, 2], [0, 1, 2], [0, 1, 2], [0, 1, 2], [0, 1, 2], [1, 2], [1, 2], [2]], [[0], [0], [0, 1], [0, 1], [0, 1], [0, 1], [0], [0], [0], [0], [0], [0], [0], [0], [0], [0], [0], [0], [0, 1], [0, 1]], [], 2⟩)]),
  (167, [(10, ⟨[(0, [0]), (0, [9]), (0, [0]), (0, [1]), (0, [10]), (0, [50, 51]), (0, [0]), (0, [1]), (0, [10]), (0, [54, 55]), (1, [53, 56]), (1, [57]), (0, [0]), (0, [9]), (1, [59, 60]), (1, [61]), (1, [47, 48]), (2, [63, 58]), (1, [49, 52]), (2, [64, 62])], [([], 0, 0), ([17], 0, 1), ([17, 19], 0, 2)], [0, 1, 2], [[0, 1, 2], [0, 1, 2], [0, 1, 2], [0, 1, 2], [0, 1, 2], [0, 1, 2], [0, 1, 2], [0, 1, 2], [0, 1, 2], [0, 1, 2], [0, 1, 2], [0, 1, 2], [0, 1, 2], [0, 1, 2], [0, 1, 2], [0, 1, 2], [0, 1, 2], [1, 2], [1, 2], [2]], [[0], [0], [0, 1], [0, 1], [0, 1], [0, 1], [0], [0], [0], [0], [0], [0], [0], [0], [0], [0], [0], [0], [0, 1], [0, 1]], [], 2⟩)]),
  (169, [(3, ⟨[(0, [0]), (0, [6]), (0, [0]), (0, [7]), (0, [0]), (0, [7]), (1, [18, 19]), (1, [20]), (0, [0]), (0, [6]), (1, [22, 23]), (1, [24]), (1, [14, 15]), (2, [26, 21]), (1, [16, 17]), (2, [27, 25])], [([], 0, 0), ([13], 0, 1), ([13, 15], 0, 2)], [0, 1, 2], [[0, 1, 2], [0, 1, 2], [0, 1, 2], [0, 1, 2], [0, 1, 2], [0, 1, 2], [0, 1, 2], [0, 1, 2], [0, 1, 2], [0, 1, 2], [0, 1, 2], [0, 1, 2], [0, 1, 2], [1, 2], [1, 2], [2]], [[0], [0], [0, 1], [0, 1], [0], [0], [0], [0], [0], [0], [0], [0], [0], [0], [0, 1], [0, 1]], [], 2⟩)]),
  (170, [(5, ⟨[(0, [7]), (0, [2]), (0, [17, 18]), (0, [19]), (0, [0]), (0, [7]), (1, [21, 22]), (1, [23]), (0, [0]), (0, [7]), (0, [26]), (1, [25, 27]), (1, [28]), (2, [24, 29]), (0, [30]), (0, [20, 31])], [([], 0, 0), ([13], 0, 1)], [0, 1], [[0, 1], [0, 1], [0, 1], [0, 1], [0, 1], [0, 1], [0, 1], [0, 1], [0, 1], [0, 1], [0, 1], [0, 1], [0, 1], [1], [1], [1]], [[0], [0], [0], [0], [0], [0], [0], [0], [0], [0], [0], [0], [0], [0], [0, 1], [0, 1]], [], 1⟩),
    (11, ⟨[(0, [0]), (0, [7]), (0, [0]), (0, [7]), (0, [45]), (0, [0]), (0, [7]), (0, [48]), (1, [47, 49]), (1, [50]), (0, [0]), (0, [7]), (1, [52, 53]), (1, [54]), (1, [42, 43]), (2, [56, 51]), (1, [44, 46]), (2, [57, 55])], [([], 0, 0), ([15], 0, 1), ([15, 17], 0, 2)], [0, 1, 2], [[0, 1, 2], [0, 1, 2], [0, 1, 2], [0, 1, 2], [0, 1, 2], [0, 1, 2], [0, 1, 2], [0, 1, 2], [0, 1, 2], [0, 1, 2], [0, 1, 2], [0, 1, 2], [0, 1, 2], [0, 1, 2], [0, 1, 2], [1, 2], [1, 2], [2]], [[0], [0], [0, 1], [0, 1], [0, 1], [0], [0], [0], [0], [0], [0], [0], [0], [0], [0], [0], [0, 1], [0, 1]], [], 2⟩),
    (16, ⟨[(0, [0]), (0, [9]), (1, [68, 69]), (1, [70]), (0, [0]), (0, [9]), (0, [73]), (1, [72, 74]), (1, [75]), (2, [71, 76]), (0, [77])], [([], 0, 0), ([9], 0, 1)], [0, 1], [[0, 1], [0, 1], [0, 1], [0, 1], [0, 1], [0, 1], [0, 1], [0, 1], [0, 1], [1], [1]], [[0], [0], [0], [0], [0], [0], [0], [0], [0], [0], [0, 1]], [], 1⟩),
    (17, ⟨[(0, [0]), (0, [9]), (0, [0]), (0, [9]), (0, [82]), (0, [0]), (0, [9]), (0, [85]), (1, [84, 86]), (1, [87]), (0, [0]), (0, [9]), (1, [89, 90]), (1, [91]), (1, [79, 80]), (2, [93, 88]), (1, [81, 83]), (2, [94, 92])], [([], 0, 0), ([15], 0, 1), ([15, 17], 0, 2)], [0, 1, 2], [[0, 1, 2], [0, 1, 2], [0, 1, 2], [0, 1, 2], [0, 1, 2], [0, 1, 2], [0, 1, 2], [0, 1, 2], [0, 1, 2], [0, 1, 2], [0, 1, 2], [0, 1, 2], [0, 1, 2], [0, 1, 2], [0, 1, 2], [1, 2], [1, 2], [2]], [[0], [0], [0, 1], [0, 1], [0, 1], [0], [0], [0], [0], [0], [0], [0], [0], [0], [0], [0], [0, 1], [0, 1]], [], 2⟩),
    (22, ⟨[(0, [0]), (0, [10]), (1, [106, 107]), (1, [108]), (0, [0]), (0, [10]), (0, [111]), (1, [110, 112]), (1, [113]), (2, [109, 114]), (0, [115])], [([], 0, 0), ([9], 0, 1)], [0, 1], [[0, 1], [0, 1], [0, 1], [0, 1], [0, 1], [0, 1], [0, 1], [0, 1], [0, 1], [1], [1]], [[0], [0], [0], [0], [0], [0], [0], [0], [0], [0], [0, 1]], [], 1⟩),
    (23, ⟨[(0, [0]), (0, [10]), (0, [0]), (0, [10]), (0, [120]), (0, [0]), (0, [10]), (0, [123]), (1, [122, 124]), (1, [125]), (0, [0]), (0, [10]), (1, [127, 128]), (1, [129]), (1, [117, 118]), (2, [131, 126]), (1, [119, 121]), (2, [132, 130])], [([], 0, 0), ([15], 0, 1), ([15, 17], 0, 2)], [0, 1, 2], [[0, 1, 2], [0, 1, 2], [0, 1, 2], [0, 1, 2], [0, 1, 2], [0, 1, 2], [0, 1, 2], [0, 1, 2], [0, 1, 2], [0, 1, 2], [0, 1, 2], [0, 1, 2], [0, 1, 2], [0, 1, 2], [0, 1, 2], [1, 2], [1, 2], [2]], [[0], [0], [0, 1], [0, 1], [0, 1], [0], [0], [0], [0], [0], [0], [0], [0], [0], [0], [0], [0, 1], [0, 1]], [], 2⟩)]),
  (172, [(1, ⟨[(0, [0]), (0, [1]), (0, [0]), (0, [3]), (0, [0]), (0, [3]), (1, [15, 16]), (1, [17]), (0, [0]), (0, [1]), (1, [19, 20]), (1, [21]), (1, [11, 12]), (2, [23, 18]), (1, [13, 14]), (2, [24, 22])], [([], 0, 0), ([13], 0, 1), ([13, 15], 0, 2)], [0, 1, 2], [[0, 1, 2], [0, 1, 2], [0, 1, 2], [0, 1, 2], [0, 1, 2], [0, 1, 2], [0, 1, 2], [0, 1, 2], [0, 1, 2], [0, 1, 2], [0, 1, 2], [0, 1, 2], [0, 1, 2], [1, 2], [1, 2], [2]], [[0], [0], [0, 1], [0, 1], [0], [0], [0], [0], [0], [0], [0], [0], [0], [0], [0, 1], [0, 1]], [], 2⟩),
    (3, ⟨[(0, [9]), (0, [10]), (0, [29, 30]), (0, [31]), (0, [0]), (0, [1]), (1, [33, 34]), (1, [35]), (0, [0]), (0, [9]), (1, [37, 38]), (1, [39]), (2, [36, 40]), (0, [41]), (0, [32, 42])], [([], 0, 0), ([12], 0, 1)], [0, 1], [[0, 1], [0, 1], [0, 1], [0, 1], [0, 1], [0, 1], [0, 1], [0, 1], [0, 1], [0, 1], [0, 1], [0, 1], [1], [1], [1]], [[0], [0], [0], [0], [0], [0], [0], [0], [0], [0], [0], [0], [0], [0, 1], [0, 1]], [], 1⟩),
    (5, ⟨[(0, [9]), (0, [10]), (0, [46, 47]), (0, [48]), (0, [0]), (0, [1]), (1, [50, 51]), (1, [52]), (0, [0]), (0, [10]), (1, [54, 55]), (1, [56]), (2, [53, 57]), (0, [49, 58])], [([], 0, 0), ([12], 0, 1)], [0, 1], [[0, 1], [0, 1], [0, 1], [0, 1], [0, 1], [0, 1], [0, 1], [0, 1], [0, 1], [0, 1], [0, 1], [0, 1], [1], [1]], [[0], [0], [0], [0], [0], [0], [0], [0], [0], [0], [0], [0], [0], [0, 1]], [], 1⟩),
    (8, ⟨[(0, [0]), (0, [9]), (0, [0]), (0, [10]), (0, [0]), (0, [10]), (1, [69, 70]), (1, [71]), (0, [0]), (0, [9]), (1, [73, 74]), (1, [75]), (1, [65, 66]), (2, [77, 72]), (1, [67, 68]), (2, [78, 76])], [([], 0, 0), ([13], 0, 1), ([13, 15], 0, 2)], [0, 1, 2], [[0, 1, 2], [0, 1, 2], [0, 1, 2], [0, 1, 2], [0, 1, 2], [0, 1, 2], [0, 1, 2], [0, 1, 2], [0, 1, 2], [0, 1, 2], [0, 1, 2], [0, 1, 2], [0, 1, 2], [1, 2], [1, 2], [2]], [[0], [0], [0, 1], [0, 1], [0], [0], [0], [0], [0], [0], [0], [0], [0], [0], [0, 1], [0, 1]], [], 2⟩)]),
  (173, [(1, ⟨[(0, [0]), (0, [1]), (0, [0]), (0, [3]), (0, [0]), (0, [3]), (1, [16, 17]), (1, [18]), (0, [0]), (0, [1]), (1, [20, 21]), (1, [22]), (1, [12, 13]), (2, [24, 19]), (1, [14, 15]), (2, [25, 23])], [([], 0, 0), ([13], 0, 1), ([13, 15], 0, 2)], [0, 1, 2], [[0, 1, 2], [0, 1, 2], [0, 1, 2], [0, 1, 2], [0, 1, 2], [0, 1, 2], [0, 1, 2], [0, 1, 2], [0, 1, 2], [0, 1, 2], [0, 1, 2], [0, 1, 2], [0, 1, 2], [1, 2], [1, 2], [2]], [[0], [0], [0, 1], [0, 1], [0], [0], [0], [0], [0], [0], [0], [0], [0], [0], [0, 1], [0, 1]], [], 2⟩),
    (3, ⟨[(0, [10]), (0, [11]), (0, [30, 31]), (0, [32]), (0, [0]), (0, [10]), (1, [34, 35]), (1, [36]), (0, [0]), (0, [1]), (1, [38, 39]), (1, [40]), (2, [37, 41]), (0, [33, 42])], [([], 0, 0), ([12], 0, 1)], [0, 1], [[0, 1], [0, 1], [0, 1], [0, 1], [0, 1], [0, 1], [0, 1], [0, 1], [0, 1], [0, 1], [0, 1], [0, 1], [1], [1]], [[0], [0], [0], [0], [0], [0], [0], [0], [0], [0], [0], [0], [0], [0, 1]], [], 1⟩),
    (5, ⟨[(0, [10]), (0, [11]), (0, [46, 47]), (0, [48]), (0, [0]), (0, [11]), (1, [50, 51]), (1, [52]), (0, [0]), (0, [1]), (1, [54, 55]), (1, [56]), (2, [53, 57]), (0, [58]), (0, [49, 59])], [([], 0, 0), ([12], 0, 1)], [0, 1], [[0, 1], [0, 1], [0, 1], [0, 1], [0, 1], [0, 1], [0, 1], [0, 1], [0, 1], [0, 1], [0, 1], [0, 1], [1], [1], [1]], [[0], [0], [0], [0], [0], [0], [0], [0], [0], [0], [0], [0], [0], [0, 1], [0, 1]], [], 1⟩),
    (8, ⟨[(0, [0]), (0, [11]), (0, [0]), (0, [1]), (0, [0]), (0, [1]), (1, [70, 71]), (1, [72]), (0, [0]), (0, [11]), (1, [74, 75]), (1, [76]), (1, [66, 67]), (2, [78, 73]), (1, [68, 69]), (2, [79, 77])], [([], 0, 0), ([13], 0, 1), ([13, 15], 0, 2)], [0, 1, 2], [[0, 1, 2], [0, 1, 2], [0, 1, 2], [0, 1, 2], [0, 1, 2], [0, 1, 2], [0, 1, 2], [0, 1, 2], [0, 1, 2], [0, 1, 2], [0, 1, 2], [0, 1, 2], [0, 1, 2], [1, 2], [1, 2], [2]], [[0], [0], [0, 1], [0, 1], [0], [0], [0], [0], [0], [0], [0], [0], [0], [0], [0, 1], [0, 1]], [], 2⟩),
    (10, ⟨[(0, [0]), (0, [10]), (0, [0]), (0, [11]), (0, [0]), (0, [11]), (1, [85, 86]), (1, [87]), (0, [0]), (0, [10]), (1, [89, 90]), (1, [91]), (1, [81, 82]), (2, [93, 88]), (1, [83, 84]), (2, [94, 92])], [([], 0, 0), ([13], 0, 1), ([13, 15], 0, 2)], [0, 1, 2], [[0, 1, 2], [0, 1, 2], [0, 1, 2], [0, 1, 2], [0, 1, 2], [0, 1, 2], [0, 1, 2], [0, 1, 2], [0, 1, 2], [0, 1, 2], [0, 1, 2], [0, 1, 2], [0, 1, 2], [1, 2], [1, 2], [2]], [[0], [0], [0, 1], [0, 1], [0], [0], [0], [0], [0], [0], [0], [0], [0], [0], [0, 1], [0, 1]], [], 2⟩),
    (13, ⟨[(0, [10]), (0, [11]), (0, [99, 100]), (0, [101]), (0, [0]), (0, [10]), (1, [103, 104]), (1, [105]), (0, [0]), (0, [1]), (1, [107, 108]), (1, [109]), (2, [106, 110]), (0, [102, 111])], [([], 0, 0), ([12], 0, 1)], [0, 1], [[0, 1], [0, 1], [0, 1], [0, 1], [0, 1], [0, 1], [0, 1], [0, 1], [0, 1], [0, 1], [0, 1], [0, 1], [1], [1]], [[0], [0], [0], [0], [0], [0], [0], [0], [0], [0], [0], [0], [0], [0, 1]], [], 1⟩),
    (15, ⟨[(0, [10]), (0, [11]), (0, [115, 116]), (0, [117]), (0, [0]), (0, [11]), (1, [119, 120]), (1, [121]), (0, [0]), (0, [1]), (1, [123, 124]), (1, [125]), (2, [122, 126]), (0, [127]), (0, [118, 128])], [([], 0, 0), ([12], 0, 1)], [0, 1], [[0, 1], [0, 1], [0, 1], [0, 1], [0, 1], [0, 1], [0, 1], [0, 1], [0, 1], [0, 1], [0, 1], [0, 1], [1], [1], [1]], [[0], [0], [0], [0], [0], [0], [0], [0], [0], [0], [0], [0], [0], [0, 1], [0, 1]], [], 1⟩),
    (18, ⟨[(0, [0]), (0, [10]), (0, [0]), (0, [11]), (0, [0]), (0, [11]), (1, [139, 140]), (1, [141]), (0, [0]), (0, [10]), (1, [143, 144]), (1, [145]), (1, [135, 136]), (2, [147, 142]), (1, [137, 138]), (2, [148, 146])], [([], 0, 0), ([13], 0, 1), ([13, 15], 0, 2)], [0, 1, 2], [[0, 1, 2], [0, 1, 2], [0, 1, 2], [0, 1, 2], [0, 1, 2], [0, 1, 2], [0, 1, 2], [0, 1, 2], [0, 1, 2], [0, 1, 2], [0, 1, 2], [0, 1, 2], [0, 1, 2], [1, 2], [1, 2], [2]], [[0], [0], [0, 1], [0, 1], [0], [0], [0], [0], [0], [0], [0], [0], [0], [0], [0, 1], [0, 1]], [], 2⟩),
    (21, ⟨[(0, [0]), (0, [11]), (0, [0]), (0, [1]), (0, [0]), (0, [1]), (1, [157, 158]), (1, [159]), (0, [0]), (0, [11]), (1, [161, 162]), (1, [163]), (1, [153, 154]), (2, [165, 160]), (1, [155, 156]), (2, [166, 164])], [([], 0, 0), ([13], 0, 1), ([13, 15], 0, 2)], [0, 1, 2], [[0, 1, 2], [0, 1, 2], [0, 1, 2], [0, 1, 2], [0, 1, 2], [0, 1, 2], [0, 1, 2], [0, 1, 2], [0, 1, 2], [0, 1, 2], [0, 1, 2], [0, 1, 2], [0, 1, 2], [1, 2], [1, 2], [2]], [[0], [0], [0, 1], [0, 1], [0], [0], [0], [0], [0], [0], [0], [0], [0], [0], [0, 1], [0, 1]], [], 2⟩)]),
  (188, [(3, ⟨[(0, [9]), (0, [17]), (0, [2]), (0, [18, 19]), (0, [20]), (0, [0]), (0, [3]), (0, [9]), (0, [23, 24]), (1, [22, 25]), (1, [26]), (0, [0]), (0, [3]), (0, [9]), (0, [29, 30]), (0, [31]), (1, [28, 32]), (1, [33]), (2, [27, 34]), (0, [21, 35])], [([], 0, 0), ([18], 0, 1)], [0, 1], [[0, 1], [0, 1], [0, 1], [0, 1], [0, 1], [0, 1], [0, 1], [0, 1], [0, 1], [0, 1], [0, 1], [0, 1], [0, 1], [0, 1], [0, 1], [0, 1], [0, 1], [0, 1], [1], [1]], [[0], [0], [0], [0], [0], [0], [0], [0], [0], [0], [0], [0], [0], [0], [0], [0], [0], [0], [0], [0, 1]], [], 1⟩),
    (5, ⟨[(0, [0]), (0, [3]), (0, [8]), (0, [40, 41]), (1, [39, 42]), (1, [43]), (0, [0]), (0, [3]), (0, [9]), (0, [46, 47]), (1, [45, 48]), (1, [49]), (2, [44, 50]), (0, [51])], [([], 0, 0), ([12], 0, 1)], [0, 1], [[0, 1], [0, 1], [0, 1], [0, 1], [0, 1], [0, 1], [0, 1], [0, 1], [0, 1], [0, 1], [0, 1], [0, 1], [1], [1]], [[0], [0], [0], [0], [0], [0], [0], [0], [0], [0], [0], [0], [0], [0, 1]], [], 1⟩),
    (6, ⟨[(0, [0]), (0, [3]), (0, [8]), (0, [54, 55]), (0, [0]), (0, [3]), (0, [9]), (0, [58, 59]), (0, [0]), (0, [3]), (0, [9]), (0, [62, 63]), (1, [61, 64]), (1, [65]), (0, [0]), (0, [3]), (0, [8]), (0, [68, 69]), (1, [67, 70]), (1, [71]), (1, [53, 56]), (2, [73, 66]), (1, [57, 60]), (2, [74, 72])], [([], 0, 0), ([21], 0, 1), ([21, 23], 0, 2)], [0, 1, 2], [[0, 1, 2], [0, 1, 2], [0, 1, 2], [0, 1, 2], [0, 1, 2], [0, 1, 2], [0, 1, 2], [0, 1, 2], [0, 1, 2], [0, 1, 2], [0, 1, 2], [0, 1, 2], [0, 1, 2], [0, 1, 2], [0, 1, 2], [0, 1, 2], [0, 1, 2], [0, 1, 2], [0, 1, 2], [0, 1, 2], [0, 1, 2], [1, 2], [1, 2], [2]], [[0], [0], [0], [0], [0, 1], [0, 1], [0, 1], [0, 1], [0], [0], [0], [0], [0], [0], [0], [0], [0], [0], [0], [0], [0], [0], [0, 1], [0, 1]], [], 2⟩)]),
  (190, [(1, ⟨[(0, [0]), (0, [3]), (1, [4]), (0, [0]), (0, [6]), (1, [7]), (0, [8]), (0, [5, 9]), (0, [3]), (2, [11, 10])], [([], 0, 0), ([9], 0, 1)], [0, 1], [[0, 1], [0, 1], [0, 1], [0, 1], [0, 1], [0, 1], [0, 1], [0, 1], [0, 1], [1]], [[0], [0], [0], [0], [0], [0], [0], [0], [0], [0]], [], 1⟩),
    (2, ⟨[(0, [0]), (0, [12]), (1, [13]), (0, [0]), (0, [15]), (1, [16]), (0, [17]), (0, [14, 18]), (0, [12]), (2, [20, 19])], [([], 0, 0), ([9], 0, 1)], [0, 1], [[0, 1], [0, 1], [0, 1], [0, 1], [0, 1], [0, 1], [0, 1], [0, 1], [0, 1], [1]], [[0], [0], [0], [0], [0], [0], [0], [0], [0], [0]], [], 1⟩),
    (3, ⟨[(0, [0]), (0, [21]), (1, [22]), (0, [0]), (0, [24]), (1, [25]), (0, [26]), (0, [23, 27]), (0, [21]), (2, [29, 28])], [([], 0, 0), ([9], 0, 1)], [0, 1], [[0, 1], [0, 1], [0, 1], [0, 1], [0, 1], [0, 1], [0, 1], [0, 1], [0, 1], [1]], [[0], [0], [0], [0], [0], [0], [0], [0], [0], [0]], [], 1⟩)]),
  (196, [(1, ⟨[(0, [0]), (0, [2]), (1, [10, 11]), (1, [12]), (0, [0]), (0, [1]), (1, [14, 15]), (1, [16]), (2, [13, 17])], [([], 0, 0), ([8], 0, 1)], [0, 1], [[0, 1], [0, 1], [0, 1], [0, 1], [0, 1], [0, 1], [0, 1], [0, 1], [1]], [[0], [0], [0], [0], [0], [0], [0], [0], [0]], [], 1⟩)]),
  (197, [(3, ⟨[(0, [0]), (0, [2]), (0, [0]), (0, [3]), (0, [0]), (0, [3]), (1, [18, 19]), (1, [20]), (0, [0]), (0, [2]), (1, [22, 23]), (1, [24]), (1, [14, 15]), (2, [26, 21]), (1, [16, 17]), (2, [27, 25])], [([], 0, 0), ([13], 0, 1), ([13, 15], 0, 2)], [0, 1, 2], [[0, 1, 2], [0, 1, 2], [0, 1, 2], [0, 1, 2], [0, 1, 2], [0, 1, 2], [0, 1, 2], [0, 1, 2], [0, 1, 2], [0, 1, 2], [0, 1, 2], [0, 1, 2], [0, 1, 2], [1, 2], [1, 2], [2]], [[0], [0], [0, 1], [0, 1], [0], [0], [0], [0], [0], [0], [0], [0], [0], [0], [0, 1], [0, 1]], [], 2⟩)]),
  (198, [(3, ⟨[(0, [0]), (0, [2]), (0, [0]), (0, [3]), (0, [0]), (0, [3]), (1, [18, 19]), (1, [20]), (0, [0]), (0, [2]), (1, [22, 23]), (1, [24]), (1, [14, 15]), (2, [26, 21]), (1, [16, 17]), (2, [27, 25])], [([], 0, 0), ([13], 0, 1), ([13, 15], 0, 2)], [0, 1, 2], [[0, 1, 2], [0, 1, 2], [0, 1, 2], [0, 1, 2], [0, 1, 2], [0, 1, 2], [0, 1, 2], [0, 1, 2], [0, 1, 2], [0, 1, 2], [0, 1, 2], [0, 1, 2], [0, 1, 2], [1, 2], [1, 2], [2]], [[0], [0], [0, 1], [0, 1], [0], [0], [0], [0], [0], [0], [0], [0], [0], [0], [0, 1], [0, 1]], [], 2⟩)])]
def pu : Nat → Bool := memF [9, 33, 36, 37, 38, 40, 42, 45, 60, 77, 78, 79, 80, 81, 82, 83, 84, 85, 86, 87, 88, 89, 90, 91, 92, 93, 94, 95, 96, 103, 113, 114, 123, 124, 125, 127, 128, 129, 130, 131, 132, 133, 134, 135, 136, 137, 138, 142, 143, 147, 149, 153, 155, 156, 157, 159, 160, 161, 162, 171, 174, 175, 176, 177, 178, 181, 182, 185, 193]
def ins : List (Nat × Nat) := [(154, 3), (163, 2)]
theorem mixed : Tryz.prog.follows .mixedOrders = true := by kernel_rfl
theorem insOk : ∀ p ∈ ins, InsC Tryz.prog p.1 p.2 := by
  intro p hp
  simp only [ins, List.mem_cons, List.not_mem_nil, or_false] at hp
  rcases hp with rfl | rfl
  · exact ⟨⟨_, Tryz.func154, by decide, rfl⟩, insert_seat⟩
  · exact ⟨⟨_, Tryz.func163, by decide, rfl⟩, insert_chain⟩
end RunShardForms
theorem law_ShardForms : AC Tryz.prog 9 [] [] 0 false (fun r _ _ => r = .bool true) := ac_yesI RunShardForms.mixed RunShardForms.insOk (pl := look2 RunShardForms.planRows) (pu := RunShardForms.pu) 300 (by kernel_rfl)
end Go.Proofs.YtloddmbbfkejcaaGreat.Abs
end
