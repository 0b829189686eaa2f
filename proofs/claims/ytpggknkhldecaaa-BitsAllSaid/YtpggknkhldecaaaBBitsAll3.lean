/- Texts of this session, merged: APlayC, APlayD, AbsY, AbsZ, ASort, ASortB, AbsFC, ASortC, AReads, AbsFD, AReadsP, AbsFE, AbsFF. -/
import Derived.Test.YtpggknkhldecaaaBBitsAll2
import Derived.Test.YtpggknkhldecaaaBBitsAll1
import Derived.Lib.AppendZerosOnto
import Derived.Lib.Overlaps
set_option linter.unusedVariables false
set_option linter.unusedSimpArgs false
section
/-
  Picks: transactions.
-/
namespace Go.Proofs.Ytpggknkhldecaaa.Abs

/-- One behind the other, the choices read on. -/
def pkFold {α : Type} (f : List UInt8 → Nat → α × Nat) : List (List UInt8) → Nat → List α × Nat
  | [], n => ([], n)
  | k :: ks, n => ((f k n).1 :: (pkFold f ks (f k n).2).1, (pkFold f ks (f k n).2).2)

def rdStep (l : List UInt8) (most : Nat) (k : List UInt8) (n : Nat) : RD × Nat :=
  if pkV l n most = 0 then (⟨k, 0, [], false⟩, pkN l n)
  else if pkV l (pkN l n) 4 = 0 then (⟨k, pkV l n most, [], false⟩, pkN l (pkN l n))
  else (⟨k, pkV l n most, pkVal l (pkN l (pkN l n)), true⟩, pkN l (pkN l (pkN l n)))

def wrStep (l : List UInt8) (k : List UInt8) (n : Nat) : WR × Nat :=
  if pkV l (pkN l n) 4 = 0 then (⟨k, [], true⟩, pkN l (pkN l n)) else (⟨k, pkVal l n, false⟩, pkN l (pkN l n))

def pkRds (l : List UInt8) (n most : Nat) : List RD × Nat := pkFold (rdStep l most) (pkKeys l (pkN l (pkN l n)) 3) (pkN l (pkN l (pkN l n)))
def pkWrs (l : List UInt8) (n : Nat) : List WR × Nat := pkFold (wrStep l) (pkKeys l n 3) (pkN l n)
def pkTx (l : List UInt8) (n most : Nat) : TX × Nat :=
  (⟨1 + (pkV l n 3 : Nat), 1 + (pkV l (pkN l n) 6 : Nat), (pkRds l n most).1, (pkWrs l (pkRds l n most).2).1⟩, (pkWrs l (pkRds l n most).2).2)

theorem pickK_len : ∀ (ks : List (List UInt8)) (b r : Nat), (pickK ks b r).length ≤ r := by
  intro ks
  induction ks with
  | nil => intro b r; simp [pickK]
  | cons k ks ih =>
    intro b r
    cases r with
    | zero => simp [pickK]
    | succ r =>
      simp only [pickK]
      split
      · have := ih (b / 2) r
        simp only [List.length_cons]
        omega
      · exact ih _ _

theorem pkFold_len {α : Type} (f : List UInt8 → Nat → α × Nat) : ∀ (ks : List (List UInt8)) (n : Nat), (pkFold f ks n).1.length = ks.length := by
  intro ks
  induction ks with
  | nil => intro n; rfl
  | cons k ks ih => intro n; simp [pkFold, ih]

set_option maxRecDepth 100000 in
set_option maxHeartbeats 4000000 in
theorem pk_Txn0 (l : List UInt8) (n most : Nat) (hl : l.length ≤ 1000000) (hm1 : 1 ≤ most) (hm2 : most ≤ 1000000) :
    AC Try.prog 9 [.ptr 0 0 0, .int .i64 most] [(0, pkB l n)] 1 true (fun v h nx => v = txA (pkTx l n most).1 ∧ h = [(0, pkB l (pkTx l n most).2), (1, .cells 4 [txA (pkTx l n most).1])] ∧ nx = 2) := by
  have hn3 := pk_Num l n 3 hl (by omega) (by omega)
  have hn6 := pk_Num l (pkN l n) 6 hl (by omega) (by omega)
  have hl3 := pkV_lt l n 3 (by omega)
  have hl6 := pkV_lt l (pkN l n) 6 (by omega)
  have hk1 := pk_Keys l (pkN l (pkN l n)) 3 hl (by omega)
  have hM : max (most : Int) 1 = (most : Int) := by omega
  have hnv : ∀ q, AC Try.prog 36 [.ptr 0 0 0, .int .i64 (max (most : Int) 1)] [(0, pkB l q)] 1 true (fun v h nx => v = .int .i64 (pkV l q most) ∧ h = [(0, pkB l (pkN l q))] ∧ nx = 1) := fun q => by rw [hM]; exact pk_Num l q most hl hm1 hm2
  have hn4 : ∀ q, AC Try.prog 36 [.ptr 0 0 0, .int .i64 4] [(0, pkB l q)] 1 true (fun v h nx => v = .int .i64 (pkV l q 4) ∧ h = [(0, pkB l (pkN l q))] ∧ nx = 1) := fun q => pk_Num l q 4 hl (by omega) (by omega)
  have hval := fun q => pk_Val l q hl
  have hkl : (pkKeys l (pkN l (pkN l n)) 3).length ≤ 3 := pickK_len _ _ _
  have hR : pkRds l n most = pkFold (rdStep l most) (pkKeys l (pkN l (pkN l n)) 3) (pkN l (pkN l (pkN l n))) := rfl
  have hT : pkTx l n most = (⟨1 + (pkV l n 3 : Nat), 1 + (pkV l (pkN l n) 6 : Nat), (pkRds l n most).1, (pkWrs l (pkRds l n most).2).1⟩, (pkWrs l (pkRds l n most).2).2) := rfl
  rw [hT]
  clear hT
  generalize pkRds l n most = R at hR ⊢
  have hk2 := pk_Keys l R.2 3 hl (by omega)
  have hkl2 : (pkKeys l R.2 3).length ≤ 3 := pickK_len _ _ _
  have hW : pkWrs l R.2 = pkFold (wrStep l) (pkKeys l R.2 3) (pkN l R.2) := rfl
  generalize pkWrs l R.2 = W at hW ⊢
  generalize pkN l R.2 = n5 at hk2 hW
  generalize pkKeys l R.2 3 = ks2 at hk2 hkl2 hW
  generalize pkKeys l (pkN l (pkN l n)) 3 = ks at hk1 hkl hR
  generalize pkN l (pkN l (pkN l n)) = n3 at hk1 hR
  generalize pkV l n 3 = v3 at hn3 hl3 ⊢
  generalize pkV l (pkN l n) 6 = v6 at hn6 hl6 ⊢
  refine ac_fn Try.func9 rfl rfl rfl rfl (fun w0 S0 r0 => ?_)
  refine aw_seq ?_
  refine aw_region ?_
  refine st_o (op_alloc a26 rfl rfl) rfl ?_
  refine al_nil ?_
  refine nm ?_
  refine aw_seq ?_
  refine aw_region ?_
  refine st_p (mv rfl) rfl ?_
  -- STOP: call (*diwan/diwanplay.Picks).Num(t12, ('app', 'Operand.const', [('app', 'Value.int', ['IntKind.i64', 3])])) -> 13
  refine st_o (op_callg [(0, 0)] 1 true [(0, pkB l n)] [0] (hn3) Try.func36 ⟨rfl, rfl⟩ rfl rfl rfl rfl (by omega) (by intro p hp; simp only [List.mem_cons, List.not_mem_nil, or_false] at hp; rcases hp with rfl <;> exact ⟨by first | rfl | ((simp [hget, swp, Blk.ren, AV.ren, ints, Function.comp_def]) <;> rfl), rfl⟩) rfl (.cons (.same (by rfl)) (.cons (.same (by rfl)) .nil)) rfl rfl rfl) rfl ?_
  refine st_p (op_addi rfl rfl (by omega)) rfl ?_
  refine st_p (mv rfl) rfl ?_
  -- STOP: call (*diwan/diwanplay.Picks).Num(t15, ('app', 'Operand.const', [('app', 'Value.int', ['IntKind.i64', 6])])) -> 16
  refine st_o (op_callg [(0, 0)] 1 true [(0, pkB l (pkN l n))] [0] (hn6) Try.func36 ⟨rfl, rfl⟩ rfl rfl rfl rfl (by omega) (by intro p hp; simp only [List.mem_cons, List.not_mem_nil, or_false] at hp; rcases hp with rfl | rfl <;> exact ⟨by first | rfl | ((simp [hget, swp, Blk.ren, AV.ren, ints, Function.comp_def]) <;> rfl), rfl⟩) rfl (.cons (.same (by rfl)) (.cons (.same (by rfl)) .nil)) rfl rfl rfl) rfl ?_
  refine st_p (op_addi rfl rfl (by omega)) rfl ?_
  refine st_p (op_build Try.underlying26 a26 rfl rfl (by intro f hf; simp only [List.mem_cons, List.not_mem_nil, or_false] at hf; rcases hf with rfl | rfl | rfl | rfl <;> exact ⟨_, by first | exact z3 | exact z23 | exact z24⟩) (pcons rfl rfl z3 rfl (pcons rfl rfl z3 rfl .nil)) rfl) rfl ?_
  refine st_o (op_alloc a26 rfl rfl) rfl ?_
  refine st_n (stA z26 rfl rfl rfl rfl rfl rfl rfl rfl rfl rfl) ?_
  refine al_nil ?_
  refine nm ?_
  refine aw_seq ?_
  refine aw_region ?_
  refine st_p (mv rfl) rfl ?_
  -- STOP: call (*diwan/diwanplay.Picks).Keys(t19, ('app', 'Operand.const', [('app', 'Value.int', ['IntKind.i64', 3])])) -> 20
  refine st_o (op_callg [(0, 0)] 1 true [(0, pkB l (pkN l (pkN l n)))] [0] (hk1) Try.func37 ⟨rfl, rfl⟩ rfl rfl rfl rfl (by omega) (by intro p hp; simp only [List.mem_cons, List.not_mem_nil, or_false] at hp; rcases hp with rfl | rfl | rfl <;> exact ⟨by first | rfl | ((simp [hget, swp, Blk.ren, AV.ren, ints, Function.comp_def]) <;> rfl), rfl⟩) rfl (.cons (.same (by rfl)) (.cons (.same (by rfl)) .nil)) rfl rfl rfl) rfl ?_
  refine st_p (mva rfl) rfl ?_
  refine al_nil ?_
  refine nm ?_
  refine aw_seq ?_
  refine aw_seq ?_
  refine aw_region ?_
  refine st_p (mva rfl) rfl ?_
  refine al_nil ?_
  refine nm ?_
  refine aw_block ?_
  -- LOOP
  refine aw_virtB 4 2 4 rfl rfl rfl rfl ?_
  refine aw_loop (fun p : {p : Nat × List RD × Nat // p.1 ≤ ks.length ∧ p.2.1.length = p.1 ∧ p.2.1 ++ (pkFold (rdStep l most) (ks.drop p.1) p.2.2).1 = R.1 ∧ (pkFold (rdStep l most) (ks.drop p.1) p.2.2).2 = R.2} => ⟨[(0, .ptr 0 0 0), (1, .int .i64 most), (4, .ptr 1 0 0), (5, .ptr 2 0 0), (6, .sl 1 (ks.map sb)), (7, .int .i64 p.1.1)], [(0, pkB l p.1.2.2), (1, .cells 4 [.agg [.int .i64 0, .int .i64 0, .nils, .nils]]), (2, .cells 4 [.agg [.int .i64 (1 + v3), .int .i64 (1 + v6), .own 3 0 p.1.2.1.length, .nils]]), (3, .cells 4 (p.1.2.1.map rdA))], 4⟩) (fun p => ks.length - p.1.1) ⟨(0, [], n3), by dsimp only; refine ⟨by omega, rfl, ?_, ?_⟩ <;> rw [List.drop_zero, hR]; rfl⟩ ?_ ?_
  · exact le_to [(2, 4), (3, 6)] rfl rfl rfl rfl rfl ⟨rfl, rfl, rfl, rfl, rfl, rfl, trivial⟩ ⟨rfl, rfl, rfl, rfl, trivial⟩
  · rintro ⟨⟨i, acc, q⟩, h1, h2, h3, h4⟩
    dsimp only at h1 h2 h3 h4 ⊢
    have hal : (acc.map rdA).length = acc.length := List.length_map _
    have hkm : (ks.map sb).length = ks.length := List.length_map _
    by_cases hi : i < ks.length
    · obtain ⟨k, hk⟩ : ∃ k, ks[i]? = some k := ⟨_, List.getElem?_eq_getElem hi⟩
      have hkb : (ks.map sb)[((i : Nat) : Int).toNat]? = some (sb k) := by rw [Int.toNat_natCast, List.getElem?_map, hk]; rfl
      have hd : ks.drop i = k :: ks.drop (i + 1) := by
        rw [List.drop_eq_getElem_cons hi]
        have := List.getElem?_eq_getElem hi
        rw [hk] at this
        rw [← Option.some.inj this]
      rw [hd] at h3 h4
      simp only [pkFold] at h3 h4
      have hvq := pkV_lt l q most hm1
      have hnvq := hnv q
      by_cases hv : pkV l q most = 0
      · simp only [rdStep, if_pos hv] at h3 h4
        rw [hv] at hnvq
        refine aw_seq ?_
        refine aw_seq ?_
        refine aw_region ?_
        refine st_p (mv rfl) rfl ?_
        refine st_p (mv rfl) rfl ?_
        first | refine st_p (op_len Try.underlying71 rfl) rfl ?_ | refine st_p (op_leno Try.underlying71 rfl) rfl ?_ | refine st_p (op_lenn Try.underlying71 rfl) rfl ?_
        refine st_p (OpP.conv (op_lt rfl rfl) (yes (by first | assumption | omega))) rfl ?_
        refine al_nil ?_
        refine nm ?_
        -- IF t24
        refine aw_yes (rfl) ?_
        refine aw_skip ?_
        refine nm ?_
        refine aw_seq ?_
        refine aw_block ?_
        refine aw_seq ?_
        refine dr_go ?_
        refine dr_f 0 2 [6] rfl (fun H => mv rfl) ?_
        refine dr_f 0 2 [7] rfl (fun H => mv rfl) ?_
        first | refine dr_q 0 2 [27, 28] rfl (op_indexAddrL Try.underlying71 z9 rfl rfl (by omega) (by first | assumption | rfl)) ?_ | refine dr_q 0 2 [27, 28] rfl (op_indexAddr Try.underlying71 z9 rfl rfl rfl (by omega) (by omega)) ?_
        first | refine dr_q 0 2 [29] rfl (op_load1L Try.underlying9 rfl rfl rfl) ?_ | refine dr_q 0 2 [29] rfl (op_load1 Try.underlying9 rfl rfl rfl rfl rfl) ?_ | refine dr_q 0 2 [29] rfl (op_load1 Try.underlying9 rfl rfl rfl (by assumption) rfl) ?_ | refine dr_q 0 2 [29] rfl (op_load1 Try.underlying9 rfl rfl rfl rfl (by assumption)) ?_
        refine dr_f 0 0 [0] rfl (fun H => mv rfl) ?_
        refine dr_f 0 0 [1] rfl (fun H => mv rfl) ?_
        refine dr_f 0 0 [32] rfl (fun H => op_max rfl rfl) ?_
        -- STOP: call (*diwan/diwanplay.Picks).Num(t31, t33) -> 34
        refine dr_e 0 [31, 33] rfl (op_callg [(0, 0)] 1 true [(0, pkB l q)] [0] (hnvq) Try.func36 ⟨rfl, rfl⟩ rfl rfl rfl rfl (by omega) (by intro p hp; simp only [List.mem_cons, List.not_mem_nil, or_false] at hp; rcases hp with rfl <;> exact ⟨by first | rfl | ((simp [hget, swp, Blk.ren, AV.ren, ints, Function.comp_def]) <;> rfl), rfl⟩) rfl (.cons (.same (by rfl)) (.cons (.same (by rfl)) .nil)) rfl rfl rfl) ?_
        refine dr_f 1 2 [30, 34] rfl (fun H => op_build Try.underlying67 a67 rfl rfl (by intro f hf; simp only [List.mem_cons, List.not_mem_nil, or_false] at hf; rcases hf with rfl | rfl | rfl | rfl <;> exact ⟨_, by first | exact z3 | exact z4 | exact z9⟩) (pcons rfl rfl z9 rfl (pcons rfl rfl z3 rfl .nil)) rfl) ?_
        refine dr_fl 1 (op_alloc a67 rfl rfl) ?_
        first | refine dr_n 2 [8, 35] rfl (st1 z67 rfl rfl rfl rfl rfl rfl rfl rfl) ?_ | refine dr_n 2 [8, 35] rfl (stA z67 rfl rfl rfl rfl rfl rfl rfl rfl rfl rfl) ?_ | refine dr_n 2 [8, 35] rfl (st1s z67 rfl rfl rfl (by assumption) rfl rfl rfl) ?_ | refine dr_n 2 [8, 35] rfl (stAs z67 rfl rfl rfl (by assumption) rfl rfl rfl rfl rfl) ?_
        refine dr_endF [9] [(2, 1), (2, 2), (3, 1), (3, 2)] (by kernel_rfl) (by kernel_rfl) ⟨⟨_, rfl, rfl, new_alloc a67 rfl rfl⟩, trivial⟩ (by kernel_rfl) (by kernel_rfl) ⟨(by first | exact ⟨_, rfl, OpP.q (op_indexAddrL Try.underlying71 z9 rfl rfl (by omega) (by first | assumption | rfl))⟩ | exact ⟨_, rfl, OpP.q (op_indexAddr Try.underlying71 z9 rfl rfl rfl (by omega) (by omega))⟩), (by first | exact ⟨_, rfl, OpP.q (op_indexAddrL Try.underlying71 z9 rfl rfl (by omega) (by first | assumption | rfl))⟩ | exact ⟨_, rfl, OpP.q (op_indexAddr Try.underlying71 z9 rfl rfl rfl (by omega) (by omega))⟩), (by first | exact ⟨_, rfl, OpP.q (op_load1L Try.underlying9 rfl rfl rfl)⟩ | exact ⟨_, rfl, OpP.q (op_load1 Try.underlying9 rfl rfl rfl rfl rfl)⟩ | exact ⟨_, rfl, OpP.q (op_load1 Try.underlying9 rfl rfl rfl (by assumption) rfl)⟩ | exact ⟨_, rfl, OpP.q (op_load1 Try.underlying9 rfl rfl rfl rfl (by assumption))⟩), (by first | exact ⟨_, rfl, OpP.q (op_load1L Try.underlying9 rfl rfl rfl)⟩ | exact ⟨_, rfl, OpP.q (op_load1 Try.underlying9 rfl rfl rfl rfl rfl)⟩ | exact ⟨_, rfl, OpP.q (op_load1 Try.underlying9 rfl rfl rfl (by assumption) rfl)⟩ | exact ⟨_, rfl, OpP.q (op_load1 Try.underlying9 rfl rfl rfl rfl (by assumption))⟩), trivial⟩ ?_
        refine nm ?_
        refine aw_seq ?_
        refine aw_seq ?_
        refine aw_region ?_
        first | refine st_p (op_fieldAddrL Try.underlying67 rfl z3 (by decide) rfl) rfl ?_ | refine st_p (op_fieldAddr Try.underlying67 rfl z3 (by decide) rfl) rfl ?_
        first | refine st_p (op_load1L Try.underlying3 rfl rfl rfl) rfl ?_ | refine st_p (op_load1 Try.underlying3 rfl rfl rfl rfl rfl) rfl ?_ | refine st_p (op_load1 Try.underlying3 rfl rfl rfl (by assumption) rfl) rfl ?_ | refine st_p (op_load1 Try.underlying3 rfl rfl rfl rfl (by assumption)) rfl ?_
        refine st_p (OpP.conv (op_gt rfl rfl) (no (by first | assumption | omega))) rfl ?_
        refine st_p (mv rfl) rfl ?_
        refine st_s rfl rfl rfl rfl rfl ?_
        -- STOP: call (*diwan/diwanplay.Picks).Num(t40, ('app', 'Operand.const', [('app', 'Value.int', ['IntKind.i64', 4])])) -> 41
        refine st_s rfl rfl rfl rfl rfl ?_
        refine st_s rfl rfl rfl rfl rfl ?_
        refine st_p (pkF rfl rfl) rfl ?_
        refine al_nil ?_
        refine nm ?_
        -- IF t43
        refine aw_no (rfl) ?_
        refine aw_skip ?_
        refine nm ?_
        refine aw_region ?_
        refine st_p (op_fieldAddr Try.underlying26 rfl z23 (by decide) rfl) rfl ?_
        first | refine st_p (op_load1L Try.underlying23 rfl rfl rfl) rfl ?_ | refine st_p (op_load1 Try.underlying23 rfl rfl rfl rfl rfl) rfl ?_ | refine st_p (op_load1 Try.underlying23 rfl rfl rfl (by assumption) rfl) rfl ?_ | refine st_p (op_load1 Try.underlying23 rfl rfl rfl rfl (by assumption)) rfl ?_
        first | refine st_p (op_loadAL Try.underlying67 rfl z67 rfl rfl) rfl ?_ | refine st_p (op_loadA Try.underlying67 rfl z67 rfl rfl rfl rfl) rfl ?_
        refine st_o (bsl Try.underlying23 i67 o67 (by decide) rfl rfl rfl (by decide)) rfl ?_
        first | refine st_o (op_app Try.underlying23 Try.underlying23 (.inl ⟨_, rfl⟩) i67 o67 rfl rfl rfl (by first | rfl | omega | (simp; done) | (simp; omega)) ((SrcA.whole rfl (by first | rfl | simp)).ok rfl (by first | assumption | intro z hz; simp only [List.mem_singleton, List.drop_zero, List.take_succ_cons, List.take_zero, List.mem_cons, List.not_mem_nil, or_false, List.mem_map] at hz; first | (subst hz; rfl) | (obtain ⟨_, _, rfl⟩ := hz; rfl) | (rcases hz with rfl | rfl <;> rfl))) (by first | omega | (simp; try omega)) rfl) rfl ?_ | refine st_o (op_appN Try.underlying23 Try.underlying23 (.inl ⟨_, rfl⟩) i67 o67 rfl ((SrcA.whole rfl (by first | rfl | simp)).ok rfl (by first | assumption | intro z hz; simp only [List.mem_singleton, List.drop_zero, List.take_succ_cons, List.take_zero, List.mem_cons, List.not_mem_nil, or_false, List.mem_map] at hz; first | (subst hz; rfl) | (obtain ⟨_, _, rfl⟩ := hz; rfl) | (rcases hz with rfl | rfl <;> rfl))) (by first | omega | (simp; try omega))) rfl ?_ | refine st_o (op_app Try.underlying23 Try.underlying23 (.inl ⟨_, rfl⟩) i67 o67 rfl rfl rfl (by first | rfl | omega | (simp; done) | (simp; omega)) ((SrcA.own rfl (by first | omega | (simp; try omega))).ok rfl (by first | assumption | intro z hz; simp only [List.mem_singleton, List.drop_zero, List.take_succ_cons, List.take_zero, List.mem_cons, List.not_mem_nil, or_false, List.mem_map] at hz; first | (subst hz; rfl) | (obtain ⟨_, _, rfl⟩ := hz; rfl) | (rcases hz with rfl | rfl <;> rfl))) (by first | omega | (simp; try omega)) rfl) rfl ?_ | refine st_o (op_appN Try.underlying23 Try.underlying23 (.inl ⟨_, rfl⟩) i67 o67 rfl ((SrcA.own rfl (by first | omega | (simp; try omega))).ok rfl (by first | assumption | intro z hz; simp only [List.mem_singleton, List.drop_zero, List.take_succ_cons, List.take_zero, List.mem_cons, List.not_mem_nil, or_false, List.mem_map] at hz; first | (subst hz; rfl) | (obtain ⟨_, _, rfl⟩ := hz; rfl) | (rcases hz with rfl | rfl <;> rfl))) (by first | omega | (simp; try omega))) rfl ?_ | refine st_o (op_app Try.underlying23 Try.underlying23 (.inl ⟨_, rfl⟩) i67 o67 rfl rfl rfl (by first | rfl | omega | (simp; done) | (simp; omega)) ((SrcA.sl (.inr trivial)).ok rfl (by first | assumption | intro z hz; simp only [List.mem_singleton, List.drop_zero, List.take_succ_cons, List.take_zero, List.mem_cons, List.not_mem_nil, or_false, List.mem_map] at hz; first | (subst hz; rfl) | (obtain ⟨_, _, rfl⟩ := hz; rfl) | (rcases hz with rfl | rfl <;> rfl))) (by first | omega | (simp; try omega)) rfl) rfl ?_ | refine st_o (op_appN Try.underlying23 Try.underlying23 (.inl ⟨_, rfl⟩) i67 o67 rfl ((SrcA.sl (.inr trivial)).ok rfl (by first | assumption | intro z hz; simp only [List.mem_singleton, List.drop_zero, List.take_succ_cons, List.take_zero, List.mem_cons, List.not_mem_nil, or_false, List.mem_map] at hz; first | (subst hz; rfl) | (obtain ⟨_, _, rfl⟩ := hz; rfl) | (rcases hz with rfl | rfl <;> rfl))) (by first | omega | (simp; try omega))) rfl ?_ | refine st_o (op_app Try.underlying23 Try.underlying23 (.inl ⟨_, rfl⟩) i67 o67 rfl rfl rfl (by first | rfl | omega | (simp; done) | (simp; omega)) (SrcA.nils.ok rfl (by intro z hz; cases hz)) (by first | omega | (simp; try omega)) rfl) rfl ?_ | refine st_o (op_appN Try.underlying23 Try.underlying23 (.inl ⟨_, rfl⟩) i67 o67 rfl (SrcA.nils.ok rfl (by intro z hz; cases hz)) (by first | omega | (simp; try omega))) rfl ?_
        refine st_p (op_fieldAddr Try.underlying26 rfl z23 (by decide) rfl) rfl ?_
        first | refine st_n (st1 z23 rfl rfl rfl rfl rfl rfl rfl rfl) ?_ | refine st_n (stA z23 rfl rfl rfl rfl rfl rfl rfl rfl rfl rfl) ?_ | refine st_n (st1s z23 rfl rfl rfl (by assumption) rfl rfl rfl) ?_ | refine st_n (stAs z23 rfl rfl rfl (by assumption) rfl rfl rfl rfl rfl) ?_ | refine st_n (stE z23 rfl rfl rfl rfl (by omega) rfl rfl) ?_
        refine al_nil ?_
        refine nmb ?_
        refine nm ?_
        refine aw_region ?_
        refine st_p (mv rfl) rfl ?_
        refine st_p (op_addi rfl rfl (by omega)) rfl ?_
        refine st_p (mva rfl) rfl ?_
        refine al_nil ?_
        refine nm ?_
        refine ⟨⟨(i + 1, acc ++ [⟨k, 0, [], false⟩], pkN l q), by dsimp only; refine ⟨by omega, by simp [h2], ?_, h4⟩; rw [List.append_assoc]; exact h3⟩, by dsimp only; omega, le_to [(3, 7)] rfl rfl rfl rfl rfl ⟨rfl, rfl, rfl, rfl, rfl, rfl, trivial⟩ ⟨rfl, rfl, ?_, ?_, trivial⟩⟩
        · simp [Blk.ren, hget, swp, AV.ren, rens]
        · (simp [Blk.ren, hget, swp, AV.ren, rens, sb, rdA, ofConst1]) <;> rfl
      · have hvp : 0 < pkV l q most := by omega
        have hnf := hn4 (pkN l q)
        by_cases hu : pkV l (pkN l q) 4 = 0
        · simp only [rdStep, if_neg hv, if_pos hu] at h3 h4
          rw [hu] at hnf
          generalize pkV l q most = v at hv hvp hnvq h3 h4 hvq
          refine aw_seq ?_
          refine aw_seq ?_
          refine aw_region ?_
          refine st_p (mv rfl) rfl ?_
          refine st_p (mv rfl) rfl ?_
          first | refine st_p (op_len Try.underlying71 rfl) rfl ?_ | refine st_p (op_leno Try.underlying71 rfl) rfl ?_ | refine st_p (op_lenn Try.underlying71 rfl) rfl ?_
          refine st_p (OpP.conv (op_lt rfl rfl) (yes (by first | assumption | omega))) rfl ?_
          refine al_nil ?_
          refine nm ?_
          -- IF t24
          refine aw_yes (rfl) ?_
          refine aw_skip ?_
          refine nm ?_
          refine aw_seq ?_
          refine aw_block ?_
          refine aw_seq ?_
          refine dr_go ?_
          refine dr_f 0 2 [6] rfl (fun H => mv rfl) ?_
          refine dr_f 0 2 [7] rfl (fun H => mv rfl) ?_
          first | refine dr_q 0 2 [27, 28] rfl (op_indexAddrL Try.underlying71 z9 rfl rfl (by omega) (by first | assumption | rfl)) ?_ | refine dr_q 0 2 [27, 28] rfl (op_indexAddr Try.underlying71 z9 rfl rfl rfl (by omega) (by omega)) ?_
          first | refine dr_q 0 2 [29] rfl (op_load1L Try.underlying9 rfl rfl rfl) ?_ | refine dr_q 0 2 [29] rfl (op_load1 Try.underlying9 rfl rfl rfl rfl rfl) ?_ | refine dr_q 0 2 [29] rfl (op_load1 Try.underlying9 rfl rfl rfl (by assumption) rfl) ?_ | refine dr_q 0 2 [29] rfl (op_load1 Try.underlying9 rfl rfl rfl rfl (by assumption)) ?_
          refine dr_f 0 0 [0] rfl (fun H => mv rfl) ?_
          refine dr_f 0 0 [1] rfl (fun H => mv rfl) ?_
          refine dr_f 0 0 [32] rfl (fun H => op_max rfl rfl) ?_
          -- STOP: call (*diwan/diwanplay.Picks).Num(t31, t33) -> 34
          refine dr_e 0 [31, 33] rfl (op_callg [(0, 0)] 1 true [(0, pkB l q)] [0] (hnvq) Try.func36 ⟨rfl, rfl⟩ rfl rfl rfl rfl (by omega) (by intro p hp; simp only [List.mem_cons, List.not_mem_nil, or_false] at hp; rcases hp with rfl <;> exact ⟨by first | rfl | ((simp [hget, swp, Blk.ren, AV.ren, ints, Function.comp_def]) <;> rfl), rfl⟩) rfl (.cons (.same (by rfl)) (.cons (.same (by rfl)) .nil)) rfl rfl rfl) ?_
          refine dr_f 1 2 [30, 34] rfl (fun H => op_build Try.underlying67 a67 rfl rfl (by intro f hf; simp only [List.mem_cons, List.not_mem_nil, or_false] at hf; rcases hf with rfl | rfl | rfl | rfl <;> exact ⟨_, by first | exact z3 | exact z4 | exact z9⟩) (pcons rfl rfl z9 rfl (pcons rfl rfl z3 rfl .nil)) rfl) ?_
          refine dr_fl 1 (op_alloc a67 rfl rfl) ?_
          first | refine dr_n 2 [8, 35] rfl (st1 z67 rfl rfl rfl rfl rfl rfl rfl rfl) ?_ | refine dr_n 2 [8, 35] rfl (stA z67 rfl rfl rfl rfl rfl rfl rfl rfl rfl rfl) ?_ | refine dr_n 2 [8, 35] rfl (st1s z67 rfl rfl rfl (by assumption) rfl rfl rfl) ?_ | refine dr_n 2 [8, 35] rfl (stAs z67 rfl rfl rfl (by assumption) rfl rfl rfl rfl rfl) ?_
          refine dr_endF [9] [(2, 1), (2, 2), (3, 1), (3, 2)] (by kernel_rfl) (by kernel_rfl) ⟨⟨_, rfl, rfl, new_alloc a67 rfl rfl⟩, trivial⟩ (by kernel_rfl) (by kernel_rfl) ⟨(by first | exact ⟨_, rfl, OpP.q (op_indexAddrL Try.underlying71 z9 rfl rfl (by omega) (by first | assumption | rfl))⟩ | exact ⟨_, rfl, OpP.q (op_indexAddr Try.underlying71 z9 rfl rfl rfl (by omega) (by omega))⟩), (by first | exact ⟨_, rfl, OpP.q (op_indexAddrL Try.underlying71 z9 rfl rfl (by omega) (by first | assumption | rfl))⟩ | exact ⟨_, rfl, OpP.q (op_indexAddr Try.underlying71 z9 rfl rfl rfl (by omega) (by omega))⟩), (by first | exact ⟨_, rfl, OpP.q (op_load1L Try.underlying9 rfl rfl rfl)⟩ | exact ⟨_, rfl, OpP.q (op_load1 Try.underlying9 rfl rfl rfl rfl rfl)⟩ | exact ⟨_, rfl, OpP.q (op_load1 Try.underlying9 rfl rfl rfl (by assumption) rfl)⟩ | exact ⟨_, rfl, OpP.q (op_load1 Try.underlying9 rfl rfl rfl rfl (by assumption))⟩), (by first | exact ⟨_, rfl, OpP.q (op_load1L Try.underlying9 rfl rfl rfl)⟩ | exact ⟨_, rfl, OpP.q (op_load1 Try.underlying9 rfl rfl rfl rfl rfl)⟩ | exact ⟨_, rfl, OpP.q (op_load1 Try.underlying9 rfl rfl rfl (by assumption) rfl)⟩ | exact ⟨_, rfl, OpP.q (op_load1 Try.underlying9 rfl rfl rfl rfl (by assumption))⟩), trivial⟩ ?_
          refine nm ?_
          refine aw_seq ?_
          refine aw_seq ?_
          refine aw_region ?_
          first | refine st_p (op_fieldAddrL Try.underlying67 rfl z3 (by decide) rfl) rfl ?_ | refine st_p (op_fieldAddr Try.underlying67 rfl z3 (by decide) rfl) rfl ?_
          first | refine st_p (op_load1L Try.underlying3 rfl rfl rfl) rfl ?_ | refine st_p (op_load1 Try.underlying3 rfl rfl rfl rfl rfl) rfl ?_ | refine st_p (op_load1 Try.underlying3 rfl rfl rfl (by assumption) rfl) rfl ?_ | refine st_p (op_load1 Try.underlying3 rfl rfl rfl rfl (by assumption)) rfl ?_
          refine st_p (OpP.conv (op_gt rfl rfl) (yes (by first | assumption | omega))) rfl ?_
          refine st_p (mv rfl) rfl ?_
          refine st_pg rfl rfl rfl (mv rfl) rfl ?_
          -- STOP: call (*diwan/diwanplay.Picks).Num(t40, ('app', 'Operand.const', [('app', 'Value.int', ['IntKind.i64', 4])])) -> 41
          first | refine st_s rfl rfl rfl rfl rfl ?_ | refine st_og rfl rfl rfl (op_callg [(0, 0)] 1 true [(0, pkB l (pkN l q))] [0] (hnf) Try.func36 ⟨rfl, rfl⟩ rfl rfl rfl rfl (by omega) (by intro p hp; simp only [List.mem_cons, List.not_mem_nil, or_false] at hp; rcases hp with rfl | rfl <;> exact ⟨by first | rfl | ((simp [hget, swp, Blk.ren, AV.ren, ints, Function.comp_def]) <;> rfl), rfl⟩) rfl (.cons (.same (by rfl)) (.cons (.same (by rfl)) .nil)) rfl rfl rfl) rfl ?_
          refine st_pg rfl rfl rfl (OpP.conv (op_gt rfl rfl) (no (by first | assumption | omega))) rfl ?_
          refine st_p (pkT rfl rfl) rfl ?_
          refine al_nil ?_
          refine nm ?_
          -- IF t43
          refine aw_no (rfl) ?_
          refine aw_skip ?_
          refine nm ?_
          refine aw_region ?_
          refine st_p (op_fieldAddr Try.underlying26 rfl z23 (by decide) rfl) rfl ?_
          first | refine st_p (op_load1L Try.underlying23 rfl rfl rfl) rfl ?_ | refine st_p (op_load1 Try.underlying23 rfl rfl rfl rfl rfl) rfl ?_ | refine st_p (op_load1 Try.underlying23 rfl rfl rfl (by assumption) rfl) rfl ?_ | refine st_p (op_load1 Try.underlying23 rfl rfl rfl rfl (by assumption)) rfl ?_
          first | refine st_p (op_loadAL Try.underlying67 rfl z67 rfl rfl) rfl ?_ | refine st_p (op_loadA Try.underlying67 rfl z67 rfl rfl rfl rfl) rfl ?_
          refine st_o (bsl Try.underlying23 i67 o67 (by decide) rfl rfl rfl (by decide)) rfl ?_
          first | refine st_o (op_app Try.underlying23 Try.underlying23 (.inl ⟨_, rfl⟩) i67 o67 rfl rfl rfl (by first | rfl | omega | (simp; done) | (simp; omega)) ((SrcA.whole rfl (by first | rfl | simp)).ok rfl (by first | assumption | intro z hz; simp only [List.mem_singleton, List.drop_zero, List.take_succ_cons, List.take_zero, List.mem_cons, List.not_mem_nil, or_false, List.mem_map] at hz; first | (subst hz; rfl) | (obtain ⟨_, _, rfl⟩ := hz; rfl) | (rcases hz with rfl | rfl <;> rfl))) (by first | omega | (simp; try omega)) rfl) rfl ?_ | refine st_o (op_appN Try.underlying23 Try.underlying23 (.inl ⟨_, rfl⟩) i67 o67 rfl ((SrcA.whole rfl (by first | rfl | simp)).ok rfl (by first | assumption | intro z hz; simp only [List.mem_singleton, List.drop_zero, List.take_succ_cons, List.take_zero, List.mem_cons, List.not_mem_nil, or_false, List.mem_map] at hz; first | (subst hz; rfl) | (obtain ⟨_, _, rfl⟩ := hz; rfl) | (rcases hz with rfl | rfl <;> rfl))) (by first | omega | (simp; try omega))) rfl ?_ | refine st_o (op_app Try.underlying23 Try.underlying23 (.inl ⟨_, rfl⟩) i67 o67 rfl rfl rfl (by first | rfl | omega | (simp; done) | (simp; omega)) ((SrcA.own rfl (by first | omega | (simp; try omega))).ok rfl (by first | assumption | intro z hz; simp only [List.mem_singleton, List.drop_zero, List.take_succ_cons, List.take_zero, List.mem_cons, List.not_mem_nil, or_false, List.mem_map] at hz; first | (subst hz; rfl) | (obtain ⟨_, _, rfl⟩ := hz; rfl) | (rcases hz with rfl | rfl <;> rfl))) (by first | omega | (simp; try omega)) rfl) rfl ?_ | refine st_o (op_appN Try.underlying23 Try.underlying23 (.inl ⟨_, rfl⟩) i67 o67 rfl ((SrcA.own rfl (by first | omega | (simp; try omega))).ok rfl (by first | assumption | intro z hz; simp only [List.mem_singleton, List.drop_zero, List.take_succ_cons, List.take_zero, List.mem_cons, List.not_mem_nil, or_false, List.mem_map] at hz; first | (subst hz; rfl) | (obtain ⟨_, _, rfl⟩ := hz; rfl) | (rcases hz with rfl | rfl <;> rfl))) (by first | omega | (simp; try omega))) rfl ?_ | refine st_o (op_app Try.underlying23 Try.underlying23 (.inl ⟨_, rfl⟩) i67 o67 rfl rfl rfl (by first | rfl | omega | (simp; done) | (simp; omega)) ((SrcA.sl (.inr trivial)).ok rfl (by first | assumption | intro z hz; simp only [List.mem_singleton, List.drop_zero, List.take_succ_cons, List.take_zero, List.mem_cons, List.not_mem_nil, or_false, List.mem_map] at hz; first | (subst hz; rfl) | (obtain ⟨_, _, rfl⟩ := hz; rfl) | (rcases hz with rfl | rfl <;> rfl))) (by first | omega | (simp; try omega)) rfl) rfl ?_ | refine st_o (op_appN Try.underlying23 Try.underlying23 (.inl ⟨_, rfl⟩) i67 o67 rfl ((SrcA.sl (.inr trivial)).ok rfl (by first | assumption | intro z hz; simp only [List.mem_singleton, List.drop_zero, List.take_succ_cons, List.take_zero, List.mem_cons, List.not_mem_nil, or_false, List.mem_map] at hz; first | (subst hz; rfl) | (obtain ⟨_, _, rfl⟩ := hz; rfl) | (rcases hz with rfl | rfl <;> rfl))) (by first | omega | (simp; try omega))) rfl ?_ | refine st_o (op_app Try.underlying23 Try.underlying23 (.inl ⟨_, rfl⟩) i67 o67 rfl rfl rfl (by first | rfl | omega | (simp; done) | (simp; omega)) (SrcA.nils.ok rfl (by intro z hz; cases hz)) (by first | omega | (simp; try omega)) rfl) rfl ?_ | refine st_o (op_appN Try.underlying23 Try.underlying23 (.inl ⟨_, rfl⟩) i67 o67 rfl (SrcA.nils.ok rfl (by intro z hz; cases hz)) (by first | omega | (simp; try omega))) rfl ?_
          refine st_p (op_fieldAddr Try.underlying26 rfl z23 (by decide) rfl) rfl ?_
          first | refine st_n (st1 z23 rfl rfl rfl rfl rfl rfl rfl rfl) ?_ | refine st_n (stA z23 rfl rfl rfl rfl rfl rfl rfl rfl rfl rfl) ?_ | refine st_n (st1s z23 rfl rfl rfl (by assumption) rfl rfl rfl) ?_ | refine st_n (stAs z23 rfl rfl rfl (by assumption) rfl rfl rfl rfl rfl) ?_ | refine st_n (stE z23 rfl rfl rfl rfl (by omega) rfl rfl) ?_
          refine al_nil ?_
          refine nmb ?_
          refine nm ?_
          refine aw_region ?_
          refine st_p (mv rfl) rfl ?_
          refine st_p (op_addi rfl rfl (by omega)) rfl ?_
          refine st_p (mva rfl) rfl ?_
          refine al_nil ?_
          refine nm ?_
          refine ⟨⟨(i + 1, acc ++ [⟨k, v, [], false⟩], pkN l (pkN l q)), by dsimp only; refine ⟨by omega, by simp [h2], ?_, h4⟩; rw [List.append_assoc]; exact h3⟩, by dsimp only; omega, le_to [(3, 8)] rfl rfl rfl rfl rfl ⟨rfl, rfl, rfl, rfl, rfl, rfl, trivial⟩ ⟨rfl, rfl, ?_, ?_, trivial⟩⟩
          · simp [Blk.ren, hget, swp, AV.ren, rens]
          · (simp [Blk.ren, hget, swp, AV.ren, rens, sb, rdA, ofConst1]) <;> rfl
        · simp only [rdStep, if_neg hv, if_neg hu] at h3 h4
          have hup : 0 < pkV l (pkN l q) 4 := by omega
          have hvl := hval (pkN l (pkN l q))
          generalize pkV l q most = v at hv hvp hnvq h3 h4 hvq
          generalize pkV l (pkN l q) 4 = u at hu hup hnf
          generalize pkVal l (pkN l (pkN l q)) = vv at hvl h3 h4
          refine aw_seq ?_
          refine aw_seq ?_
          refine aw_region ?_
          refine st_p (mv rfl) rfl ?_
          refine st_p (mv rfl) rfl ?_
          first | refine st_p (op_len Try.underlying71 rfl) rfl ?_ | refine st_p (op_leno Try.underlying71 rfl) rfl ?_ | refine st_p (op_lenn Try.underlying71 rfl) rfl ?_
          refine st_p (OpP.conv (op_lt rfl rfl) (yes (by first | assumption | omega))) rfl ?_
          refine al_nil ?_
          refine nm ?_
          -- IF t24
          refine aw_yes (rfl) ?_
          refine aw_skip ?_
          refine nm ?_
          refine aw_seq ?_
          refine aw_block ?_
          refine aw_seq ?_
          refine dr_go ?_
          refine dr_f 0 2 [6] rfl (fun H => mv rfl) ?_
          refine dr_f 0 2 [7] rfl (fun H => mv rfl) ?_
          first | refine dr_q 0 2 [27, 28] rfl (op_indexAddrL Try.underlying71 z9 rfl rfl (by omega) (by first | assumption | rfl)) ?_ | refine dr_q 0 2 [27, 28] rfl (op_indexAddr Try.underlying71 z9 rfl rfl rfl (by omega) (by omega)) ?_
          first | refine dr_q 0 2 [29] rfl (op_load1L Try.underlying9 rfl rfl rfl) ?_ | refine dr_q 0 2 [29] rfl (op_load1 Try.underlying9 rfl rfl rfl rfl rfl) ?_ | refine dr_q 0 2 [29] rfl (op_load1 Try.underlying9 rfl rfl rfl (by assumption) rfl) ?_ | refine dr_q 0 2 [29] rfl (op_load1 Try.underlying9 rfl rfl rfl rfl (by assumption)) ?_
          refine dr_f 0 0 [0] rfl (fun H => mv rfl) ?_
          refine dr_f 0 0 [1] rfl (fun H => mv rfl) ?_
          refine dr_f 0 0 [32] rfl (fun H => op_max rfl rfl) ?_
          -- STOP: call (*diwan/diwanplay.Picks).Num(t31, t33) -> 34
          refine dr_e 0 [31, 33] rfl (op_callg [(0, 0)] 1 true [(0, pkB l q)] [0] (hnvq) Try.func36 ⟨rfl, rfl⟩ rfl rfl rfl rfl (by omega) (by intro p hp; simp only [List.mem_cons, List.not_mem_nil, or_false] at hp; rcases hp with rfl <;> exact ⟨by first | rfl | ((simp [hget, swp, Blk.ren, AV.ren, ints, Function.comp_def]) <;> rfl), rfl⟩) rfl (.cons (.same (by rfl)) (.cons (.same (by rfl)) .nil)) rfl rfl rfl) ?_
          refine dr_f 1 2 [30, 34] rfl (fun H => op_build Try.underlying67 a67 rfl rfl (by intro f hf; simp only [List.mem_cons, List.not_mem_nil, or_false] at hf; rcases hf with rfl | rfl | rfl | rfl <;> exact ⟨_, by first | exact z3 | exact z4 | exact z9⟩) (pcons rfl rfl z9 rfl (pcons rfl rfl z3 rfl .nil)) rfl) ?_
          refine dr_fl 1 (op_alloc a67 rfl rfl) ?_
          first | refine dr_n 2 [8, 35] rfl (st1 z67 rfl rfl rfl rfl rfl rfl rfl rfl) ?_ | refine dr_n 2 [8, 35] rfl (stA z67 rfl rfl rfl rfl rfl rfl rfl rfl rfl rfl) ?_ | refine dr_n 2 [8, 35] rfl (st1s z67 rfl rfl rfl (by assumption) rfl rfl rfl) ?_ | refine dr_n 2 [8, 35] rfl (stAs z67 rfl rfl rfl (by assumption) rfl rfl rfl rfl rfl) ?_
          refine dr_endF [9] [(2, 1), (2, 2), (3, 1), (3, 2)] (by kernel_rfl) (by kernel_rfl) ⟨⟨_, rfl, rfl, new_alloc a67 rfl rfl⟩, trivial⟩ (by kernel_rfl) (by kernel_rfl) ⟨(by first | exact ⟨_, rfl, OpP.q (op_indexAddrL Try.underlying71 z9 rfl rfl (by omega) (by first | assumption | rfl))⟩ | exact ⟨_, rfl, OpP.q (op_indexAddr Try.underlying71 z9 rfl rfl rfl (by omega) (by omega))⟩), (by first | exact ⟨_, rfl, OpP.q (op_indexAddrL Try.underlying71 z9 rfl rfl (by omega) (by first | assumption | rfl))⟩ | exact ⟨_, rfl, OpP.q (op_indexAddr Try.underlying71 z9 rfl rfl rfl (by omega) (by omega))⟩), (by first | exact ⟨_, rfl, OpP.q (op_load1L Try.underlying9 rfl rfl rfl)⟩ | exact ⟨_, rfl, OpP.q (op_load1 Try.underlying9 rfl rfl rfl rfl rfl)⟩ | exact ⟨_, rfl, OpP.q (op_load1 Try.underlying9 rfl rfl rfl (by assumption) rfl)⟩ | exact ⟨_, rfl, OpP.q (op_load1 Try.underlying9 rfl rfl rfl rfl (by assumption))⟩), (by first | exact ⟨_, rfl, OpP.q (op_load1L Try.underlying9 rfl rfl rfl)⟩ | exact ⟨_, rfl, OpP.q (op_load1 Try.underlying9 rfl rfl rfl rfl rfl)⟩ | exact ⟨_, rfl, OpP.q (op_load1 Try.underlying9 rfl rfl rfl (by assumption) rfl)⟩ | exact ⟨_, rfl, OpP.q (op_load1 Try.underlying9 rfl rfl rfl rfl (by assumption))⟩), trivial⟩ ?_
          refine nm ?_
          refine aw_seq ?_
          refine aw_seq ?_
          refine aw_region ?_
          first | refine st_p (op_fieldAddrL Try.underlying67 rfl z3 (by decide) rfl) rfl ?_ | refine st_p (op_fieldAddr Try.underlying67 rfl z3 (by decide) rfl) rfl ?_
          first | refine st_p (op_load1L Try.underlying3 rfl rfl rfl) rfl ?_ | refine st_p (op_load1 Try.underlying3 rfl rfl rfl rfl rfl) rfl ?_ | refine st_p (op_load1 Try.underlying3 rfl rfl rfl (by assumption) rfl) rfl ?_ | refine st_p (op_load1 Try.underlying3 rfl rfl rfl rfl (by assumption)) rfl ?_
          refine st_p (OpP.conv (op_gt rfl rfl) (yes (by first | assumption | omega))) rfl ?_
          refine st_p (mv rfl) rfl ?_
          refine st_pg rfl rfl rfl (mv rfl) rfl ?_
          -- STOP: call (*diwan/diwanplay.Picks).Num(t40, ('app', 'Operand.const', [('app', 'Value.int', ['IntKind.i64', 4])])) -> 41
          first | refine st_s rfl rfl rfl rfl rfl ?_ | refine st_og rfl rfl rfl (op_callg [(0, 0)] 1 true [(0, pkB l (pkN l q))] [0] (hnf) Try.func36 ⟨rfl, rfl⟩ rfl rfl rfl rfl (by omega) (by intro p hp; simp only [List.mem_cons, List.not_mem_nil, or_false] at hp; rcases hp with rfl | rfl <;> exact ⟨by first | rfl | ((simp [hget, swp, Blk.ren, AV.ren, ints, Function.comp_def]) <;> rfl), rfl⟩) rfl (.cons (.same (by rfl)) (.cons (.same (by rfl)) .nil)) rfl rfl rfl) rfl ?_
          refine st_pg rfl rfl rfl (OpP.conv (op_gt rfl rfl) (yes (by first | assumption | omega))) rfl ?_
          refine st_p (pkT rfl rfl) rfl ?_
          refine al_nil ?_
          refine nm ?_
          -- IF t43
          refine aw_yes (rfl) ?_
          refine aw_region ?_
          refine st_p (mv rfl) rfl ?_
          -- STOP: call (*diwan/diwanplay.Picks).Val(t44) -> 45
          refine st_o (op_callg [(0, 0)] 1 true [(0, pkB l (pkN l (pkN l q)))] [0] (hvl) Try.func38 ⟨rfl, rfl⟩ rfl rfl rfl rfl (by omega) (by intro p hp; simp only [List.mem_cons, List.not_mem_nil, or_false] at hp; rcases hp with rfl | rfl | rfl <;> exact ⟨by first | rfl | ((simp [hget, swp, Blk.ren, AV.ren, ints, Function.comp_def]) <;> rfl), rfl⟩) rfl (.cons (.same (by rfl)) .nil) rfl rfl rfl) rfl ?_
          first | refine st_p (op_fieldAddrL Try.underlying67 rfl z4 (by decide) rfl) rfl ?_ | refine st_p (op_fieldAddr Try.underlying67 rfl z4 (by decide) rfl) rfl ?_
          first | refine st_n (st1 z4 rfl rfl rfl rfl rfl rfl rfl rfl) ?_ | refine st_n (stA z4 rfl rfl rfl rfl rfl rfl rfl rfl rfl rfl) ?_ | refine st_n (st1s z4 rfl rfl rfl (by assumption) rfl rfl rfl) ?_ | refine st_n (stAs z4 rfl rfl rfl (by assumption) rfl rfl rfl rfl rfl) ?_ | refine st_n (stE z4 rfl rfl rfl rfl (by omega) rfl rfl) ?_
          first | refine st_p (op_fieldAddrL Try.underlying67 rfl z9 (by decide) rfl) rfl ?_ | refine st_p (op_fieldAddr Try.underlying67 rfl z9 (by decide) rfl) rfl ?_
          first | refine st_n (st1 z9 rfl rfl rfl rfl rfl rfl rfl rfl) ?_ | refine st_n (stA z9 rfl rfl rfl rfl rfl rfl rfl rfl rfl rfl) ?_ | refine st_n (st1s z9 rfl rfl rfl (by assumption) rfl rfl rfl) ?_ | refine st_n (stAs z9 rfl rfl rfl (by assumption) rfl rfl rfl rfl rfl) ?_ | refine st_n (stE z9 rfl rfl rfl rfl (by omega) rfl rfl) ?_
          refine al_nil ?_
          refine nm ?_
          refine aw_region ?_
          refine st_p (op_fieldAddr Try.underlying26 rfl z23 (by decide) rfl) rfl ?_
          first | refine st_p (op_load1L Try.underlying23 rfl rfl rfl) rfl ?_ | refine st_p (op_load1 Try.underlying23 rfl rfl rfl rfl rfl) rfl ?_ | refine st_p (op_load1 Try.underlying23 rfl rfl rfl (by assumption) rfl) rfl ?_ | refine st_p (op_load1 Try.underlying23 rfl rfl rfl rfl (by assumption)) rfl ?_
          first | refine st_p (op_loadAL Try.underlying67 rfl z67 rfl rfl) rfl ?_ | refine st_p (op_loadA Try.underlying67 rfl z67 rfl rfl rfl rfl) rfl ?_
          refine st_o (bsl Try.underlying23 i67 o67 (by decide) rfl rfl rfl (by decide)) rfl ?_
          first | refine st_o (op_app Try.underlying23 Try.underlying23 (.inl ⟨_, rfl⟩) i67 o67 rfl rfl rfl (by first | rfl | omega | (simp; done) | (simp; omega)) ((SrcA.whole rfl (by first | rfl | simp)).ok rfl (by first | assumption | intro z hz; simp only [List.mem_singleton, List.drop_zero, List.take_succ_cons, List.take_zero, List.mem_cons, List.not_mem_nil, or_false, List.mem_map] at hz; first | (subst hz; rfl) | (obtain ⟨_, _, rfl⟩ := hz; rfl) | (rcases hz with rfl | rfl <;> rfl))) (by first | omega | (simp; try omega)) rfl) rfl ?_ | refine st_o (op_appN Try.underlying23 Try.underlying23 (.inl ⟨_, rfl⟩) i67 o67 rfl ((SrcA.whole rfl (by first | rfl | simp)).ok rfl (by first | assumption | intro z hz; simp only [List.mem_singleton, List.drop_zero, List.take_succ_cons, List.take_zero, List.mem_cons, List.not_mem_nil, or_false, List.mem_map] at hz; first | (subst hz; rfl) | (obtain ⟨_, _, rfl⟩ := hz; rfl) | (rcases hz with rfl | rfl <;> rfl))) (by first | omega | (simp; try omega))) rfl ?_ | refine st_o (op_app Try.underlying23 Try.underlying23 (.inl ⟨_, rfl⟩) i67 o67 rfl rfl rfl (by first | rfl | omega | (simp; done) | (simp; omega)) ((SrcA.own rfl (by first | omega | (simp; try omega))).ok rfl (by first | assumption | intro z hz; simp only [List.mem_singleton, List.drop_zero, List.take_succ_cons, List.take_zero, List.mem_cons, List.not_mem_nil, or_false, List.mem_map] at hz; first | (subst hz; rfl) | (obtain ⟨_, _, rfl⟩ := hz; rfl) | (rcases hz with rfl | rfl <;> rfl))) (by first | omega | (simp; try omega)) rfl) rfl ?_ | refine st_o (op_appN Try.underlying23 Try.underlying23 (.inl ⟨_, rfl⟩) i67 o67 rfl ((SrcA.own rfl (by first | omega | (simp; try omega))).ok rfl (by first | assumption | intro z hz; simp only [List.mem_singleton, List.drop_zero, List.take_succ_cons, List.take_zero, List.mem_cons, List.not_mem_nil, or_false, List.mem_map] at hz; first | (subst hz; rfl) | (obtain ⟨_, _, rfl⟩ := hz; rfl) | (rcases hz with rfl | rfl <;> rfl))) (by first | omega | (simp; try omega))) rfl ?_ | refine st_o (op_app Try.underlying23 Try.underlying23 (.inl ⟨_, rfl⟩) i67 o67 rfl rfl rfl (by first | rfl | omega | (simp; done) | (simp; omega)) ((SrcA.sl (.inr trivial)).ok rfl (by first | assumption | intro z hz; simp only [List.mem_singleton, List.drop_zero, List.take_succ_cons, List.take_zero, List.mem_cons, List.not_mem_nil, or_false, List.mem_map] at hz; first | (subst hz; rfl) | (obtain ⟨_, _, rfl⟩ := hz; rfl) | (rcases hz with rfl | rfl <;> rfl))) (by first | omega | (simp; try omega)) rfl) rfl ?_ | refine st_o (op_appN Try.underlying23 Try.underlying23 (.inl ⟨_, rfl⟩) i67 o67 rfl ((SrcA.sl (.inr trivial)).ok rfl (by first | assumption | intro z hz; simp only [List.mem_singleton, List.drop_zero, List.take_succ_cons, List.take_zero, List.mem_cons, List.not_mem_nil, or_false, List.mem_map] at hz; first | (subst hz; rfl) | (obtain ⟨_, _, rfl⟩ := hz; rfl) | (rcases hz with rfl | rfl <;> rfl))) (by first | omega | (simp; try omega))) rfl ?_ | refine st_o (op_app Try.underlying23 Try.underlying23 (.inl ⟨_, rfl⟩) i67 o67 rfl rfl rfl (by first | rfl | omega | (simp; done) | (simp; omega)) (SrcA.nils.ok rfl (by intro z hz; cases hz)) (by first | omega | (simp; try omega)) rfl) rfl ?_ | refine st_o (op_appN Try.underlying23 Try.underlying23 (.inl ⟨_, rfl⟩) i67 o67 rfl (SrcA.nils.ok rfl (by intro z hz; cases hz)) (by first | omega | (simp; try omega))) rfl ?_
          refine st_p (op_fieldAddr Try.underlying26 rfl z23 (by decide) rfl) rfl ?_
          first | refine st_n (st1 z23 rfl rfl rfl rfl rfl rfl rfl rfl) ?_ | refine st_n (stA z23 rfl rfl rfl rfl rfl rfl rfl rfl rfl rfl) ?_ | refine st_n (st1s z23 rfl rfl rfl (by assumption) rfl rfl rfl) ?_ | refine st_n (stAs z23 rfl rfl rfl (by assumption) rfl rfl rfl rfl rfl) ?_ | refine st_n (stE z23 rfl rfl rfl rfl (by omega) rfl rfl) ?_
          refine al_nil ?_
          refine nmb ?_
          refine nm ?_
          refine aw_region ?_
          refine st_p (mv rfl) rfl ?_
          refine st_p (op_addi rfl rfl (by omega)) rfl ?_
          refine st_p (mva rfl) rfl ?_
          refine al_nil ?_
          refine nm ?_
          refine ⟨⟨(i + 1, acc ++ [⟨k, v, vv, true⟩], pkN l (pkN l (pkN l q))), by dsimp only; refine ⟨by omega, by simp [h2], ?_, h4⟩; rw [List.append_assoc]; exact h3⟩, by dsimp only; omega, le_to [(3, 9)] rfl rfl rfl rfl rfl ⟨rfl, rfl, rfl, rfl, rfl, rfl, trivial⟩ ⟨rfl, rfl, ?_, ?_, trivial⟩⟩
          · simp [Blk.ren, hget, swp, AV.ren, rens]
          · (simp [Blk.ren, hget, swp, AV.ren, rens, sb, rdA, ofConst1]) <;> rfl
    · have hd : ks.drop i = [] := List.drop_of_length_le (by omega)
      rw [hd] at h3 h4
      simp only [pkFold, List.append_nil] at h3 h4
      subst h3
      rw [h4]
      obtain ⟨acc, m⟩ := R
      dsimp only at *
      have hpl : (acc.map rdA).all AV.plain = true := by simp [AV.plain, plains, rdA, sb]
      have hka : (acc.map rdA).take acc.length = acc.map rdA := List.take_of_length_le (by omega)
      refine aw_seq ?_
      refine aw_seq ?_
      refine aw_region ?_
      refine st_p (mv rfl) rfl ?_
      refine st_p (mv rfl) rfl ?_
      first | refine st_p (op_len Try.underlying71 rfl) rfl ?_ | refine st_p (op_leno Try.underlying71 rfl) rfl ?_ | refine st_p (op_lenn Try.underlying71 rfl) rfl ?_
      refine st_p (OpP.conv (op_lt rfl rfl) (no (by first | assumption | omega))) rfl ?_
      refine al_nil ?_
      refine nm ?_
      -- IF t24
      refine aw_no (rfl) ?_
      refine aw_exit ?_
      refine xs ?_
      refine xs ?_
      refine xb ?_
      refine nm ?_
      refine aw_seq ?_
      refine aw_frz 3 (xs := acc.map rdA) rfl (by first | rfl | assumption | simp [AV.plain, plains, bl_plain, sb]) rfl ?_
      dsimp only [frzS, hdel, List.map_cons, List.map_nil, AV.frz, frzs, Blk.frz, ↓reduceIte, Nat.reduceEqDiff, reduceCtorEq]
      refine aw_region ?_
      refine st_p (mv rfl) rfl ?_
      -- STOP: call (*diwan/diwanplay.Picks).Keys(t54, ('app', 'Operand.const', [('app', 'Value.int', ['IntKind.i64', 3])])) -> 55
      refine st_o (op_callg [(0, 0)] 1 true [(0, pkB l m)] [0] (hk2) Try.func37 ⟨rfl, rfl⟩ rfl rfl rfl rfl (by omega) (by intro p hp; simp only [List.mem_cons, List.not_mem_nil, or_false] at hp; rcases hp with rfl <;> exact ⟨by first | rfl | ((simp [hget, swp, Blk.ren, AV.ren, ints, Function.comp_def]) <;> rfl), rfl⟩) rfl (.cons (.same (by rfl)) (.cons (.same (by rfl)) .nil)) rfl rfl rfl) rfl ?_
      refine st_p (mva rfl) rfl ?_
      refine al_nil ?_
      refine nm ?_
      refine aw_seq ?_
      refine aw_seq ?_
      refine aw_region ?_
      refine st_p (mva rfl) rfl ?_
      refine al_nil ?_
      refine nm ?_
      refine aw_block ?_
      -- LOOP
      refine aw_virtB 2 3 3 rfl rfl rfl rfl ?_
      refine aw_loop (fun p : {p : Nat × List WR × Nat // p.1 ≤ ks2.length ∧ p.2.1.length = p.1 ∧ p.2.1 ++ (pkFold (wrStep l) (ks2.drop p.1) p.2.2).1 = W.1 ∧ (pkFold (wrStep l) (ks2.drop p.1) p.2.2).2 = W.2} => ⟨[(0, .ptr 0 0 0), (4, .ptr 1 0 0), (5, .ptr 2 0 0), (9, .sl 1 (ks2.map sb)), (10, .int .i64 p.1.1)], [(0, pkB l p.1.2.2), (1, .cells 4 [.agg [.int .i64 0, .int .i64 0, .nils, .nils]]), (2, .cells 4 [.agg [.int .i64 (1 + v3), .int .i64 (1 + v6), .sl 4 (acc.map rdA), .own 3 0 p.1.2.1.length]]), (3, .cells 3 (p.1.2.1.map wrA))], 4⟩) (fun p => ks2.length - p.1.1) ⟨(0, [], n5), by dsimp only; refine ⟨by omega, rfl, ?_, ?_⟩ <;> rw [List.drop_zero, hW]; rfl⟩ ?_ ?_
      · refine le_to [(2, 2), (3, 5)] rfl rfl rfl rfl rfl ⟨rfl, rfl, rfl, rfl, rfl, trivial⟩ ⟨rfl, rfl, ?_, rfl, trivial⟩
        simp [Blk.ren, hget, swp, AV.ren, rens, AV.frz, frzs]
        exact hka
      · rintro ⟨⟨i, acw, q⟩, h1, h2, h3, h5⟩
        dsimp only at h1 h2 h3 h5 ⊢
        have haw : (acw.map wrA).length = acw.length := List.length_map _
        have hkm : (ks2.map sb).length = ks2.length := List.length_map _
        by_cases hi : i < ks2.length
        · obtain ⟨k, hk⟩ : ∃ k, ks2[i]? = some k := ⟨_, List.getElem?_eq_getElem hi⟩
          have hkb : (ks2.map sb)[((i : Nat) : Int).toNat]? = some (sb k) := by rw [Int.toNat_natCast, List.getElem?_map, hk]; rfl
          have hd : ks2.drop i = k :: ks2.drop (i + 1) := by
            rw [List.drop_eq_getElem_cons hi]
            have := List.getElem?_eq_getElem hi
            rw [hk] at this
            rw [← Option.some.inj this]
          rw [hd] at h3 h5
          simp only [pkFold] at h3 h5
          have hvl := hval q
          have hnf := hn4 (pkN l q)
          by_cases hu : pkV l (pkN l q) 4 = 0
          · simp only [wrStep, if_pos hu] at h3 h5
            rw [hu] at hnf
            generalize pkVal l q = vv at hvl
            refine aw_seq ?_
            refine aw_seq ?_
            refine aw_region ?_
            refine st_p (mv rfl) rfl ?_
            refine st_p (mv rfl) rfl ?_
            first | refine st_p (op_len Try.underlying71 rfl) rfl ?_ | refine st_p (op_leno Try.underlying71 rfl) rfl ?_ | refine st_p (op_lenn Try.underlying71 rfl) rfl ?_
            refine st_p (OpP.conv (op_lt rfl rfl) (yes (by first | assumption | omega))) rfl ?_
            refine al_nil ?_
            refine nm ?_
            -- IF t59
            refine aw_yes (rfl) ?_
            refine aw_skip ?_
            refine nm ?_
            refine aw_seq ?_
            refine aw_block ?_
            refine aw_seq ?_
            refine dr_go ?_
            refine dr_f 0 2 [9] rfl (fun H => mv rfl) ?_
            refine dr_f 0 2 [10] rfl (fun H => mv rfl) ?_
            first | refine dr_q 0 2 [62, 63] rfl (op_indexAddrL Try.underlying71 z9 rfl rfl (by omega) (by first | assumption | rfl)) ?_ | refine dr_q 0 2 [62, 63] rfl (op_indexAddr Try.underlying71 z9 rfl rfl rfl (by omega) (by omega)) ?_
            first | refine dr_q 0 2 [64] rfl (op_load1L Try.underlying9 rfl rfl rfl) ?_ | refine dr_q 0 2 [64] rfl (op_load1 Try.underlying9 rfl rfl rfl rfl rfl) ?_ | refine dr_q 0 2 [64] rfl (op_load1 Try.underlying9 rfl rfl rfl (by assumption) rfl) ?_ | refine dr_q 0 2 [64] rfl (op_load1 Try.underlying9 rfl rfl rfl rfl (by assumption)) ?_
            refine dr_f 0 0 [0] rfl (fun H => mv rfl) ?_
            -- STOP: call (*diwan/diwanplay.Picks).Val(t66) -> 67
            refine dr_e 0 [66] rfl (op_callg [(0, 0)] 1 true [(0, pkB l q)] [0] (hvl) Try.func38 ⟨rfl, rfl⟩ rfl rfl rfl rfl (by omega) (by intro p hp; simp only [List.mem_cons, List.not_mem_nil, or_false] at hp; rcases hp with rfl <;> exact ⟨by first | rfl | ((simp [hget, swp, Blk.ren, AV.ren, ints, Function.comp_def]) <;> rfl), rfl⟩) rfl (.cons (.same (by rfl)) .nil) rfl rfl rfl) ?_
            refine dr_f 1 2 [65, 67] rfl (fun H => op_build Try.underlying65 a65 rfl rfl (by intro f hf; simp only [List.mem_cons, List.not_mem_nil, or_false] at hf; rcases hf with rfl | rfl | rfl <;> exact ⟨_, by first | exact z4 | exact z9⟩) (pcons rfl rfl z9 rfl (pcons rfl rfl z9 rfl .nil)) rfl) ?_
            refine dr_fl 1 (op_alloc a65 rfl rfl) ?_
            first | refine dr_n 2 [11, 68] rfl (st1 z65 rfl rfl rfl rfl rfl rfl rfl rfl) ?_ | refine dr_n 2 [11, 68] rfl (stA z65 rfl rfl rfl rfl rfl rfl rfl rfl rfl rfl) ?_ | refine dr_n 2 [11, 68] rfl (st1s z65 rfl rfl rfl (by assumption) rfl rfl rfl) ?_ | refine dr_n 2 [11, 68] rfl (stAs z65 rfl rfl rfl (by assumption) rfl rfl rfl rfl rfl) ?_
            refine dr_endF [7] [(2, 1), (2, 2), (3, 1), (3, 2)] (by kernel_rfl) (by kernel_rfl) ⟨⟨_, rfl, rfl, new_alloc a65 rfl rfl⟩, trivial⟩ (by kernel_rfl) (by kernel_rfl) ⟨(by first | exact ⟨_, rfl, OpP.q (op_indexAddrL Try.underlying71 z9 rfl rfl (by omega) (by first | assumption | rfl))⟩ | exact ⟨_, rfl, OpP.q (op_indexAddr Try.underlying71 z9 rfl rfl rfl (by omega) (by omega))⟩), (by first | exact ⟨_, rfl, OpP.q (op_indexAddrL Try.underlying71 z9 rfl rfl (by omega) (by first | assumption | rfl))⟩ | exact ⟨_, rfl, OpP.q (op_indexAddr Try.underlying71 z9 rfl rfl rfl (by omega) (by omega))⟩), (by first | exact ⟨_, rfl, OpP.q (op_load1L Try.underlying9 rfl rfl rfl)⟩ | exact ⟨_, rfl, OpP.q (op_load1 Try.underlying9 rfl rfl rfl rfl rfl)⟩ | exact ⟨_, rfl, OpP.q (op_load1 Try.underlying9 rfl rfl rfl (by assumption) rfl)⟩ | exact ⟨_, rfl, OpP.q (op_load1 Try.underlying9 rfl rfl rfl rfl (by assumption))⟩), (by first | exact ⟨_, rfl, OpP.q (op_load1L Try.underlying9 rfl rfl rfl)⟩ | exact ⟨_, rfl, OpP.q (op_load1 Try.underlying9 rfl rfl rfl rfl rfl)⟩ | exact ⟨_, rfl, OpP.q (op_load1 Try.underlying9 rfl rfl rfl (by assumption) rfl)⟩ | exact ⟨_, rfl, OpP.q (op_load1 Try.underlying9 rfl rfl rfl rfl (by assumption))⟩), trivial⟩ ?_
            refine nm ?_
            refine aw_seq ?_
            refine aw_seq ?_
            refine aw_region ?_
            refine st_p (mv rfl) rfl ?_
            -- STOP: call (*diwan/diwanplay.Picks).Num(t69, ('app', 'Operand.const', [('app', 'Value.int', ['IntKind.i64', 4])])) -> 70
            refine st_o (op_callg [(0, 0)] 1 true [(0, pkB l (pkN l q))] [0] (hnf) Try.func36 ⟨rfl, rfl⟩ rfl rfl rfl rfl (by omega) (by intro p hp; simp only [List.mem_cons, List.not_mem_nil, or_false] at hp; rcases hp with rfl | rfl <;> exact ⟨by first | rfl | ((simp [hget, swp, Blk.ren, AV.ren, ints, Function.comp_def]) <;> rfl), rfl⟩) rfl (.cons (.same (by rfl)) (.cons (.same (by rfl)) .nil)) rfl rfl rfl) rfl ?_
            refine st_p (OpP.conv (op_eq rfl rfl) (yes (by first | assumption | omega))) rfl ?_
            refine al_nil ?_
            refine nm ?_
            -- IF t71
            refine aw_yes (rfl) ?_
            refine aw_region ?_
            first | refine st_p (op_fieldAddrL Try.underlying65 rfl z4 (by decide) rfl) rfl ?_ | refine st_p (op_fieldAddr Try.underlying65 rfl z4 (by decide) rfl) rfl ?_
            first | refine st_n (st1 z4 rfl rfl rfl rfl rfl rfl rfl rfl) ?_ | refine st_n (stA z4 rfl rfl rfl rfl rfl rfl rfl rfl rfl rfl) ?_ | refine st_n (st1s z4 rfl rfl rfl (by assumption) rfl rfl rfl) ?_ | refine st_n (stAs z4 rfl rfl rfl (by assumption) rfl rfl rfl rfl rfl) ?_ | refine st_n (stE z4 rfl rfl rfl rfl (by omega) rfl rfl) ?_
            first | refine st_p (op_fieldAddrL Try.underlying65 rfl z9 (by decide) rfl) rfl ?_ | refine st_p (op_fieldAddr Try.underlying65 rfl z9 (by decide) rfl) rfl ?_
            first | refine st_n (st1 z9 rfl rfl rfl rfl rfl rfl rfl rfl) ?_ | refine st_n (stA z9 rfl rfl rfl rfl rfl rfl rfl rfl rfl rfl) ?_ | refine st_n (st1s z9 rfl rfl rfl (by assumption) rfl rfl rfl) ?_ | refine st_n (stAs z9 rfl rfl rfl (by assumption) rfl rfl rfl rfl rfl) ?_ | refine st_n (stE z9 rfl rfl rfl rfl (by omega) rfl rfl) ?_
            refine al_nil ?_
            refine nm ?_
            refine aw_region ?_
            refine st_p (op_fieldAddr Try.underlying26 rfl z24 (by decide) rfl) rfl ?_
            first | refine st_p (op_load1L Try.underlying24 rfl rfl rfl) rfl ?_ | refine st_p (op_load1 Try.underlying24 rfl rfl rfl rfl rfl) rfl ?_ | refine st_p (op_load1 Try.underlying24 rfl rfl rfl (by assumption) rfl) rfl ?_ | refine st_p (op_load1 Try.underlying24 rfl rfl rfl rfl (by assumption)) rfl ?_
            first | refine st_p (op_loadAL Try.underlying65 rfl z65 rfl rfl) rfl ?_ | refine st_p (op_loadA Try.underlying65 rfl z65 rfl rfl rfl rfl) rfl ?_
            refine st_o (bsl Try.underlying24 i65 o65 (by decide) rfl rfl rfl (by decide)) rfl ?_
            first | refine st_o (op_app Try.underlying24 Try.underlying24 (.inl ⟨_, rfl⟩) i65 o65 rfl rfl rfl (by first | rfl | omega | (simp; done) | (simp; omega)) ((SrcA.whole rfl (by first | rfl | simp)).ok rfl (by first | assumption | intro z hz; simp only [List.mem_singleton, List.drop_zero, List.take_succ_cons, List.take_zero, List.mem_cons, List.not_mem_nil, or_false, List.mem_map] at hz; first | (subst hz; rfl) | (obtain ⟨_, _, rfl⟩ := hz; rfl) | (rcases hz with rfl | rfl <;> rfl))) (by first | omega | (simp; try omega)) rfl) rfl ?_ | refine st_o (op_appN Try.underlying24 Try.underlying24 (.inl ⟨_, rfl⟩) i65 o65 rfl ((SrcA.whole rfl (by first | rfl | simp)).ok rfl (by first | assumption | intro z hz; simp only [List.mem_singleton, List.drop_zero, List.take_succ_cons, List.take_zero, List.mem_cons, List.not_mem_nil, or_false, List.mem_map] at hz; first | (subst hz; rfl) | (obtain ⟨_, _, rfl⟩ := hz; rfl) | (rcases hz with rfl | rfl <;> rfl))) (by first | omega | (simp; try omega))) rfl ?_ | refine st_o (op_app Try.underlying24 Try.underlying24 (.inl ⟨_, rfl⟩) i65 o65 rfl rfl rfl (by first | rfl | omega | (simp; done) | (simp; omega)) ((SrcA.own rfl (by first | omega | (simp; try omega))).ok rfl (by first | assumption | intro z hz; simp only [List.mem_singleton, List.drop_zero, List.take_succ_cons, List.take_zero, List.mem_cons, List.not_mem_nil, or_false, List.mem_map] at hz; first | (subst hz; rfl) | (obtain ⟨_, _, rfl⟩ := hz; rfl) | (rcases hz with rfl | rfl <;> rfl))) (by first | omega | (simp; try omega)) rfl) rfl ?_ | refine st_o (op_appN Try.underlying24 Try.underlying24 (.inl ⟨_, rfl⟩) i65 o65 rfl ((SrcA.own rfl (by first | omega | (simp; try omega))).ok rfl (by first | assumption | intro z hz; simp only [List.mem_singleton, List.drop_zero, List.take_succ_cons, List.take_zero, List.mem_cons, List.not_mem_nil, or_false, List.mem_map] at hz; first | (subst hz; rfl) | (obtain ⟨_, _, rfl⟩ := hz; rfl) | (rcases hz with rfl | rfl <;> rfl))) (by first | omega | (simp; try omega))) rfl ?_ | refine st_o (op_app Try.underlying24 Try.underlying24 (.inl ⟨_, rfl⟩) i65 o65 rfl rfl rfl (by first | rfl | omega | (simp; done) | (simp; omega)) ((SrcA.sl (.inr trivial)).ok rfl (by first | assumption | intro z hz; simp only [List.mem_singleton, List.drop_zero, List.take_succ_cons, List.take_zero, List.mem_cons, List.not_mem_nil, or_false, List.mem_map] at hz; first | (subst hz; rfl) | (obtain ⟨_, _, rfl⟩ := hz; rfl) | (rcases hz with rfl | rfl <;> rfl))) (by first | omega | (simp; try omega)) rfl) rfl ?_ | refine st_o (op_appN Try.underlying24 Try.underlying24 (.inl ⟨_, rfl⟩) i65 o65 rfl ((SrcA.sl (.inr trivial)).ok rfl (by first | assumption | intro z hz; simp only [List.mem_singleton, List.drop_zero, List.take_succ_cons, List.take_zero, List.mem_cons, List.not_mem_nil, or_false, List.mem_map] at hz; first | (subst hz; rfl) | (obtain ⟨_, _, rfl⟩ := hz; rfl) | (rcases hz with rfl | rfl <;> rfl))) (by first | omega | (simp; try omega))) rfl ?_ | refine st_o (op_app Try.underlying24 Try.underlying24 (.inl ⟨_, rfl⟩) i65 o65 rfl rfl rfl (by first | rfl | omega | (simp; done) | (simp; omega)) (SrcA.nils.ok rfl (by intro z hz; cases hz)) (by first | omega | (simp; try omega)) rfl) rfl ?_ | refine st_o (op_appN Try.underlying24 Try.underlying24 (.inl ⟨_, rfl⟩) i65 o65 rfl (SrcA.nils.ok rfl (by intro z hz; cases hz)) (by first | omega | (simp; try omega))) rfl ?_
            refine st_p (op_fieldAddr Try.underlying26 rfl z24 (by decide) rfl) rfl ?_
            first | refine st_n (st1 z24 rfl rfl rfl rfl rfl rfl rfl rfl) ?_ | refine st_n (stA z24 rfl rfl rfl rfl rfl rfl rfl rfl rfl rfl) ?_ | refine st_n (st1s z24 rfl rfl rfl (by assumption) rfl rfl rfl) ?_ | refine st_n (stAs z24 rfl rfl rfl (by assumption) rfl rfl rfl rfl rfl) ?_ | refine st_n (stE z24 rfl rfl rfl rfl (by omega) rfl rfl) ?_
            refine al_nil ?_
            refine nmb ?_
            refine nm ?_
            refine aw_region ?_
            refine st_p (mv rfl) rfl ?_
            refine st_p (op_addi rfl rfl (by omega)) rfl ?_
            refine st_p (mva rfl) rfl ?_
            refine al_nil ?_
            refine nm ?_
            refine ⟨⟨(i + 1, acw ++ [⟨k, [], true⟩], pkN l (pkN l q)), by dsimp only; refine ⟨by omega, by simp [h2], ?_, h5⟩; rw [List.append_assoc]; exact h3⟩, by dsimp only; omega, le_to [(3, 8)] rfl rfl rfl rfl rfl ⟨rfl, rfl, rfl, rfl, rfl, trivial⟩ ⟨rfl, rfl, ?_, ?_, trivial⟩⟩
            · simp [Blk.ren, hget, swp, AV.ren, rens]
            · (simp [Blk.ren, hget, swp, AV.ren, rens, sb, wrA, ofConst1]) <;> rfl
          · simp only [wrStep, if_neg hu] at h3 h5
            have hup : 0 < pkV l (pkN l q) 4 := by omega
            generalize pkVal l q = vv at hvl h3 h5
            generalize pkV l (pkN l q) 4 = u at hu hup hnf
            refine aw_seq ?_
            refine aw_seq ?_
            refine aw_region ?_
            refine st_p (mv rfl) rfl ?_
            refine st_p (mv rfl) rfl ?_
            first | refine st_p (op_len Try.underlying71 rfl) rfl ?_ | refine st_p (op_leno Try.underlying71 rfl) rfl ?_ | refine st_p (op_lenn Try.underlying71 rfl) rfl ?_
            refine st_p (OpP.conv (op_lt rfl rfl) (yes (by first | assumption | omega))) rfl ?_
            refine al_nil ?_
            refine nm ?_
            -- IF t59
            refine aw_yes (rfl) ?_
            refine aw_skip ?_
            refine nm ?_
            refine aw_seq ?_
            refine aw_block ?_
            refine aw_seq ?_
            refine dr_go ?_
            refine dr_f 0 2 [9] rfl (fun H => mv rfl) ?_
            refine dr_f 0 2 [10] rfl (fun H => mv rfl) ?_
            first | refine dr_q 0 2 [62, 63] rfl (op_indexAddrL Try.underlying71 z9 rfl rfl (by omega) (by first | assumption | rfl)) ?_ | refine dr_q 0 2 [62, 63] rfl (op_indexAddr Try.underlying71 z9 rfl rfl rfl (by omega) (by omega)) ?_
            first | refine dr_q 0 2 [64] rfl (op_load1L Try.underlying9 rfl rfl rfl) ?_ | refine dr_q 0 2 [64] rfl (op_load1 Try.underlying9 rfl rfl rfl rfl rfl) ?_ | refine dr_q 0 2 [64] rfl (op_load1 Try.underlying9 rfl rfl rfl (by assumption) rfl) ?_ | refine dr_q 0 2 [64] rfl (op_load1 Try.underlying9 rfl rfl rfl rfl (by assumption)) ?_
            refine dr_f 0 0 [0] rfl (fun H => mv rfl) ?_
            -- STOP: call (*diwan/diwanplay.Picks).Val(t66) -> 67
            refine dr_e 0 [66] rfl (op_callg [(0, 0)] 1 true [(0, pkB l q)] [0] (hvl) Try.func38 ⟨rfl, rfl⟩ rfl rfl rfl rfl (by omega) (by intro p hp; simp only [List.mem_cons, List.not_mem_nil, or_false] at hp; rcases hp with rfl <;> exact ⟨by first | rfl | ((simp [hget, swp, Blk.ren, AV.ren, ints, Function.comp_def]) <;> rfl), rfl⟩) rfl (.cons (.same (by rfl)) .nil) rfl rfl rfl) ?_
            refine dr_f 1 2 [65, 67] rfl (fun H => op_build Try.underlying65 a65 rfl rfl (by intro f hf; simp only [List.mem_cons, List.not_mem_nil, or_false] at hf; rcases hf with rfl | rfl | rfl <;> exact ⟨_, by first | exact z4 | exact z9⟩) (pcons rfl rfl z9 rfl (pcons rfl rfl z9 rfl .nil)) rfl) ?_
            refine dr_fl 1 (op_alloc a65 rfl rfl) ?_
            first | refine dr_n 2 [11, 68] rfl (st1 z65 rfl rfl rfl rfl rfl rfl rfl rfl) ?_ | refine dr_n 2 [11, 68] rfl (stA z65 rfl rfl rfl rfl rfl rfl rfl rfl rfl rfl) ?_ | refine dr_n 2 [11, 68] rfl (st1s z65 rfl rfl rfl (by assumption) rfl rfl rfl) ?_ | refine dr_n 2 [11, 68] rfl (stAs z65 rfl rfl rfl (by assumption) rfl rfl rfl rfl rfl) ?_
            refine dr_endF [7] [(2, 1), (2, 2), (3, 1), (3, 2)] (by kernel_rfl) (by kernel_rfl) ⟨⟨_, rfl, rfl, new_alloc a65 rfl rfl⟩, trivial⟩ (by kernel_rfl) (by kernel_rfl) ⟨(by first | exact ⟨_, rfl, OpP.q (op_indexAddrL Try.underlying71 z9 rfl rfl (by omega) (by first | assumption | rfl))⟩ | exact ⟨_, rfl, OpP.q (op_indexAddr Try.underlying71 z9 rfl rfl rfl (by omega) (by omega))⟩), (by first | exact ⟨_, rfl, OpP.q (op_indexAddrL Try.underlying71 z9 rfl rfl (by omega) (by first | assumption | rfl))⟩ | exact ⟨_, rfl, OpP.q (op_indexAddr Try.underlying71 z9 rfl rfl rfl (by omega) (by omega))⟩), (by first | exact ⟨_, rfl, OpP.q (op_load1L Try.underlying9 rfl rfl rfl)⟩ | exact ⟨_, rfl, OpP.q (op_load1 Try.underlying9 rfl rfl rfl rfl rfl)⟩ | exact ⟨_, rfl, OpP.q (op_load1 Try.underlying9 rfl rfl rfl (by assumption) rfl)⟩ | exact ⟨_, rfl, OpP.q (op_load1 Try.underlying9 rfl rfl rfl rfl (by assumption))⟩), (by first | exact ⟨_, rfl, OpP.q (op_load1L Try.underlying9 rfl rfl rfl)⟩ | exact ⟨_, rfl, OpP.q (op_load1 Try.underlying9 rfl rfl rfl rfl rfl)⟩ | exact ⟨_, rfl, OpP.q (op_load1 Try.underlying9 rfl rfl rfl (by assumption) rfl)⟩ | exact ⟨_, rfl, OpP.q (op_load1 Try.underlying9 rfl rfl rfl rfl (by assumption))⟩), trivial⟩ ?_
            refine nm ?_
            refine aw_seq ?_
            refine aw_seq ?_
            refine aw_region ?_
            refine st_p (mv rfl) rfl ?_
            -- STOP: call (*diwan/diwanplay.Picks).Num(t69, ('app', 'Operand.const', [('app', 'Value.int', ['IntKind.i64', 4])])) -> 70
            refine st_o (op_callg [(0, 0)] 1 true [(0, pkB l (pkN l q))] [0] (hnf) Try.func36 ⟨rfl, rfl⟩ rfl rfl rfl rfl (by omega) (by intro p hp; simp only [List.mem_cons, List.not_mem_nil, or_false] at hp; rcases hp with rfl | rfl <;> exact ⟨by first | rfl | ((simp [hget, swp, Blk.ren, AV.ren, ints, Function.comp_def]) <;> rfl), rfl⟩) rfl (.cons (.same (by rfl)) (.cons (.same (by rfl)) .nil)) rfl rfl rfl) rfl ?_
            refine st_p (OpP.conv (op_eq rfl rfl) (no (by first | assumption | omega))) rfl ?_
            refine al_nil ?_
            refine nm ?_
            -- IF t71
            refine aw_no (rfl) ?_
            refine aw_skip ?_
            refine nm ?_
            refine aw_region ?_
            refine st_p (op_fieldAddr Try.underlying26 rfl z24 (by decide) rfl) rfl ?_
            first | refine st_p (op_load1L Try.underlying24 rfl rfl rfl) rfl ?_ | refine st_p (op_load1 Try.underlying24 rfl rfl rfl rfl rfl) rfl ?_ | refine st_p (op_load1 Try.underlying24 rfl rfl rfl (by assumption) rfl) rfl ?_ | refine st_p (op_load1 Try.underlying24 rfl rfl rfl rfl (by assumption)) rfl ?_
            first | refine st_p (op_loadAL Try.underlying65 rfl z65 rfl rfl) rfl ?_ | refine st_p (op_loadA Try.underlying65 rfl z65 rfl rfl rfl rfl) rfl ?_
            refine st_o (bsl Try.underlying24 i65 o65 (by decide) rfl rfl rfl (by decide)) rfl ?_
            first | refine st_o (op_app Try.underlying24 Try.underlying24 (.inl ⟨_, rfl⟩) i65 o65 rfl rfl rfl (by first | rfl | omega | (simp; done) | (simp; omega)) ((SrcA.whole rfl (by first | rfl | simp)).ok rfl (by first | assumption | intro z hz; simp only [List.mem_singleton, List.drop_zero, List.take_succ_cons, List.take_zero, List.mem_cons, List.not_mem_nil, or_false, List.mem_map] at hz; first | (subst hz; rfl) | (obtain ⟨_, _, rfl⟩ := hz; rfl) | (rcases hz with rfl | rfl <;> rfl))) (by first | omega | (simp; try omega)) rfl) rfl ?_ | refine st_o (op_appN Try.underlying24 Try.underlying24 (.inl ⟨_, rfl⟩) i65 o65 rfl ((SrcA.whole rfl (by first | rfl | simp)).ok rfl (by first | assumption | intro z hz; simp only [List.mem_singleton, List.drop_zero, List.take_succ_cons, List.take_zero, List.mem_cons, List.not_mem_nil, or_false, List.mem_map] at hz; first | (subst hz; rfl) | (obtain ⟨_, _, rfl⟩ := hz; rfl) | (rcases hz with rfl | rfl <;> rfl))) (by first | omega | (simp; try omega))) rfl ?_ | refine st_o (op_app Try.underlying24 Try.underlying24 (.inl ⟨_, rfl⟩) i65 o65 rfl rfl rfl (by first | rfl | omega | (simp; done) | (simp; omega)) ((SrcA.own rfl (by first | omega | (simp; try omega))).ok rfl (by first | assumption | intro z hz; simp only [List.mem_singleton, List.drop_zero, List.take_succ_cons, List.take_zero, List.mem_cons, List.not_mem_nil, or_false, List.mem_map] at hz; first | (subst hz; rfl) | (obtain ⟨_, _, rfl⟩ := hz; rfl) | (rcases hz with rfl | rfl <;> rfl))) (by first | omega | (simp; try omega)) rfl) rfl ?_ | refine st_o (op_appN Try.underlying24 Try.underlying24 (.inl ⟨_, rfl⟩) i65 o65 rfl ((SrcA.own rfl (by first | omega | (simp; try omega))).ok rfl (by first | assumption | intro z hz; simp only [List.mem_singleton, List.drop_zero, List.take_succ_cons, List.take_zero, List.mem_cons, List.not_mem_nil, or_false, List.mem_map] at hz; first | (subst hz; rfl) | (obtain ⟨_, _, rfl⟩ := hz; rfl) | (rcases hz with rfl | rfl <;> rfl))) (by first | omega | (simp; try omega))) rfl ?_ | refine st_o (op_app Try.underlying24 Try.underlying24 (.inl ⟨_, rfl⟩) i65 o65 rfl rfl rfl (by first | rfl | omega | (simp; done) | (simp; omega)) ((SrcA.sl (.inr trivial)).ok rfl (by first | assumption | intro z hz; simp only [List.mem_singleton, List.drop_zero, List.take_succ_cons, List.take_zero, List.mem_cons, List.not_mem_nil, or_false, List.mem_map] at hz; first | (subst hz; rfl) | (obtain ⟨_, _, rfl⟩ := hz; rfl) | (rcases hz with rfl | rfl <;> rfl))) (by first | omega | (simp; try omega)) rfl) rfl ?_ | refine st_o (op_appN Try.underlying24 Try.underlying24 (.inl ⟨_, rfl⟩) i65 o65 rfl ((SrcA.sl (.inr trivial)).ok rfl (by first | assumption | intro z hz; simp only [List.mem_singleton, List.drop_zero, List.take_succ_cons, List.take_zero, List.mem_cons, List.not_mem_nil, or_false, List.mem_map] at hz; first | (subst hz; rfl) | (obtain ⟨_, _, rfl⟩ := hz; rfl) | (rcases hz with rfl | rfl <;> rfl))) (by first | omega | (simp; try omega))) rfl ?_ | refine st_o (op_app Try.underlying24 Try.underlying24 (.inl ⟨_, rfl⟩) i65 o65 rfl rfl rfl (by first | rfl | omega | (simp; done) | (simp; omega)) (SrcA.nils.ok rfl (by intro z hz; cases hz)) (by first | omega | (simp; try omega)) rfl) rfl ?_ | refine st_o (op_appN Try.underlying24 Try.underlying24 (.inl ⟨_, rfl⟩) i65 o65 rfl (SrcA.nils.ok rfl (by intro z hz; cases hz)) (by first | omega | (simp; try omega))) rfl ?_
            refine st_p (op_fieldAddr Try.underlying26 rfl z24 (by decide) rfl) rfl ?_
            first | refine st_n (st1 z24 rfl rfl rfl rfl rfl rfl rfl rfl) ?_ | refine st_n (stA z24 rfl rfl rfl rfl rfl rfl rfl rfl rfl rfl) ?_ | refine st_n (st1s z24 rfl rfl rfl (by assumption) rfl rfl rfl) ?_ | refine st_n (stAs z24 rfl rfl rfl (by assumption) rfl rfl rfl rfl rfl) ?_ | refine st_n (stE z24 rfl rfl rfl rfl (by omega) rfl rfl) ?_
            refine al_nil ?_
            refine nmb ?_
            refine nm ?_
            refine aw_region ?_
            refine st_p (mv rfl) rfl ?_
            refine st_p (op_addi rfl rfl (by omega)) rfl ?_
            refine st_p (mva rfl) rfl ?_
            refine al_nil ?_
            refine nm ?_
            refine ⟨⟨(i + 1, acw ++ [⟨k, vv, false⟩], pkN l (pkN l q)), by dsimp only; refine ⟨by omega, by simp [h2], ?_, h5⟩; rw [List.append_assoc]; exact h3⟩, by dsimp only; omega, le_to [(3, 8)] rfl rfl rfl rfl rfl ⟨rfl, rfl, rfl, rfl, rfl, trivial⟩ ⟨rfl, rfl, ?_, ?_, trivial⟩⟩
            · simp [Blk.ren, hget, swp, AV.ren, rens]
            · (simp [Blk.ren, hget, swp, AV.ren, rens, sb, wrA, ofConst1]) <;> rfl
        · have hd : ks2.drop i = [] := List.drop_of_length_le (by omega)
          rw [hd] at h3 h5
          simp only [pkFold, List.append_nil] at h3 h5
          subst h3
          rw [h5]
          obtain ⟨acw, m2⟩ := W
          dsimp only at *
          have hpw : (acw.map wrA).all AV.plain = true := by simp [AV.plain, plains, wrA, sb]
          refine aw_seq ?_
          refine aw_seq ?_
          refine aw_region ?_
          refine st_p (mv rfl) rfl ?_
          refine st_p (mv rfl) rfl ?_
          first | refine st_p (op_len Try.underlying71 rfl) rfl ?_ | refine st_p (op_leno Try.underlying71 rfl) rfl ?_ | refine st_p (op_lenn Try.underlying71 rfl) rfl ?_
          refine st_p (OpP.conv (op_lt rfl rfl) (no (by first | assumption | omega))) rfl ?_
          refine al_nil ?_
          refine nm ?_
          -- IF t59
          refine aw_no (rfl) ?_
          refine aw_exit ?_
          refine xs ?_
          refine xs ?_
          refine xb ?_
          refine nm ?_
          refine aw_seq ?_
          refine aw_frz 3 (xs := acw.map wrA) rfl (by first | rfl | assumption | simp [AV.plain, plains, bl_plain, sb]) rfl ?_
          dsimp only [frzS, hdel, List.map_cons, List.map_nil, AV.frz, frzs, Blk.frz, ↓reduceIte, Nat.reduceEqDiff, reduceCtorEq]
          refine aw_le (st' := ⟨[(4, .ptr 1 0 0), (5, .ptr 2 0 0)], [(0, pkB l m2), (1, .cells 4 [.agg [.int .i64 0, .int .i64 0, .nils, .nils]]), (2, .cells 4 [.agg [.int .i64 (1 + v3), .int .i64 (1 + v6), .sl 4 (acc.map rdA), .sl 3 (acw.map wrA)]])], 3⟩) (le_to [(2, 2)] rfl rfl rfl rfl rfl ⟨rfl, rfl, trivial⟩ ⟨rfl, rfl, ?_, trivial⟩) ?_
          · simp [Blk.ren, hget, swp, AV.ren, rens, AV.frz, frzs, ← List.map_take]
          refine aw_region ?_
          refine st_p (op_loadA Try.underlying26 rfl z26 rfl rfl rfl rfl) rfl ?_
          refine st_n (stA z26 rfl rfl rfl rfl rfl rfl rfl rfl rfl rfl) ?_
          refine al_nil ?_
          refine nm ?_
          refine aw_ret ?_
          exact ret_a ⟨[(4, .ptr 1 0 0)], [(0, pkB l m2), (1, .cells 4 [.agg [.int .i64 (1 + v3), .int .i64 (1 + v6), .sl 4 (acc.map rdA), .sl 3 (acw.map wrA)]])], 2⟩ (le_to [(1, 1)] rfl rfl rfl rfl rfl ⟨rfl, trivial⟩ ⟨rfl, rfl, trivial⟩) (resS_ok (by rfl)) (.inl rfl) ⟨rfl, rfl, rfl⟩

theorem pk_Txn (l : List UInt8) (n most : Nat) (hl : l.length ≤ 1000000) (hm1 : 1 ≤ most) (hm2 : most ≤ 1000000) :
    AC Try.prog 9 [.ptr 0 0 0, .int .i64 most] [(0, pkB l n)] 1 true (fun v h nx => v = txA (pkTx l n most).1 ∧ h = [(0, pkB l (pkTx l n most).2)] ∧ nx = 1) := by
  refine (pk_Txn0 l n most hl hm1 hm2).drop ?_
  rintro r h nx ⟨rfl, rfl, rfl⟩
  refine ⟨_, _, ⟨rfl, rfl, rfl⟩, by omega, by omega, rfl, fun b B hb => ?_⟩
  simp only [hget] at hb ⊢
  by_cases e : 0 = b
  · rw [if_pos e] at hb ⊢
    refine ⟨hb, by omega, ?_⟩
    rw [← Option.some.inj hb]
    rfl
  · rw [if_neg e] at hb
    cases hb

end Go.Proofs.Ytpggknkhldecaaa.Abs
end
section
/-
  Picks: what made transactions are.
-/
namespace Go.Proofs.Ytpggknkhldecaaa.Abs

theorem pick_rising : ∀ b : Fin 64, risingB (pickK keysL b.val 3) = true := by decide +kernel
theorem pkKeys_rising (l : List UInt8) (n : Nat) : risingB (pkKeys l n 3) = true := pick_rising ⟨pkV l n 64, pkV_lt l n 64 (by omega)⟩

theorem pkVal_len (l : List UInt8) (n : Nat) : (pkVal l n).length ≤ 16 := by
  unfold pkVal
  have h := pkV_lt l n 5 (by omega)
  generalize pkV l n 5 = v at h
  match v, h with
  | 0, _ => decide
  | 1, _ => decide
  | 2, _ => decide
  | 3, _ => decide
  | 4, _ => decide

theorem pkFold_map {α β : Type} (f : List UInt8 → Nat → α × Nat) (g : α → β) (h : List UInt8 → β) (hg : ∀ k n, g (f k n).1 = h k) : ∀ (ks : List (List UInt8)) (n : Nat), (pkFold f ks n).1.map g = ks.map h := by
  intro ks
  induction ks with
  | nil => intro n; rfl
  | cons k ks ih => intro n; simp only [pkFold, List.map_cons, hg, ih]

theorem pkFold_all {α : Type} (f : List UInt8 → Nat → α × Nat) (p : α → Bool) (hp : ∀ k n, p (f k n).1 = true) : ∀ (ks : List (List UInt8)) (n : Nat), (pkFold f ks n).1.all p = true := by
  intro ks
  induction ks with
  | nil => intro n; rfl
  | cons k ks ih => intro n; simp only [pkFold, List.all_cons, hp, ih, Bool.and_self]

theorem rdStep_key (l : List UInt8) (most : Nat) (k : List UInt8) (n : Nat) : (rdStep l most k n).1.key = k := by
  unfold rdStep
  split
  · rfl
  · split <;> rfl
theorem wrStep_key (l : List UInt8) (k : List UInt8) (n : Nat) : (wrStep l k n).1.key = k := by
  unfold wrStep
  split <;> rfl

theorem rdStep_read (l : List UInt8) (most : Nat) (k : List UInt8) (n : Nat) : readB (rdStep l most k n).1 = true := by
  unfold rdStep
  split
  · simp [readB]
  · split
    · simp [readB]
    · have := pkVal_len l (pkN l (pkN l n))
      simp only [readB, Bool.not_true, Bool.false_and, Bool.true_and, Bool.false_or, Bool.and_eq_true, Bool.not_eq_true', decide_eq_true_eq, decide_eq_false_iff_not]
      exact ⟨by omega, by omega, this⟩

theorem wrStep_write (l : List UInt8) (k : List UInt8) (n : Nat) : writeB (wrStep l k n).1 = true := by
  unfold wrStep
  split
  · simp [writeB]
  · have := pkVal_len l n
    simp only [writeB, Bool.not_false, Bool.true_or, Bool.and_true, decide_eq_true_eq]
    exact this

/-- What is made may be. -/
theorem pkTx_may (l : List UInt8) (n most : Nat) : mayTxB (pkTx l n most).1 = true := by
  have h3 := pkV_lt l n 3 (by omega)
  have h6 := pkV_lt l (pkN l n) 6 (by omega)
  have hr : (pkRds l n most).1.length ≤ 3 := by unfold pkRds; rw [pkFold_len]; exact pickK_len _ _ _
  have hw : ∀ m, (pkWrs l m).1.length ≤ 3 := fun m => by unfold pkWrs; rw [pkFold_len]; exact pickK_len _ _ _
  have hw := hw (pkRds l n most).2
  unfold mayTxB pkTx
  simp only [Bool.and_eq_true, decide_eq_true_eq]
  refine ⟨by omega, by omega, by omega, by omega, by omega, ?_, by omega, ?_, ?_, ?_⟩
  · unfold pkRds
    rw [pkFold_map _ _ id (rdStep_key l most), List.map_id]
    exact pkKeys_rising _ _
  · unfold pkWrs
    rw [pkFold_map _ _ id (wrStep_key l), List.map_id]
    exact pkKeys_rising _ _
  · exact pkFold_all _ _ (rdStep_read l most) _ _
  · exact pkFold_all _ _ (wrStep_write l) _ _

theorem pkTx_len (l : List UInt8) (n most : Nat) : (pkTx l n most).1.reads.length ≤ 3 ∧ (pkTx l n most).1.writes.length ≤ 3 := by
  refine ⟨?_, ?_⟩
  · show (pkRds l n most).1.length ≤ 3
    unfold pkRds; rw [pkFold_len]; exact pickK_len _ _ _
  · show (pkWrs l (pkRds l n most).2).1.length ≤ 3
    unfold pkWrs; rw [pkFold_len]; exact pickK_len _ _ _

end Go.Proofs.Ytpggknkhldecaaa.Abs
end
section
/-
  A machine that runs codes whose inputs are known: regions whose order is open. It holds of any program.
-/
namespace Go.Proofs.Ytpggknkhldecaaa.Abs

theorem avEq_ok (a : AV) : ∀ b, avEq a b = true → a = b := by
  induction a using AV.rec (motive_2 := fun xs => ∀ ys, avsEq xs ys = true → xs = ys) with
  | top => intro b h; cases b <;> simp only [avEq, Bool.false_eq_true] at h <;> rfl
  | bool x => intro b h; cases b <;> simp only [avEq, Bool.false_eq_true, beq_iff_eq] at h; rw [h]
  | int k n => intro b h; cases b <;> simp only [avEq, Bool.false_eq_true, Bool.and_eq_true, beq_iff_eq] at h; rw [h.1, h.2]
  | str s =>
    intro b h; cases b <;> simp only [avEq, Bool.false_eq_true, beq_iff_eq] at h
    rename_i s'
    obtain ⟨⟨x⟩⟩ := s
    obtain ⟨⟨y⟩⟩ := s'
    simp only at h
    rw [h]
  | nilp => intro b h; cases b <;> simp only [avEq, Bool.false_eq_true] at h <;> rfl
  | ptr x i o =>
    intro b h; cases b <;> simp only [avEq, Bool.false_eq_true, Bool.and_eq_true] at h
    rw [Nat.eq_of_beq_eq_true h.1.1, Nat.eq_of_beq_eq_true h.1.2, Nat.eq_of_beq_eq_true h.2]
  | lp cs ih => intro b h; cases b <;> simp only [avEq, Bool.false_eq_true] at h; rw [ih _ h]
  | nils => intro b h; cases b <;> simp only [avEq, Bool.false_eq_true] at h <;> rfl
  | sl sz xs ih =>
    intro b h; cases b <;> simp only [avEq, Bool.false_eq_true, Bool.and_eq_true] at h
    rw [Nat.eq_of_beq_eq_true h.1, ih _ h.2]
  | own x st len =>
    intro b h; cases b <;> simp only [avEq, Bool.false_eq_true, Bool.and_eq_true] at h
    rw [Nat.eq_of_beq_eq_true h.1.1, Nat.eq_of_beq_eq_true h.1.2, Nat.eq_of_beq_eq_true h.2]
  | nilm => intro b h; cases b <;> simp only [avEq, Bool.false_eq_true] at h <;> rfl
  | omap x => intro b h; cases b <;> simp only [avEq, Bool.false_eq_true] at h; rw [Nat.eq_of_beq_eq_true h]
  | fn f xs ys ih1 ih2 =>
    intro b h; cases b <;> simp only [avEq, Bool.false_eq_true, Bool.and_eq_true, decide_eq_true_eq] at h
    rw [h.1.1, ih1 _ h.1.2, ih2 _ h.2]
  | nilf => intro b h; cases b <;> simp only [avEq, Bool.false_eq_true] at h <;> rfl
  | ifc t v ih => intro b h; cases b <;> simp only [avEq, Bool.false_eq_true] at h
  | nili => intro b h; cases b <;> simp only [avEq, Bool.false_eq_true] at h <;> rfl
  | agg xs ih => intro b h; cases b <;> simp only [avEq, Bool.false_eq_true] at h; rw [ih _ h]
  | tup xs ih => intro b h; cases b <;> simp only [avEq, Bool.false_eq_true] at h; rw [ih _ h]
  | nil => rename_i ys h; cases ys <;> first | rfl | simp only [avsEq, Bool.false_eq_true] at h
  | cons x xs ih1 ih2 =>
    rename_i ys h
    cases ys with
    | nil => simp only [avsEq, Bool.false_eq_true] at h
    | cons y ys =>
      simp only [avsEq, Bool.and_eq_true] at h
      rw [ih1 _ h.1, ih2 _ h.2]

theorem avsEq_ok : ∀ (xs ys : List AV), avsEq xs ys = true → xs = ys
  | [], [], _ => rfl
  | [], _ :: _, h => by simp only [avsEq, Bool.false_eq_true] at h
  | _ :: _, [], h => by simp only [avsEq, Bool.false_eq_true] at h
  | x :: xs, y :: ys, h => by
    simp only [avsEq, Bool.and_eq_true] at h
    rw [avEq_ok x y h.1, avsEq_ok xs ys h.2]

theorem blkEq_ok {B C : Blk} (h : blkEq B C = true) : B = C := by
  unfold blkEq at h
  split at h
  · simp only [Bool.and_eq_true] at h
    rw [Nat.eq_of_beq_eq_true h.1, avsEq_ok _ _ h.2]
  · cases h

theorem heapEq_ok : ∀ (h g : Heap), heapEq h g = true → h = g
  | [], [], _ => rfl
  | [], _ :: _, h => by simp only [heapEq, Bool.false_eq_true] at h
  | _ :: _, [], h => by simp only [heapEq, Bool.false_eq_true] at h
  | (i, B) :: t, (j, C) :: u, h => by
    simp only [heapEq, Bool.and_eq_true] at h
    rw [Nat.eq_of_beq_eq_true h.1.1, blkEq_ok h.1.2, heapEq_ok t u h.2]

theorem plain_ren (σ : Nat → Nat) (x : AV) : x.plain = true → x.ren σ = x := by
  induction x using AV.rec (motive_2 := fun xs => plains xs = true → rens σ xs = xs) with
  | fn f xs ys ih1 ih2 => intro h; simp only [AV.plain, Bool.and_eq_true] at h; simp only [AV.ren, ih1 h.1, ih2 h.2]
  | ifc t v ih => intro h; simp only [AV.plain] at h; simp only [AV.ren, ih h]
  | agg xs ih => intro h; simp only [AV.plain] at h; simp only [AV.ren, ih h]
  | tup xs ih => intro h; simp only [AV.plain] at h; simp only [AV.ren, ih h]
  | ptr b i o => intro h; simp [AV.plain] at h
  | own b i o => intro h; simp [AV.plain] at h
  | omap b => intro h; simp [AV.plain] at h
  | nil => rfl
  | cons x xs ih1 ih2 => rename_i h; simp only [plains, Bool.and_eq_true] at h; simp only [rens, ih1 h.1, ih2 h.2]
  | _ => intro _; rfl

theorem plains_lends {al : Bool} {h : Heap} {τ : Nat → Nat} {ps : List Nat} : ∀ (xs : List AV), plains xs = true → Lends al h τ ps xs xs
  | [], _ => .nil
  | x :: xs, hx => by
    simp only [plains, Bool.and_eq_true] at hx
    exact .cons (.same (plain_ren τ x hx.1).symm) (plains_lends xs hx.2)

theorem lend1_ok (h : Heap) (x : AV) : ∀ u y, lend1 h x = some (u, y) → ∀ τ, Lend false h τ [] x y := by
  have pl : ∀ (x : AV) u y, (if x.plain then some (false, x) else none) = some (u, y) → ∀ τ, Lend false h τ [] x y := fun x u y hh τ => by
    split at hh
    · rename_i hp
      simp only [Option.some.injEq, Prod.mk.injEq] at hh
      obtain ⟨_, rfl⟩ := hh
      exact .same (plain_ren τ x hp).symm
    · cases hh
  induction x using AV.rec (motive_2 := fun xs => ∀ u ys, lends h xs = some (u, ys) → ∀ τ, Lends false h τ [] xs ys) with
  | own b st len =>
    intro u y hh τ
    simp only [lend1] at hh
    split at hh
    · rename_i sz xs hb
      split at hh
      · rename_i h0
        simp only [Bool.and_eq_true] at h0
        simp only [Option.some.injEq, Prod.mk.injEq] at hh
        obtain ⟨_, rfl⟩ := hh
        exact .own rfl rfl (hgO hb) (Nat.le_of_ble_eq_true h0.1) h0.2
      · cases hh
    · cases hh
  | agg xs ih =>
    intro u y hh τ
    simp only [lend1] at hh
    split at hh
    · rename_i u' ys hys
      simp only [Option.some.injEq, Prod.mk.injEq] at hh
      obtain ⟨_, rfl⟩ := hh
      exact Lend.of_list (ih _ _ hys τ)
    · cases hh
  | nil => rename_i u ys hh τ; simp only [lends, Option.some.injEq, Prod.mk.injEq] at hh; obtain ⟨_, rfl⟩ := hh; exact .nil
  | cons x xs ih1 ih2 =>
    rename_i u ys hh τ
    simp only [lends] at hh
    split at hh
    · rename_i u1 y u2 ys' h1 h2
      simp only [Option.some.injEq, Prod.mk.injEq] at hh
      obtain ⟨_, rfl⟩ := hh
      exact .cons (ih1 _ _ h1 τ) (ih2 _ _ h2 τ)
    · cases hh
  | _ => intro u y hh τ; exact pl _ u y (by simpa only [lend1] using hh) τ

theorem lends_ok (h : Heap) : ∀ (xs : List AV) u ys, lends h xs = some (u, ys) → ∀ τ, Lends false h τ [] xs ys
  | [], u, ys, hh, τ => by simp only [lends, Option.some.injEq, Prod.mk.injEq] at hh; obtain ⟨_, rfl⟩ := hh; exact .nil
  | x :: xs, u, ys, hh, τ => by
    simp only [lends] at hh
    split at hh
    · rename_i u1 y u2 ys' h1 h2
      simp only [Option.some.injEq, Prod.mk.injEq] at hh
      obtain ⟨_, rfl⟩ := hh
      exact .cons (lend1_ok h x _ _ h1 τ) (lends_ok h xs _ _ h2 τ)
    · cases hh

theorem frz1_ok (h : Heap) (x : AV) : ∀ y, frz1 h x = some y → Fz h x y := by
  have pl : ∀ (x y : AV), (if x.plain then some x else none) = some y → Fz h x y := fun x y hh => by
    split at hh
    · rename_i hp; obtain rfl := Option.some.inj hh; exact .same hp
    · cases hh
  induction x using AV.rec (motive_2 := fun xs => ∀ ys, frz2 h xs = some ys → Fzs h xs ys) with
  | own b st len =>
    intro y hh
    simp only [frz1] at hh
    split at hh
    · rename_i sz xs hb
      split at hh
      · rename_i h0
        simp only [Bool.and_eq_true] at h0
        obtain rfl := Option.some.inj hh
        exact .own (hgO hb) (Nat.le_of_ble_eq_true h0.1) h0.2
      · cases hh
    · cases hh
  | agg xs ih =>
    intro y hh
    simp only [frz1] at hh
    split at hh
    · rename_i ys hys
      obtain rfl := Option.some.inj hh
      have := (ih _ hys).tup
      cases this with
      | same hp => exact .same hp
      | tup hl k => exact .agg hl k
    · cases hh
  | tup xs ih =>
    intro y hh
    simp only [frz1] at hh
    split at hh
    · rename_i ys hys
      obtain rfl := Option.some.inj hh
      exact (ih _ hys).tup
    · cases hh
  | nil => rename_i ys hh; simp only [frz2, Option.some.injEq] at hh; subst hh; exact .nil
  | cons x xs ih1 ih2 =>
    rename_i ys hh
    simp only [frz2] at hh
    split at hh
    · rename_i y ys' h1 h2
      obtain rfl := Option.some.inj hh
      exact .cons (ih1 _ h1) (ih2 _ h2)
    · cases hh
  | _ => intro y hh; exact pl _ y (by simpa only [frz1] using hh)

section
variable {P : Program}

theorem stepQ0_ok {cf : CF} (hcf : CFok P cf) {op : Op} {tm : List (Nat × AV)} {v : AV} (he : stepQ0 P cf op tm = some v) (h : Heap) : OpQ P op tm h v := by
  unfold stepQ0 at he
  split at he
  · rename_i c hc
    split at he
    · rename_i f args ha
      split at he
      · rename_i hp
        split at he
        · rename_i r h' nx' hr
          obtain ⟨fo, first, caps, a0, k1, k2, _, k4, rfl⟩ := callArgs_ok ha
          obtain ⟨⟨fn, q1, q2, q3⟩, q4⟩ := hcf _ _ _ _ _ _ _ hr
          rw [isCall_ok hc]
          obtain ⟨cal, xs, ts⟩ := c
          subst k1
          exact op_callq (q4 true (.inl rfl)) q1 ⟨q2, q3⟩ k2 k4 (fun nx => plains_lends _ hp) (by rintro _ _ _ ⟨rfl, rfl, rfl⟩; exact frz1_ok _ _ _ he)
        · cases he
      · cases he
    · cases he
  · split at he
    · rename_i hv; obtain rfl := Option.some.inj he; exact (stepV_ok hv).q
    · exact stepF_ok he

theorem stepQ_ok {cf : CF} (hcf : CFok P cf) {op : Op} {tm : List (Nat × AV)} {v : AV} {h : Heap} (he : stepQ P cf op tm h = some v) : OpQ P op tm h v := by
  unfold stepQ at he
  split at he
  · rename_i c hc
    split at he
    · rename_i f args ha
      split at he
      · rename_i u largs hl
        split at he
        · rename_i r h' nx' hr
          split at he
          · rename_i hn
            simp only [Bool.and_eq_true] at hn
            obtain ⟨fo, first, caps, a0, k1, k2, _, k4, rfl⟩ := callArgs_ok ha
            obtain ⟨⟨fn, q1, q2, q3⟩, q4⟩ := hcf _ _ _ _ _ _ _ hr
            rw [isCall_ok hc]
            obtain ⟨cal, xs, ts⟩ := c
            subst k1
            exact op_callq (q4 false (.inr hn)) q1 ⟨q2, q3⟩ k2 k4 (fun nx => lends_ok _ _ _ _ hl _) (by rintro _ _ _ ⟨rfl, rfl, rfl⟩; exact frz1_ok _ _ _ he)
          · cases he
        · cases he
      · cases he
    · cases he
  · split at he
    · rename_i hv; obtain rfl := Option.some.inj he; exact (stepV_ok hv).q
    · split at he
      · rename_i hv; obtain rfl := Option.some.inj he; exact (stepH_ok hv).q
      · exact stepF_ok he

/-- Does the guard let it run? -/
def GdV (its : List IV) (g : Option (Nat × Bool)) (r : Bool) : Prop :=
  match g with
  | none => r = true
  | some (j, b) => ∃ q g, its[j]? = some q ∧ gv q.v = some g ∧ r = (g == some b)

theorem GdV.more {its : List IV} {g : Option (Nat × Bool)} {r : Bool} (h : GdV its g r) (it : IV) : GdV (its ++ [it]) g r := by
  unfold GdV at *
  split
  · exact h
  · obtain ⟨q, b', h1, h2, h3⟩ := h
    exact ⟨q, b', by rw [List.getElem?_append_left (List.getElem?_eq_some_iff.1 h1).1]; exact h1, h2, h3⟩

def KV (P : Program) (its : List IV) (hs : List (Heap × Nat)) (free : Bool) (i : Nat) (o : Oper) (it : IV) : Prop :=
  ∃ r, GdV its o.guard r ∧
    (r = true → (∃ H X, hs[rankV its i]? = some (H, X) ∧ (if it.ef then ∃ H' X', hs[rankV its i + 1]? = some (H', X') ∧ OpOK P o.op ⟨it.tm, H, X⟩ it.v H' X' else OpQ P o.op it.tm H it.v)) ∧ (free = true → it.ef = false ∧ ∀ H, OpQ P o.op it.tm H it.v)) ∧
    (r = false → it.v = .tup [] ∧ (it.ef = true → ∃ H X, hs[rankV its i]? = some (H, X) ∧ hs[rankV its i + 1]? = some (H, X)))

theorem rankV_more (its : List IV) (it : IV) {i : Nat} (h : i ≤ its.length) : rankV (its ++ [it]) i = rankV its i := by
  unfold rankV
  rw [List.take_append_of_le_length h]

theorem rankV_snoc (its : List IV) (it : IV) : rankV (its ++ [it]) (its.length + 1) = rankV its its.length + (if it.ef then 1 else 0) := by
  unfold rankV
  rw [List.take_of_length_le (by simp), List.take_of_length_le (by simp), List.countP_append, List.countP_cons]
  simp

theorem rankV_mono (its : List IV) {i j : Nat} (h : i ≤ j) : rankV its i ≤ rankV its j := by
  unfold rankV
  have e : its.take j = its.take i ++ (its.drop i).take (j - i) := by
    rw [← List.take_add, show i + (j - i) = j from by omega]
  rw [e, List.countP_append]
  omega

theorem rankV_lt {its : List IV} {i j : Nat} {it : IV} (hij : i < j) (hi : its[i]? = some it) (he : it.ef = true) : rankV its i + 1 ≤ rankV its j := by
  have h1 : rankV its (i + 1) = rankV its i + 1 := by
    unfold rankV
    rw [List.take_add_one, hi, List.countP_append]
    simp [he]
  rw [← h1]
  exact rankV_mono its hij

theorem KV.more {its : List IV} {hs : List (Heap × Nat)} {free : Bool} {i : Nat} {o : Oper} {it : IV} (h : KV P its hs free i o it) (jt : IV) (hs' : List (Heap × Nat)) (hi : i ≤ its.length) : KV P (its ++ [jt]) (hs ++ hs') free i o it := by
  have more : ∀ {k : Nat} {p : Heap × Nat}, hs[k]? = some p → (hs ++ hs')[k]? = some p := fun {k p} hk => by
    rw [List.getElem?_append_left (List.getElem?_eq_some_iff.1 hk).1]; exact hk
  obtain ⟨r, h1, h2, h3⟩ := h
  unfold KV
  rw [rankV_more its jt hi]
  refine ⟨r, h1.more jt, fun hr => ?_, fun hr => ?_⟩
  · obtain ⟨⟨H, X, h4, h5⟩, h6⟩ := h2 hr
    refine ⟨⟨H, X, more h4, ?_⟩, h6⟩
    cases hef : it.ef with
    | true =>
      rw [hef] at h5
      obtain ⟨H', X', k1, k2⟩ := h5
      exact ⟨H', X', more k1, k2⟩
    | false => rw [hef] at h5; exact h5
  · obtain ⟨h4, h5⟩ := h3 hr
    exact ⟨h4, fun he => by obtain ⟨H, X, k1, k2⟩ := h5 he; exact ⟨H, X, more k1, more k2⟩⟩

structure FV (P : Program) (st0 : St) (l : List Oper) (ps : List (Nat × List Nat)) (its : List IV) (hs : List (Heap × Nat)) (fr : List Nat) (st : St) : Prop where
  len : l.length = its.length
  plen : ps.length = its.length
  efp : ∀ (i : Nat) (p : Nat × List Nat) (it : IV), ps[i]? = some p → its[i]? = some it → it.ef = Nat.ble 2 p.1 ∧ (p.1 = 0 → fr.contains i = true)
  hlen : hs.length = rankV its its.length + 1
  last : hs[rankV its its.length]? = some (st.h, st.nx)
  zero : hs[0]? = some (st0.h, st0.nx)
  known : ∀ (i : Nat) (o : Oper) (it : IV), l[i]? = some o → its[i]? = some it → KV P its hs (fr.contains i) i o it
  sees : ∀ (i : Nat) (p : Nat × List Nat) (it : IV) (x : Nat), ps[i]? = some p → its[i]? = some it → tget it.tm x = .top ∨ x ∈ p.2 ∧
    (∀ (j : Nat) (o' : Oper) (jt : IV), j < i → l[j]? = some o' → its[j]? = some jt → o'.dst = some x → (∀ (k : Nat) (o'' : Oper), j < k → k < i → l[k]? = some o'' → o''.dst ≠ some x) → tget it.tm x = jt.v) ∧
    ((∀ (j : Nat) (o' : Oper), j < i → l[j]? = some o' → o'.dst ≠ some x) → tget it.tm x = tget st0.tm x)
  val : ∀ (i : Nat) (o : Oper) (it : IV) (x : Nat), l[i]? = some o → its[i]? = some it → o.dst = some x → (∀ (j : Nat) (o' : Oper), i < j → l[j]? = some o' → o'.dst ≠ some x) → tget st.tm x = it.v
  old : ∀ x, (∀ (i : Nat) (o : Oper), l[i]? = some o → o.dst ≠ some x) → tget st.tm x = tget st0.tm x
  frs : ∀ i ∈ fr, i < its.length

theorem FV.snoc {st0 : St} {l : List Oper} {ps : List (Nat × List Nat)} {its : List IV} {hs hs' : List (Heap × Nat)} {fr fr' : List Nat} {st st' : St} (h : FV P st0 l ps its hs fr st) (o : Oper) (p : Nat × List Nat) (it : IV) (htm : st'.tm = (putA o.dst it.v st).tm)
    (hef : it.ef = Nat.ble 2 p.1) (hlen : hs'.length = if it.ef then 1 else 0) (hlast : (hs ++ hs')[rankV its its.length + (if it.ef then 1 else 0)]? = some (st'.h, st'.nx)) (hfr : ∀ i, i < its.length → fr'.contains i = fr.contains i) (hf0 : p.1 = 0 → fr'.contains its.length = true) (hfl : ∀ i ∈ fr', i < its.length + 1)
    (hs1 : ∀ x, tget it.tm x = .top ∨ x ∈ p.2 ∧ tget it.tm x = tget st.tm x)
    (hk : KV P (its ++ [it]) (hs ++ hs') (fr'.contains its.length) its.length o it) : FV P st0 (l ++ [o]) (ps ++ [p]) (its ++ [it]) (hs ++ hs') fr' st' := by
  have hl := h.len
  have hpl := h.plen
  refine ⟨by simp [hl], by simp [hpl], fun i q jt hq hjt => ?_, by simp only [List.length_append, List.length_cons, List.length_nil, Nat.zero_add]; rw [rankV_snoc, h.hlen, hlen]; omega, by simp only [List.length_append, List.length_cons, List.length_nil, Nat.zero_add]; rw [rankV_snoc]; exact hlast, ?_, ?_, ?_, ?_, ?_, fun i hi => by simp only [List.length_append, List.length_cons, List.length_nil]; exact hfl i hi⟩
  · rcases snoc_get hq with ⟨h1, h2⟩ | ⟨h1, h2⟩
    · rcases snoc_get hjt with ⟨h3, h4⟩ | ⟨h3, h4⟩
      · rw [hfr i h3]; exact h.efp i q jt h2 h4
      · omega
    · rcases snoc_get hjt with ⟨h3, h4⟩ | ⟨h3, h4⟩
      · omega
      · subst h2; subst h4; subst h3; exact ⟨hef, hf0⟩
  · rw [List.getElem?_append_left (by rw [h.hlen]; omega)]; exact h.zero
  · intro i o' it' ho hit
    rcases snoc_get ho with ⟨h1, h2⟩ | ⟨h1, h2⟩
    · rcases snoc_get hit with ⟨h3, h4⟩ | ⟨h3, h4⟩
      · rw [hfr i h3]; exact (h.known i o' it' h2 h4).more it hs' (by omega)
      · omega
    · rcases snoc_get hit with ⟨h3, h4⟩ | ⟨h3, h4⟩
      · omega
      · subst h2; subst h4; subst h3; exact hk
  · intro i q jt x hq hjt
    have lft : ∀ (k : Nat) (o'' : Oper), k < i → i ≤ l.length → (l ++ [o])[k]? = some o'' → l[k]? = some o'' := fun k o'' hk hi hh => by
      rw [List.getElem?_append_left (by omega)] at hh; exact hh
    have rgt : ∀ (k : Nat) (o'' : Oper), l[k]? = some o'' → (l ++ [o])[k]? = some o'' := fun k o'' hh => by
      rw [List.getElem?_append_left (List.getElem?_eq_some_iff.1 hh).1]; exact hh
    rcases snoc_get hq with ⟨h1, h2⟩ | ⟨h1, h2⟩
    · rcases snoc_get hjt with ⟨h3, h4⟩ | ⟨h3, h4⟩
      · rcases h.sees i q jt x h2 h4 with e | ⟨e1, e2, e3⟩
        · exact .inl e
        · refine .inr ⟨e1, fun j o' kt hj ho' hkt hd hno => ?_, fun hno => e3 fun j o' hj ho' => hno j o' hj (rgt j o' ho')⟩
          rcases snoc_get hkt with ⟨h5, h6⟩ | ⟨h5, h6⟩
          · exact e2 j o' kt hj (lft j o' hj (by omega) ho') h6 hd (fun k o'' hk1 hk2 ho'' => hno k o'' hk1 hk2 (rgt k o'' ho''))
          · omega
      · omega
    · rcases snoc_get hjt with ⟨h3, h4⟩ | ⟨h3, h4⟩
      · omega
      · subst h2; subst h4
        rcases hs1 x with e | ⟨e1, e2⟩
        · exact .inl e
        · refine .inr ⟨e1, fun j o' kt hj ho' hkt hd hno => ?_, fun hno => ?_⟩
          · rw [e2]
            rcases snoc_get hkt with ⟨h5, h6⟩ | ⟨h5, h6⟩
            · exact h.val j o' kt x (lft j o' hj (by omega) ho') h6 hd (fun k o'' hk1 ho'' => hno k o'' hk1 (by have := (List.getElem?_eq_some_iff.1 ho'').1; omega) (rgt k o'' ho''))
            · omega
          · rw [e2]
            exact h.old x (fun j o' ho' => hno j o' (by have := (List.getElem?_eq_some_iff.1 ho').1; omega) (rgt j o' ho'))
  · intro i o' it' x ho hit hx hno
    rw [htm, tget_putA]
    rcases snoc_get ho with ⟨h1, h2⟩ | ⟨h1, h2⟩
    · rcases snoc_get hit with ⟨h3, h4⟩ | ⟨h3, h4⟩
      · rw [if_neg (hno l.length o h1 (by simp))]
        exact h.val i o' it' x h2 h4 hx (fun j o'' hij hj => hno j o'' hij (by rw [List.getElem?_append_left (List.getElem?_eq_some_iff.1 hj).1]; exact hj))
      · omega
    · rcases snoc_get hit with ⟨h3, h4⟩ | ⟨h3, h4⟩
      · omega
      · subst h2; subst h4
        rw [if_pos hx]
  · intro x hno
    rw [htm, tget_putA, if_neg (hno l.length o (by simp))]
    exact h.old x (fun i o' hi => hno i o' (by rw [List.getElem?_append_left (List.getElem?_eq_some_iff.1 hi).1]; exact hi))

theorem selF_mem {tm : List (Nat × AV)} : ∀ (ks : List Nat) (tm1 : List (Nat × AV)), selF tm ks = some tm1 → ∀ x, tget tm1 x = .top ∨ x ∈ ks ∧ tget tm1 x = tget tm x := by
  intro ks
  induction ks with
  | nil => intro tm1 h x; simp only [selF, Option.some.injEq] at h; subst h; exact .inl rfl
  | cons k ks ih =>
    intro tm1 h x
    simp only [selF] at h
    split at h
    · rename_i v r h1 h2
      obtain rfl := Option.some.inj h
      simp only [tget]
      by_cases e : k = x
      · subst e
        rw [if_pos rfl]
        rw [tgF_eq] at h1
        exact .inr ⟨List.mem_cons_self, (tgetS_spec _ _ _ h1).symm⟩
      · rw [if_neg e]
        exact (ih r h2 x).imp id (fun h => ⟨List.mem_cons_of_mem _ h.1, h.2⟩)
    · cases h

theorem giv_ok {its : List IV} {j : Nat} (hj : j < its.length) {g : Option Bool} (h : giv its j = some g) : ∃ q, its.reverse[j]? = some q ∧ gv q.v = some g := by
  unfold giv at h
  split at h
  · rename_i it hit
    refine ⟨it, ?_, h⟩
    rw [List.getElem?_reverse hj]
    exact hit
  · cases h

theorem runDraw_go {cf : CF} (hcf : CFok P cf) {st0 : St} {rest : List Oper} (ih : ∀ (ps : List (Nat × List Nat)) (done : List Oper) (dps : List (Nat × List Nat)) (its : List IV) (hs : List (Heap × Nat)) (fr : List Nat) (st : St) (its' : List IV) (hs' : List (Heap × Nat)) (fr' : List Nat) (st' : St),
    runDraw P cf rest ps its hs fr st = some (its', hs', fr', st') → FV P st0 done dps its.reverse hs.reverse fr st → FV P st0 (done ++ rest) (dps ++ ps) its'.reverse hs'.reverse fr' st')
    {o : Oper} {k : Nat} {ks : List Nat} {ps : List (Nat × List Nat)} {done : List Oper} {dps : List (Nat × List Nat)} {its : List IV} {hs : List (Heap × Nat)} {fr : List Nat} {st : St} {its' : List IV} {hs' : List (Heap × Nat)} {fr' : List Nat} {st' : St}
    (hh : (match selF st.tm ks with
              | some tm1 => match k with
                | 0 => match stepQ0 P cf o.op tm1 with
                  | some v => forceV v fun v => runDraw P cf rest ps (⟨v, false, tm1⟩ :: its) hs (its.length :: fr) (putA o.dst v st)
                  | none => none
                | 1 => match stepQ P cf o.op tm1 st.h with
                  | some v => forceV v fun v => runDraw P cf rest ps (⟨v, false, tm1⟩ :: its) hs fr (putA o.dst v st)
                  | none => none
                | _ => match stepAny P cf o.op tm1 st.h st.nx with
                  | some (v, h', nx') => forceV v fun v => forceN nx' fun nx' => runDraw P cf rest ps (⟨v, true, tm1⟩ :: its) ((h', nx') :: hs) fr (putA o.dst v ⟨st.tm, h', nx'⟩)
                  | none => none
              | none => none) = some (its', hs', fr', st'))
    (hg : GdV its.reverse o.guard true) (hF : FV P st0 done dps its.reverse hs.reverse fr st) : FV P st0 ((done ++ [o]) ++ rest) ((dps ++ [(k, ks)]) ++ ps) its'.reverse hs'.reverse fr' st' := by
  have cons_c : ∀ (fr : List Nat) (n i : Nat), i < n → (n :: fr).contains i = fr.contains i := fun fr n i hi => by
    rw [List.contains_cons]
    have : (i == n) = false := by simp; omega
    rw [this]; rfl
  have il : its.reverse.length = its.length := List.length_reverse
  have hrl : hs.reverse.length = rankV its.reverse its.reverse.length + 1 := hF.hlen
  split at hh
  · rename_i tm1 htm1
    have hsee := selF_mem ks tm1 htm1
    split at hh
    · split at hh
      · rename_i v hv
        rw [forceV_eq] at hh
        refine ih _ _ _ _ _ _ _ _ _ _ _ hh ?_
        have hq := stepQ0_ok hcf hv
        have := hF.snoc o (0, ks) ⟨v, false, tm1⟩ (st' := putA o.dst v st) (hs' := []) (fr' := its.length :: fr) rfl rfl rfl (by simpa [putA_h, putA_nx] using hF.last) (fun i hi => cons_c fr _ i (by omega)) (fun _ => by simp [il]) (fun i hi => by
          rcases List.mem_cons.1 hi with rfl | hi
          · omega
          · have := hF.frs i hi; omega) hsee ⟨true, hg.more _, fun _ => ⟨⟨st.h, st.nx, by rw [rankV_more _ _ (Nat.le_refl _), List.append_nil]; exact hF.last, hq _⟩, fun _ => ⟨rfl, hq⟩⟩, fun e => by cases e⟩
        rw [List.append_nil] at this
        rw [List.reverse_cons]; exact this
      · cases hh
    · split at hh
      · rename_i v hv
        rw [forceV_eq] at hh
        refine ih _ _ _ _ _ _ _ _ _ _ _ hh ?_
        have hq := stepQ_ok hcf hv
        have := hF.snoc o (1, ks) ⟨v, false, tm1⟩ (st' := putA o.dst v st) (hs' := []) (fr' := fr) rfl rfl rfl (by simpa [putA_h, putA_nx] using hF.last) (fun i hi => rfl) (fun e => by cases e) (fun i hi => Nat.lt_succ_of_lt (hF.frs i hi)) hsee
          ⟨true, hg.more _, fun _ => ⟨⟨st.h, st.nx, by rw [rankV_more _ _ (Nat.le_refl _), List.append_nil]; exact hF.last, hq⟩, fun hc => by
            have := hF.frs its.reverse.length (by simpa using hc)
            omega⟩, fun e => by cases e⟩
        rw [List.append_nil] at this
        rw [List.reverse_cons]; exact this
      · cases hh
    · rename_i k2 hk0 hk1
      split at hh
      · rename_i v h1 n1 hv
        rw [forceV_eq, forceN_eq] at hh
        refine ih _ _ _ _ _ _ _ _ _ _ _ hh ?_
        have hq := stepAny_ok hcf hv
        have h2 : Nat.ble 2 k = true := Nat.ble_eq_true_of_le (by
          match k, hk0, hk1 with
          | 0, h0, _ => exact absurd rfl h0
          | 1, _, h1 => exact absurd rfl h1
          | k + 2, _, _ => omega)
        have := hF.snoc o (k, ks) ⟨v, true, tm1⟩ (st' := putA o.dst v ⟨st.tm, h1, n1⟩) (hs' := [(h1, n1)]) (fr' := fr) (by cases o.dst <;> rfl) h2.symm rfl (by
            rw [putA_h, putA_nx, List.getElem?_append_right (by rw [hrl]; exact Nat.le_refl _), hrl]; simp) (fun i hi => rfl) (fun e => by rw [show k = 0 from e] at h2; cases h2) (fun i hi => Nat.lt_succ_of_lt (hF.frs i hi)) hsee
          ⟨true, hg.more _, fun _ => ⟨⟨st.h, st.nx, by rw [rankV_more _ _ (Nat.le_refl _), List.getElem?_append_left (by rw [hrl]; omega)]; exact hF.last, by
            rw [rankV_more _ _ (Nat.le_refl _)]
            exact ⟨h1, n1, by rw [List.getElem?_append_right (by rw [hrl]; exact Nat.le_refl _), hrl]; simp, hq⟩⟩, fun hc => by
            have := hF.frs its.reverse.length (by simpa using hc)
            omega⟩, fun e => by cases e⟩
        rw [List.reverse_cons, List.reverse_cons]; exact this
      · cases hh
  · cases hh

theorem runDraw_ok {cf : CF} (hcf : CFok P cf) {st0 : St} : ∀ (rest : List Oper) (ps : List (Nat × List Nat)) (done : List Oper) (dps : List (Nat × List Nat)) (its : List IV) (hs : List (Heap × Nat)) (fr : List Nat) (st : St) (its' : List IV) (hs' : List (Heap × Nat)) (fr' : List Nat) (st' : St),
    runDraw P cf rest ps its hs fr st = some (its', hs', fr', st') → FV P st0 done dps its.reverse hs.reverse fr st → FV P st0 (done ++ rest) (dps ++ ps) its'.reverse hs'.reverse fr' st' := by
  have cons_c : ∀ (fr : List Nat) (n i : Nat), i < n → (n :: fr).contains i = fr.contains i := fun fr n i hi => by
    rw [List.contains_cons]
    have : (i == n) = false := by simp; omega
    rw [this]; rfl
  intro rest
  induction rest with
  | nil =>
    intro ps done dps its hs fr st its' hs' fr' st' h hF
    cases ps with
    | nil =>
      simp only [runDraw, Option.some.injEq, Prod.mk.injEq] at h
      obtain ⟨rfl, rfl, rfl, rfl⟩ := h
      simpa using hF
    | cons p ps => simp only [runDraw, reduceCtorEq] at h
  | cons o rest ih =>
    intro ps done dps its hs fr st its' hs' fr' st' h hF
    cases ps with
    | nil => simp only [runDraw, reduceCtorEq] at h
    | cons p ps =>
      obtain ⟨k, ks⟩ := p
      have e1 : done ++ o :: rest = (done ++ [o]) ++ rest := by simp
      have e2 : dps ++ (k, ks) :: ps = (dps ++ [(k, ks)]) ++ ps := by simp
      rw [e1, e2]
      have il : its.reverse.length = its.length := List.length_reverse
      have hrl : hs.reverse.length = rankV its.reverse its.reverse.length + 1 := hF.hlen
      unfold runDraw at h
      simp only [] at h
      split at h
      · rename_i hg
        exact runDraw_go hcf ih h (by rw [hg]; rfl) hF
      · rename_i j b hg
        split at h
        · rename_i hj
          have hj : j < its.length := by simpa using hj
          split at h
          · rename_i g hgv
            obtain ⟨q, q1, q2⟩ := giv_ok hj hgv
            split at h
            · rename_i hgb
              exact runDraw_go hcf ih h (by rw [hg]; exact ⟨q, g, q1, q2, hgb.symm⟩) hF
            · rename_i hgb
              have hgb : (g == some b) = false := by simpa using hgb
              have hG : GdV its.reverse o.guard false := by rw [hg]; exact ⟨q, g, q1, q2, hgb.symm⟩
              split at h
              · rename_i h2
                refine ih _ _ _ _ _ _ _ _ _ _ _ h ?_
                have := hF.snoc o (k, ks) ⟨.tup [], true, []⟩ (st' := putA o.dst (.tup []) st) (hs' := [(st.h, st.nx)]) (fr' := fr) rfl h2.symm rfl (by
                    rw [putA_h, putA_nx, List.getElem?_append_right (by rw [hrl]; exact Nat.le_refl _), hrl]; simp) (fun i hi => rfl) (fun e => by rw [show k = 0 from e] at h2; cases h2) (fun i hi => Nat.lt_succ_of_lt (hF.frs i hi)) (fun x => .inl rfl)
                  ⟨false, hG.more _, (fun e => by cases e), fun _ => ⟨rfl, fun _ => ⟨st.h, st.nx, by rw [rankV_more _ _ (Nat.le_refl _), List.getElem?_append_left (by rw [hrl]; omega)]; exact hF.last, by
                    rw [rankV_more _ _ (Nat.le_refl _), List.getElem?_append_right (by rw [hrl]; exact Nat.le_refl _), hrl]; simp⟩⟩⟩
                rw [List.reverse_cons, List.reverse_cons]; exact this
              · rename_i h2
                refine ih _ _ _ _ _ _ _ _ _ _ _ h ?_
                have := hF.snoc o (k, ks) ⟨.tup [], false, []⟩ (st' := putA o.dst (.tup []) st) (hs' := []) (fr' := its.length :: fr) rfl (by cases hb : Nat.ble 2 k with | true => exact absurd hb h2 | false => rfl) rfl (by simpa [putA_h, putA_nx] using hF.last) (fun i hi => cons_c fr _ i (by omega)) (fun _ => by simp [il]) (fun i hi => by
                  rcases List.mem_cons.1 hi with rfl | hi
                  · omega
                  · have := hF.frs i hi; omega) (fun x => .inl rfl) ⟨false, hG.more _, (fun e => by cases e), fun _ => ⟨rfl, fun e => by cases e⟩⟩
                rw [List.append_nil] at this
                rw [List.reverse_cons]; exact this
          · cases h
        · cases h

end
end Go.Proofs.Ytpggknkhldecaaa.Abs
end
section
/-
  A machine that runs codes whose inputs are known: what it comes to is what the program comes to. It holds of any program.
-/
namespace Go.Proofs.Ytpggknkhldecaaa.Abs

section
variable {P : Program}

theorem mkSg_ok {cf : CF} {l : List Oper} {its : List IV} {hs : List (Heap × Nat)} : ∀ (sp : List (List Nat × Nat × Nat)) (acc sg : List SG), mkSg P cf l its hs sp acc = some sg →
    ∃ tail, sg = acc ++ tail ∧ tail.length = sp.length ∧ ∀ (s : Nat) (q : List Nat × Nat × Nat) (g : SG), sp[s]? = some q → tail[s]? = some g → g.e = q.1 ∧ (q.2.1 = 0 → hs[q.2.2]? = some (g.h, g.x)) := by
  intro sp
  induction sp with
  | nil => intro acc sg h; simp only [mkSg, Option.some.injEq] at h; exact ⟨[], by simp [h], rfl, fun s q g hq => by simp at hq⟩
  | cons q sp ih =>
    intro acc sg h
    obtain ⟨e, p, k⟩ := q
    have step : ∀ (g0 : SG), g0.e = e → (p = 0 → hs[k]? = some (g0.h, g0.x)) → mkSg P cf l its hs sp (acc ++ [g0]) = some sg → ∃ tail, sg = acc ++ tail ∧ tail.length = ((e, p, k) :: sp).length ∧ ∀ (s : Nat) (q : List Nat × Nat × Nat) (g : SG), ((e, p, k) :: sp)[s]? = some q → tail[s]? = some g → g.e = q.1 ∧ (q.2.1 = 0 → hs[q.2.2]? = some (g.h, g.x)) := by
      intro g0 h1 h2 h3
      obtain ⟨tail, t1, t2, t3⟩ := ih _ _ h3
      refine ⟨g0 :: tail, by rw [t1]; simp, by simp [t2], fun s q g hq hg => ?_⟩
      cases s with
      | zero =>
        simp only [List.getElem?_cons_zero, Option.some.injEq] at hq hg
        subst hq; subst hg
        exact ⟨h1, h2⟩
      | succ s => simp only [List.getElem?_cons_succ] at hq hg; exact t3 s q g hq hg
    cases p with
    | zero =>
      simp only [mkSg] at h
      split at h
      · rename_i hh x hk
        exact step ⟨e, hh, x⟩ rfl (fun _ => hk) h
      · cases h
    | succ p =>
      simp only [mkSg] at h
      split at h
      · rename_i g o it h1 h2 h3
        split at h
        · exact step ⟨e, g.h, b1of its hs k⟩ rfl (fun e => by cases e) h
        · split at h
          · rename_i v h' x' hv
            exact step ⟨e, h', x'⟩ rfl (fun e => by cases e) h
          · cases h
      · cases h

def toIX (its : List IV) (hs : List (Heap × Nat)) : List IX := its.mapIdx fun i it => ⟨it.v, it.ef, b0of its hs i, b1of its hs i, it.tm⟩

theorem toIX_get {its : List IV} {hs : List (Heap × Nat)} {i : Nat} : (toIX its hs)[i]? = (its[i]?).map fun it => ⟨it.v, it.ef, b0of its hs i, b1of its hs i, it.tm⟩ := by
  unfold toIX
  rw [List.getElem?_mapIdx]

theorem toIX_some {its : List IV} {hs : List (Heap × Nat)} {i : Nat} {ix : IX} (h : (toIX its hs)[i]? = some ix) : ∃ it, its[i]? = some it ∧ ix = ⟨it.v, it.ef, b0of its hs i, b1of its hs i, it.tm⟩ := by
  rw [toIX_get] at h
  obtain ⟨it, h1, h2⟩ := Option.map_eq_some_iff.1 h
  exact ⟨it, h1, h2.symm⟩

theorem hrOK_ok {X β β1 k : Nat} {H1 H2 : Heap} (h : hrOK X β β1 k H1 H2 = true) : HR X β β1 H1 H2 := by
  intro b B hb
  have mem : ∀ (H : Heap) (B : Blk), hget H b = some B → ∃ p ∈ H, p.1 = b := by
    intro H
    induction H with
    | nil => intro B e; cases e
    | cons q t ih =>
      obtain ⟨j, v⟩ := q
      intro B e
      by_cases ej : j = b
      · exact ⟨(j, v), List.mem_cons_self, ej⟩
      · simp only [hget, ej, if_false] at e
        obtain ⟨p, hp, he⟩ := ih B e
        exact ⟨p, List.mem_cons_of_mem _ hp, he⟩
  obtain ⟨p, hp, rfl⟩ := mem H2 B hb
  unfold hrOK at h
  have := List.all_eq_true.1 h p hp
  split at this
  · rename_i B' hB'
    rw [hgetF_eq, hb] at hB'
    obtain rfl := Option.some.inj hB'
    simp only [] at this
    generalize (if (Nat.ble β p.fst && p.fst.blt (β + k)) = true then p.fst - β + X else p.fst) = b1 at this
    split at this
    · rename_i B1 hB1
      simp only [Bool.and_eq_true, Bool.or_eq_true] at this
      obtain ⟨⟨h1, h2⟩, h3⟩ := this
      refine ⟨b1, B1, hgO hB1, Nat.eq_of_beq_eq_true h1, blkEq_ok h2, fun hlt => ?_⟩
      rcases h3 with (h3 | h3) | h3
      · have := Nat.le_of_ble_eq_true h3; omega
      · exact .inl (by simpa using h3)
      · exact .inr (Nat.le_of_ble_eq_true h3)
    · cases this
  · cases this

/-- What another place of an operation says. -/
def ExX (P : Program) (its : List IV) (hs : List (Heap × Nat)) (sg : List SG) (i s' : Nat) (o : Oper) (it : IV) (g : SG) : Prop :=
  if it.ef then ∃ g', sg[s']? = some g' ∧ EffX P o.op it.tm g g' ⟨it.v, it.ef, b0of its hs i, b1of its hs i, it.tm⟩ else OpQ P o.op it.tm g.h it.v

theorem exOK_ok {cf : CF} (hcf : CFok P cf) {l : List Oper} {its : List IV} {hs : List (Heap × Nat)} {sg : List SG} {q : Nat × Nat × Nat} (h : exOK P cf l its hs sg q = true) {o : Oper} {it : IV} {g : SG} (ho : l[q.1]? = some o) (hit : its[q.1]? = some it) (hg : sg[q.2.1]? = some g) :
    match o.guard with
    | none => ExX P its hs sg q.1 q.2.2 o it g
    | some (j, b) => ∃ r w, its[j]? = some r ∧ gv r.v = some w ∧ (w = some b → ExX P its hs sg q.1 q.2.2 o it g) ∧ (w ≠ some b → it.ef = true → ∃ g', sg[q.2.2]? = some g' ∧ g'.h = g.h ∧ g.x ≤ g'.x) := by
  have go : exOK.go P cf its hs sg q o it g = true → ExX P its hs sg q.1 q.2.2 o it g := by
    intro hh
    unfold exOK.go at hh
    unfold ExX
    cases hef : it.ef with
    | true =>
      rw [hef] at hh
      simp only [if_true] at hh ⊢
      split at hh
      · rename_i g' hg'
        refine ⟨g', hg', ?_⟩
        split at hh
        · rename_i hle
          split at hh
          · rename_i v h' x' hv
            simp only [Bool.and_eq_true] at hh
            obtain ⟨⟨⟨k1, k2⟩, k3⟩, k4⟩ := hh
            have k1 := avEq_ok _ _ k1
            have k2 := heapEq_ok _ _ k2
            have k3 := Nat.eq_of_beq_eq_true k3
            have k4 := Nat.eq_of_beq_eq_true k4
            subst k1 k2
            refine .inl ⟨Nat.le_of_ble_eq_true hle, by rw [k4]; exact k3, ?_⟩
            rw [k4]
            exact stepAny_ok hcf hv
          · cases hh
        · simp only [Bool.and_eq_true] at hh
          obtain ⟨⟨k1, k2⟩, hh⟩ := hh
          split at hh
          · rename_i v1 h1 x1 hv
            simp only [Bool.and_eq_true] at hh
            obtain ⟨⟨⟨k3, k4⟩, k5⟩, k6⟩ := hh
            have k3 := Nat.le_of_ble_eq_true k3
            refine .inr ⟨Nat.le_of_ble_eq_true k1, Nat.eq_of_beq_eq_true k2, v1, h1, x1 - g.x, ?_, Nat.le_of_ble_eq_true k4, avEq_ok _ _ k5, hrOK_ok k6⟩
            rw [Nat.add_sub_cancel' k3]
            exact stepAny_ok hcf hv
          · cases hh
      · cases hh
    | false =>
      rw [hef] at hh
      simp only [Bool.false_eq_true, if_false] at hh ⊢
      split at hh
      · rename_i v hv
        rw [← avEq_ok _ _ hh]
        exact stepQ_ok hcf hv
      · cases hh
  unfold exOK at h
  rw [ho, hit, hg] at h
  simp only [] at h
  split at h
  · rename_i j b hgd
    rw [hgd]
    simp only []
    split at h
    · rename_i r hr
      split at h
      · rename_i w hw
        refine ⟨r, w, hr, hw, fun e => ?_, fun e hef => ?_⟩
        · rw [if_pos (by simp [e])] at h; exact go h
        · rw [if_neg (by simpa using e), if_pos hef] at h
          split at h
          · rename_i g' hg'
            simp only [Bool.and_eq_true] at h
            exact ⟨g', hg', (heapEq_ok _ _ h.1).symm, Nat.le_of_ble_eq_true h.2⟩
          · cases h
      · cases h
    · cases h
  · rename_i hgd
    rw [hgd]
    exact go h

theorem rankP_eq {ps : List (Nat × List Nat)} {its : List IV} (hl : ps.length = its.length) (he : ∀ (i : Nat) (p : Nat × List Nat) (it : IV), ps[i]? = some p → its[i]? = some it → it.ef = Nat.ble 2 p.1) (i : Nat) : rankP ps i = rankV its i := by
  have e : its.map (·.ef) = ps.map (fun p => Nat.ble 2 p.1) := by
    refine List.ext_getElem? fun k => ?_
    rw [List.getElem?_map, List.getElem?_map]
    cases h1 : its[k]? with
    | none =>
      rw [List.getElem?_eq_none_iff] at h1
      rw [List.getElem?_eq_none (by omega)]; rfl
    | some it =>
      obtain ⟨p, hp⟩ : ∃ p, ps[k]? = some p := ⟨_, List.getElem?_eq_getElem (by rw [hl]; exact (List.getElem?_eq_some_iff.1 h1).1)⟩
      rw [hp, Option.map_some, Option.map_some, he k p it hp h1]
  unfold rankP rankV
  have c1 : (ps.take i).countP (fun p => Nat.ble 2 p.1) = ((ps.map (fun p => Nat.ble 2 p.1)).take i).countP id := by rw [← List.map_take, List.countP_map]; rfl
  have c2 : (its.take i).countP (fun it => it.ef) = ((its.map (·.ef)).take i).countP id := by rw [← List.map_take, List.countP_map]; rfl
  rw [c1, c2, e]

theorem monoX_ok : ∀ (hs : List (Heap × Nat)), monoX hs = true → ∀ (j i : Nat) (p q : Heap × Nat), i ≤ j → hs[i]? = some p → hs[j]? = some q → p.2 ≤ q.2
  | [], _, j, i, p, q, _, hp, _ => by simp at hp
  | [a], _, j, i, p, q, hij, hp, hq => by
    have h1 : i < 1 := (List.getElem?_eq_some_iff.1 hp).1
    have h2 : j < 1 := (List.getElem?_eq_some_iff.1 hq).1
    obtain rfl : i = 0 := by omega
    obtain rfl : j = 0 := by omega
    rw [hp] at hq
    obtain rfl := Option.some.inj hq
    exact Nat.le_refl _
  | a :: b :: t, h, j, i, p, q, hij, hp, hq => by
    simp only [monoX, Bool.and_eq_true] at h
    cases j with
    | zero =>
      obtain rfl : i = 0 := by omega
      rw [hp] at hq
      obtain rfl := Option.some.inj hq
      exact Nat.le_refl _
    | succ j =>
      rw [List.getElem?_cons_succ] at hq
      cases i with
      | zero =>
        simp only [List.getElem?_cons_zero, Option.some.injEq] at hp
        subst hp
        exact Nat.le_trans (Nat.le_of_ble_eq_true h.1) (monoX_ok (b :: t) h.2 j 0 b q (Nat.zero_le _) rfl hq)
      | succ i =>
        rw [List.getElem?_cons_succ] at hp
        exact monoX_ok (b :: t) h.2 j i p q (by omega) hp hq

theorem sameS_ok {l l' : List Nat} (h : sameS l l' = true) (j : Nat) : j ∈ l ↔ j ∈ l' := by
  unfold sameS at h
  simp only [Bool.and_eq_true] at h
  constructor
  · intro hj; have := List.all_eq_true.1 h.1 j hj; simpa using this
  · intro hj; have := List.all_eq_true.1 h.2 j hj; simpa using this

/-- A region whose order is open. -/
theorem drawn_ok {cf : CF} (hcf : CFok P cf) (hm : P.follows .mixedOrders = true) {c : Ctx} {n id : Nat} {Q : Exit → St → Prop} {l : List Oper} {pl : PL} {st st' : St} (h : drawn P cf n l pl st = some st') (hQ : Q .normal st') : AW P c n (.region id l.toArray true) Q st := by
  unfold drawn at h
  split at h
  · rename_i hchk
    rw [Bool.and_eq_true] at hchk
    obtain ⟨hchk, hdn⟩ := hchk
    split at h
    · rename_i its0 hs0 fr st1 hrun
      split at h
      · rename_i hmono
        split at h
        · rename_i sg hsg
          split at h
          · rename_i hex
            obtain rfl := Option.some.inj h
            have hF := runDraw_ok (P := P) hcf (st0 := st) l pl.its [] [] [] [(st.h, st.nx)] [] st its0 hs0 fr st1 hrun
              ⟨rfl, rfl, fun i p it h => by simp at h, rfl, rfl, rfl, fun i o it h => by simp at h, fun i p it x h => by simp at h, fun i o it x h => by simp at h, fun _ _ => rfl, fun i hi => by cases hi⟩
            rw [List.nil_append, List.nil_append] at hF
            generalize its0.reverse = its at hF hsg hex
            generalize hs0.reverse = hs at hF hsg hex hmono
            obtain ⟨tail, t1, t2, t3⟩ := mkSg_ok _ _ _ hsg
            rw [List.nil_append] at t1
            subst t1
            have hefp := hF.efp
            have hrk : ∀ i, rankP pl.its i = rankV its i := rankP_eq hF.plen (fun i p it a b => (hefp i p it a b).1)
            unfold chkX at hchk
            simp only [Bool.and_eq_true] at hchk
            obtain ⟨⟨⟨⟨⟨⟨cA, cB⟩, cC⟩, cD⟩, cE⟩, cF⟩, cG⟩ := hchk
            -- an operation's checks
            have one : ∀ (i : Nat) (o : Oper), l[i]? = some o → ∃ k ks it, pl.its[i]? = some (k, ks) ∧ its[i]? = some it ∧ it.ef = Nat.ble 2 k ∧ chkX1 l pl i o k ks = true := fun i o ho => by
              have hil : i < l.length := (List.getElem?_eq_some_iff.1 ho).1
              obtain ⟨it, hit⟩ : ∃ it, its[i]? = some it := ⟨_, List.getElem?_eq_getElem (by rw [← hF.len]; exact hil)⟩
              obtain ⟨p, hp⟩ : ∃ p, pl.its[i]? = some p := ⟨_, List.getElem?_eq_getElem (by rw [hF.plen, ← hF.len]; exact hil)⟩
              have := List.all_eq_true.1 cB i (List.mem_range.2 hil)
              rw [ho, hp] at this
              exact ⟨p.1, p.2, it, hp, hit, (hefp i p it hp hit).1, this⟩
            have o_of : ∀ (i : Nat) (it : IV), its[i]? = some it → ∃ o, l[i]? = some o := fun i it h => ⟨_, List.getElem?_eq_getElem (by rw [hF.len]; exact (List.getElem?_eq_some_iff.1 h).1)⟩
            have q_of : ∀ (s : Nat) (g : SG), sg[s]? = some g → ∃ q, pl.sp[s]? = some q ∧ g.e = q.1 ∧ (q.2.1 = 0 → hs[q.2.2]? = some (g.h, g.x)) := fun s g hg => by
              obtain ⟨q, hq⟩ : ∃ q, pl.sp[s]? = some q := ⟨_, List.getElem?_eq_getElem (by rw [← t2]; exact (List.getElem?_eq_some_iff.1 hg).1)⟩
              exact ⟨q, hq, t3 s q g hq hg⟩
            have g_of : ∀ (s : Nat) (q : List Nat × Nat × Nat), pl.sp[s]? = some q → ∃ g, sg[s]? = some g ∧ g.e = q.1 ∧ (q.2.1 = 0 → hs[q.2.2]? = some (g.h, g.x)) := fun s q hq => by
              obtain ⟨g, hg⟩ : ∃ g, sg[s]? = some g := ⟨_, List.getElem?_eq_getElem (by rw [t2]; exact (List.getElem?_eq_some_iff.1 hq).1)⟩
              exact ⟨g, hg, t3 s q g hq hg⟩
            have up : ∀ (i : Nat) (o : Oper), l[i]? = some o → ∀ p ∈ edges o, p < i := fun i o ho p hp => by
              obtain ⟨k, ks, it, _, _, _, hc⟩ := one i o ho
              unfold chkX1 at hc
              simp only [Bool.and_eq_true] at hc
              have := List.all_eq_true.1 hc.1.1.1.1.1.1 p hp
              simpa using this
            have dist0 : ∀ (i j : Nat) (o o' : Oper) (d : Nat), j < i → l[i]? = some o → l[j]? = some o' → o.dst = some d → o'.dst = some d → False := fun i j o o' d hij ho ho' hd hd' => by
              obtain ⟨k, ks, it, _, _, _, hc⟩ := one i o ho
              unfold chkX1 at hc
              simp only [Bool.and_eq_true] at hc
              have h2 := hc.1.1.1.1.1.2
              rw [hd] at h2
              simp only [] at h2
              have hm : o' ∈ l.take i := List.mem_of_getElem? (i := j) (by rw [List.getElem?_take_of_lt hij]; exact ho')
              have := List.all_eq_true.1 h2 o' hm
              rw [dstIs_iff.2 hd'] at this
              cases this
            have dist : ∀ (i j : Nat) (o o' : Oper) (d : Nat), l[i]? = some o → l[j]? = some o' → o.dst = some d → o'.dst = some d → i = j := fun i j o o' d ho ho' hd hd' => by
              rcases Nat.lt_trichotomy i j with h1 | h1 | h1
              · exact (dist0 j i o' o d h1 ho' ho hd' hd).elim
              · exact h1
              · exact (dist0 i j o o' d h1 ho ho' hd hd').elim
            have hlen : sg.length = pl.sp.length := t2
            have hrank : ∀ i, i ≤ its.length → ∃ p, hs[rankV its i]? = some p := fun i hi => ⟨_, List.getElem?_eq_getElem (by rw [hF.hlen]; have := rankV_mono its hi; omega)⟩
            have hb : ∀ (i : Nat) (it : IV), its[i]? = some it → it.ef = true → ∃ p q, hs[rankV its i]? = some p ∧ hs[rankV its i + 1]? = some q ∧ b0of its hs i = p.2 ∧ b1of its hs i = q.2 ∧ p.2 ≤ q.2 := fun i it hit hef => by
              have hil : i < its.length := (List.getElem?_eq_some_iff.1 hit).1
              obtain ⟨p, hp⟩ := hrank i (by omega)
              have hlt := rankV_lt (j := its.length) hil hit hef
              obtain ⟨q, hq⟩ : ∃ q, hs[rankV its i + 1]? = some q := ⟨_, List.getElem?_eq_getElem (by rw [hF.hlen]; omega)⟩
              exact ⟨p, q, hp, hq, by unfold b0of; rw [hp], by unfold b1of; rw [hq], monoX_ok hs hmono _ _ p q (by omega) hp hq⟩
            have hplan : PlanX l (toIX its hs) sg pl.m (dnF pl.dn) (dnF pl.un) := by
              refine ⟨by unfold toIX; rw [List.length_mapIdx]; exact hF.len, up, dist, fun i s ix g hix hef hg => ?_, fun i s o ix ho hix hef hs' hall => ?_, fun i s ix hix hef hs' hall => ?_, fun i j ix jx hix hjx hef hjf hne => ?_, fun s g hg hall => ?_, fun i o j b ho hgd => ?_⟩
              · obtain ⟨it, hit, rfl⟩ := toIX_some hix
                obtain ⟨o, ho⟩ := o_of i it hit
                obtain ⟨k, ks, it', hp, hit', hk, hc⟩ := one i o ho
                rw [hit] at hit'
                obtain rfl := Option.some.inj hit'
                unfold chkX1 at hc
                simp only [Bool.and_eq_true] at hc
                have h3 := hc.1.1.1.1.2
                rw [if_pos (by rw [← hk]; exact hef)] at h3
                obtain ⟨q, hq, hqe, _⟩ := q_of s g hg
                have := List.all_eq_true.1 h3 s (List.mem_range.2 (List.getElem?_eq_some_iff.1 hq).1)
                rw [hq] at this
                simp only [Bool.and_eq_true, Bool.or_eq_true, Bool.not_eq_true'] at this
                rw [hqe]
                exact ⟨fun hmem => this.1.resolve_left (by simp [hmem]), fun hmem => this.2.resolve_left (by simp [hmem])⟩
              · obtain ⟨it, hit, rfl⟩ := toIX_some hix
                obtain ⟨k, ks, it', hp, hit', hk, hc⟩ := one i o ho
                rw [hit] at hit'
                obtain rfl := Option.some.inj hit'
                unfold chkX1 at hc
                simp only [Bool.and_eq_true] at hc
                have h3 := hc.1.1.1.1.2
                have hef : it.ef = false := hef
                rw [if_neg (by rw [← hk, hef]; simp)] at h3
                have := List.all_eq_true.1 h3 s (List.mem_range.2 (by rw [← hlen]; exact hs'))
                simp only [Bool.and_eq_true, Bool.or_eq_true, Bool.not_eq_true'] at this
                refine this.1.resolve_left fun e => ?_
                have e2 : ((edges o).all fun p => dnF pl.dn p s) = true := List.all_eq_true.2 hall
                rw [e2] at e
                cases e
              · obtain ⟨it, hit, rfl⟩ := toIX_some hix
                obtain ⟨o, ho⟩ := o_of i it hit
                obtain ⟨k, ks, it', hp, hit', hk, hc⟩ := one i o ho
                rw [hit] at hit'
                obtain rfl := Option.some.inj hit'
                unfold chkX1 at hc
                simp only [Bool.and_eq_true] at hc
                have h3 := hc.1.1.1.1.2
                have hef : it.ef = false := hef
                rw [if_neg (by rw [← hk, hef]; simp)] at h3
                have := List.all_eq_true.1 h3 s (List.mem_range.2 (by rw [← hlen]; exact hs'))
                simp only [Bool.and_eq_true, Bool.or_eq_true, Bool.not_eq_true'] at this
                refine this.2.resolve_left fun e => ?_
                rw [← Bool.not_eq_true, List.all_eq_true] at e
                refine e fun j hj => ?_
                cases hj' : l[j]? with
                | none => rfl
                | some o' =>
                  simp only [Bool.or_eq_true, Bool.not_eq_true']
                  by_cases hmem : i ∈ edges o'
                  · exact .inr (hall j o' hj' hmem)
                  · exact .inl (by simpa using hmem)
              · obtain ⟨it, hit, rfl⟩ := toIX_some hix
                obtain ⟨jt, hjt, rfl⟩ := toIX_some hjx
                obtain ⟨p, q, p1, p2, p3, p4, p5⟩ := hb i it hit hef
                obtain ⟨p', q', r1, r2, r3, r4, r5⟩ := hb j jt hjt hjf
                show b1of its hs i ≤ b0of its hs j ∨ b1of its hs j ≤ b0of its hs i
                rcases Nat.lt_or_ge i j with hij | hij
                · have := rankV_lt hij hit hef
                  rw [p4, r3]
                  exact .inl (monoX_ok hs hmono _ _ q p' this p2 r1)
                · have := rankV_lt (show j < i by omega) hjt hjf
                  rw [r4, p3]
                  exact .inr (monoX_ok hs hmono _ _ q' p this r2 p1)
              · obtain ⟨q, hq, hqe, _⟩ := q_of s g hg
                have := List.all_eq_true.1 cC s (List.mem_range.2 (List.getElem?_eq_some_iff.1 hq).1)
                rw [hq] at this
                simp only [Bool.or_eq_true] at this
                rcases this with h1 | h1
                · exact Nat.eq_of_beq_eq_true h1
                · rw [List.any_eq_true] at h1
                  obtain ⟨i, hi, h2⟩ := h1
                  simp only [Bool.and_eq_true, Bool.not_eq_true'] at h2
                  have hil : i < its.length := by rw [← hF.plen]; exact List.mem_range.1 hi
                  obtain ⟨it, hit⟩ : ∃ it, its[i]? = some it := ⟨_, List.getElem?_eq_getElem hil⟩
                  obtain ⟨p, hp⟩ : ∃ p, pl.its[i]? = some p := ⟨_, List.getElem?_eq_getElem (by rw [hF.plen]; exact hil)⟩
                  have hef : it.ef = true := by
                    rw [(hefp i p it hp hit).1]
                    have := h2.1
                    unfold isEf at this
                    rw [hp] at this
                    exact this
                  have := hall i _ (by rw [toIX_get, hit]; rfl) hef
                  rw [hqe] at this
                  rw [List.contains_iff_mem.2 this] at h2
                  cases h2.2
              · obtain ⟨k, ks, it, _, _, _, hc⟩ := one i o ho
                unfold chkX1 at hc
                simp only [Bool.and_eq_true] at hc
                have h6 := hc.1.1.2
                rw [hgd] at h6
                simp only [Bool.and_eq_true] at h6
                refine ⟨by simpa using h6.1, ?_⟩
                cases ho' : l[j]? with
                | none => rw [ho'] at h6; cases h6.2
                | some o' =>
                  rw [ho'] at h6
                  obtain ⟨d, hd⟩ := Option.isSome_iff_exists.1 h6.2
                  exact ⟨o', d, rfl, hd⟩
            have hsees : SeesX l (toIX its hs) st.tm := by
              intro i o ix x ho hix
              obtain ⟨it, hit, rfl⟩ := toIX_some hix
              obtain ⟨k, ks, it', hp, hit', hk, hc⟩ := one i o ho
              rw [hit] at hit'
              obtain rfl := Option.some.inj hit'
              rcases hF.sees i (k, ks) it x hp hit with e | ⟨e1, e2, e3⟩
              · exact .inl e
              · refine .inr ?_
                unfold chkX1 at hc
                simp only [Bool.and_eq_true] at hc
                have := List.all_eq_true.1 hc.1.1.1.2 x e1
                rw [Bool.or_eq_true] at this
                rcases this with h5 | h5
                · rw [List.any_eq_true] at h5
                  obtain ⟨p, hp1, h5⟩ := h5
                  cases ho' : l[p]? with
                  | none => rw [ho'] at h5; cases h5
                  | some o' =>
                    rw [ho'] at h5
                    have hd := dstIs_iff.1 h5
                    obtain ⟨_, _, jt, _, hjt, _, _⟩ := one p o' ho'
                    have hpi := up i o ho p hp1
                    refine .inl ⟨p, hp1, o', _, ho', by rw [toIX_get, hjt]; rfl, hd, ?_⟩
                    exact e2 p o' jt hpi ho' hjt hd (fun k' o'' hk1 hk2 ho'' hd'' => by have := dist p k' o' o'' x ho' ho'' hd hd''; omega)
                · rw [List.all_eq_true] at h5
                  have key : ∀ (j : Nat) (o' : Oper), l[j]? = some o' → o'.dst = some x → i ∈ edges o' := fun j o' hj hd => by
                    have := h5 o' (List.mem_of_getElem? hj)
                    rw [dstIs_iff.2 hd] at this
                    simpa using this
                  exact .inr ⟨e3 fun j o' hj ho' hd => by have := up j o' ho' i (key j o' ho' hd); omega, key⟩
            have hE : ∀ x, tget st1.tm x = entX l (toIX its hs) st.tm x := fun x => by
              obtain ⟨e1, e2⟩ := entX_spec l (toIX its hs) st.tm x hplan.len dist
              by_cases hx : ∃ (i : Nat) (o : Oper), l[i]? = some o ∧ o.dst = some x
              · obtain ⟨i, o, ho, hx⟩ := hx
                obtain ⟨_, _, it, _, hit, _, _⟩ := one i o ho
                rw [e1 i o _ ho (by rw [toIX_get, hit]; rfl) hx]
                exact hF.val i o it x ho hit hx (fun j o' hij hj hd => by have := dist i j o o' x ho hj hx hd; omega)
              · rw [e2 (fun i o ho hx' => hx ⟨i, o, ho, hx'⟩)]
                exact hF.old x (fun i o ho hx' => hx ⟨i, o, ho, hx'⟩)
            -- the text's own stages
            have htp : ∀ (k s : Nat), pl.tp[k]? = some s → ∃ g, sg[s]? = some g ∧ hs[k]? = some (g.h, g.x) := fun k s hk => by
              have := List.all_eq_true.1 cE k (List.mem_range.2 (List.getElem?_eq_some_iff.1 hk).1)
              rw [hk] at this
              simp only [] at this
              split at this
              · rename_i e k' hq
                have e1 := Nat.eq_of_beq_eq_true this
                subst e1
                obtain ⟨g, hg, _, h2⟩ := g_of s _ hq
                exact ⟨g, hg, h2 rfl⟩
              · cases this
            have hm1 : pl.tp[rankV its its.length]? = some pl.m := by
              have := cG
              rw [← hF.plen, ← hrk]
              split at this
              · rename_i s hs'; rw [hs', Nat.eq_of_beq_eq_true this]
              · cases this
            obtain ⟨gm, hgm1, hgm2⟩ := htp _ _ hm1
            have hgl := hF.last
            rw [hgm2] at hgl
            obtain ⟨e1, e2⟩ := Prod.mk.inj (Option.some.inj hgl)
            have h00 : sg[0]? = some ⟨[], st.h, st.nx⟩ := by
              have := cF
              split at this
              · rename_i htp0 hsp0
                obtain ⟨g, hg, hge, hg2⟩ := g_of 0 _ hsp0
                have := hg2 rfl
                rw [hF.zero] at this
                obtain ⟨k1, k2⟩ := Prod.mk.inj (Option.some.inj this)
                rw [hg]
                obtain ⟨ge, gh, gx⟩ := g
                simp only at hge k1 k2
                rw [hge, k1, k2]
              · cases this
            refine aw_drawX hm hplan hsees (fun o ho d hd => ?_) hE (fun i ix hix hef => ?_) (fun i s o ho hs' hall hun => ?_) h00 rfl hgm1 (by rw [e1, e2]; exact hQ)
            · have := List.all_eq_true.1 hdn o ho
              exact dstOK_ok this d hd
            · obtain ⟨it, hit, rfl⟩ := toIX_some hix
              obtain ⟨p, q, p1, p2, p3, p4, p5⟩ := hb i it hit hef
              show st.nx ≤ b0of its hs i ∧ b0of its hs i ≤ b1of its hs i
              rw [p3, p4]
              exact ⟨monoX_ok hs hmono _ _ _ p (Nat.zero_le _) hF.zero p1, p5⟩
            · intro o' ix g ho' hix hg
              rw [ho] at ho'
              obtain rfl := Option.some.inj ho'
              obtain ⟨it, hit, rfl⟩ := toIX_some hix
              obtain ⟨k, ks, it', hp, hit', hk, hc⟩ := one i o ho
              rw [hit] at hit'
              obtain rfl := Option.some.inj hit'
              unfold chkX1 at hc
              simp only [Bool.and_eq_true] at hc
              have hcov := List.all_eq_true.1 hc.1.2 s (List.mem_range.2 (by rw [← hlen]; exact hs'))
              have hnext := hc.2
              have hK := hF.known i o it ho hit
              obtain ⟨r, hG, hrT, hrF⟩ := hK
              have hall' : ((edges o).all fun p => dnF pl.dn p s) = true := List.all_eq_true.2 hall
              rw [hall', hun] at hcov
              simp only [Bool.not_true, Bool.false_or, Bool.or_eq_true] at hcov
              -- the text's own place
              have own : (∃ s', pl.tp[rankV its i]? = some s' ∧ s = s') → (r = true → RunX P o.op i ⟨it.v, it.ef, b0of its hs i, b1of its hs i, it.tm⟩ it.tm sg g) ∧
                  (r = false → it.ef = true → ∃ (s' : Nat) (g' : SG), sg[s']? = some g' ∧ (∀ j, j ∈ g'.e ↔ j ∈ g.e ∨ j = i) ∧ g'.h = g.h ∧ g.x ≤ g'.x) := by
                rintro ⟨s', hs1, rfl⟩
                obtain ⟨g1, hg1, hg2⟩ := htp _ _ hs1
                rw [hg] at hg1
                obtain rfl := Option.some.inj hg1
                have nxt : it.ef = true → ∃ (s' : Nat) (g' : SG), sg[s']? = some g' ∧ (∀ j, j ∈ g'.e ↔ j ∈ g.e ∨ j = i) ∧ hs[rankV its i + 1]? = some (g'.h, g'.x) := fun hef => by
                  rw [← hk, hef] at hnext
                  simp only [Bool.not_true, Bool.false_or] at hnext
                  rw [hrk, hs1] at hnext
                  split at hnext
                  · rename_i a b ha hb'
                    obtain rfl := Option.some.inj ha
                    split at hnext
                    · rename_i q q' hq hq'
                      obtain ⟨g', hg', _⟩ := htp _ _ hb'
                      obtain ⟨_, h2⟩ := htp _ _ hb'
                      obtain ⟨g3, hg3, hge3, _⟩ := g_of b q' hq'
                      obtain ⟨g4, hg4, hge4, _⟩ := g_of s q hq
                      rw [hg] at hg4
                      obtain rfl := Option.some.inj hg4
                      obtain ⟨g5, hg5, hg6⟩ := htp _ _ hb'
                      rw [hg3] at hg5
                      obtain rfl := Option.some.inj hg5
                      refine ⟨b, g3, hg3, fun j => ?_, hg6⟩
                      rw [hge3, hge4, sameS_ok hnext j, List.mem_cons]
                      exact ⟨fun h => h.elim .inr .inl, fun h => h.elim .inr .inl⟩
                    · cases hnext
                  · cases hnext
                refine ⟨fun hr => ?_, fun hr hef => ?_⟩
                · obtain ⟨⟨H, X, k1, k2⟩, _⟩ := hrT hr
                  rw [hg2] at k1
                  obtain ⟨rfl, rfl⟩ := Prod.mk.inj (Option.some.inj k1)
                  unfold RunX
                  show (if it.ef = true then _ else _)
                  cases hef : it.ef with
                  | true =>
                    rw [hef] at k2
                    simp only [if_true] at k2 ⊢
                    obtain ⟨H', X', k3, k4⟩ := k2
                    obtain ⟨s', g', n1, n2, n3⟩ := nxt hef
                    rw [n3] at k3
                    obtain ⟨rfl, rfl⟩ := Prod.mk.inj (Option.some.inj k3)
                    refine ⟨s', g', n1, n2, .inl ?_⟩
                    have b0e : b0of its hs i = g.x := by unfold b0of; rw [hg2]
                    have b1e : b1of its hs i = g'.x := by unfold b1of; rw [n3]
                    exact ⟨Nat.le_of_eq b0e.symm, b1e.symm, by show OpOK P o.op ⟨it.tm, g.h, b0of its hs i⟩ it.v g'.h g'.x; rw [b0e]; exact k4⟩
                  | false =>
                    rw [hef] at k2
                    simp only [Bool.false_eq_true, if_false] at k2 ⊢
                    exact k2
                · obtain ⟨_, k5⟩ := hrF hr
                  obtain ⟨H, X, k1, k2⟩ := k5 hef
                  rw [hg2] at k1
                  obtain ⟨rfl, rfl⟩ := Prod.mk.inj (Option.some.inj k1)
                  obtain ⟨s', g', n1, n2, n3⟩ := nxt hef
                  rw [n3] at k2
                  obtain ⟨e5, e6⟩ := Prod.mk.inj (Option.some.inj k2)
                  exact ⟨s', g', n1, n2, e5, Nat.le_of_eq e6.symm⟩
              -- another place
              have oth : (∃ q ∈ pl.ex, q.1 = i ∧ q.2.1 = s) → match o.guard with
                  | none => RunX P o.op i ⟨it.v, it.ef, b0of its hs i, b1of its hs i, it.tm⟩ it.tm sg g
                  | some (j, b) => ∃ r w, its[j]? = some r ∧ gv r.v = some w ∧ (w = some b → RunX P o.op i ⟨it.v, it.ef, b0of its hs i, b1of its hs i, it.tm⟩ it.tm sg g) ∧
                    (w ≠ some b → it.ef = true → ∃ (s' : Nat) (g' : SG), sg[s']? = some g' ∧ (∀ j, j ∈ g'.e ↔ j ∈ g.e ∨ j = i) ∧ g'.h = g.h ∧ g.x ≤ g'.x) := by
                rintro ⟨⟨qi, qs, qt⟩, hq, rfl, rfl⟩
                have h1 := exOK_ok hcf (List.all_eq_true.1 hex _ hq) ho hit hg
                have hmem : it.ef = true → ∀ g', sg[qt]? = some g' → ∀ j, j ∈ g'.e ↔ j ∈ g.e ∨ j = qi := fun hef g' hg' j => by
                  have := List.all_eq_true.1 cD _ hq
                  simp only [] at this
                  split at this
                  · rename_i r1 r2 hr1 hr2
                    have hie : isEf pl qi = true := by
                      unfold isEf
                      rw [hp]
                      show Nat.ble 2 k = true
                      rw [← hk]; exact hef
                    rw [hie] at this
                    simp only [Bool.not_true, Bool.false_or] at this
                    obtain ⟨g3, hg3, hge3, _⟩ := g_of qt r2 hr2
                    obtain ⟨g4, hg4, hge4, _⟩ := g_of qs r1 hr1
                    rw [hg] at hg4
                    obtain rfl := Option.some.inj hg4
                    rw [hg'] at hg3
                    obtain rfl := Option.some.inj hg3
                    rw [hge3, hge4, sameS_ok this j, List.mem_cons]
                    exact ⟨fun h => h.elim .inr .inl, fun h => h.elim .inr .inl⟩
                  · cases this
                have conv : ExX P its hs sg qi qt o it g → RunX P o.op qi ⟨it.v, it.ef, b0of its hs qi, b1of its hs qi, it.tm⟩ it.tm sg g := fun hx => by
                  unfold ExX at hx
                  unfold RunX
                  show (if it.ef = true then _ else _)
                  cases hef : it.ef with
                  | true =>
                    rw [hef] at hx
                    simp only [if_true] at hx ⊢
                    obtain ⟨g', hg', hx⟩ := hx
                    exact ⟨qt, g', hg', hmem hef g' hg', hx⟩
                  | false =>
                    rw [hef] at hx
                    simp only [Bool.false_eq_true, if_false] at hx ⊢
                    exact hx
                split at h1
                · exact conv h1
                · obtain ⟨r1, w, k1, k2, k3, k4⟩ := h1
                  exact ⟨r1, w, k1, k2, fun e => conv (k3 e), fun e hef => by
                    obtain ⟨g', n1, n2, n3⟩ := k4 e hef
                    exact ⟨qt, g', n1, hmem hef g' n1, n2, n3⟩⟩
              have free : k = 0 → r = true → RunX P o.op i ⟨it.v, it.ef, b0of its hs i, b1of its hs i, it.tm⟩ it.tm sg g := fun hk0 hr => by
                obtain ⟨_, k2⟩ := hrT hr
                obtain ⟨k3, k4⟩ := k2 ((hefp i (k, ks) it hp hit).2 hk0)
                unfold RunX
                show (if it.ef = true then _ else _)
                rw [k3]
                simp only [Bool.false_eq_true, if_false]
                exact k4 _
              have sk0 : k = 0 → it.ef = true → False := fun hk0 hef => by rw [hk, hk0] at hef; cases hef
              cases hgd : o.guard with
              | none =>
                rw [hgd] at hG
                have hG : r = true := hG
                simp only []
                rcases hcov with (h1 | h1) | h1
                · exact free (Nat.eq_of_beq_eq_true h1) hG
                · refine (own ?_).1 hG
                  rw [hrk] at h1
                  split at h1
                  · rename_i s' hs1; exact ⟨s', hs1, Nat.eq_of_beq_eq_true h1⟩
                  · cases h1
                · rw [List.any_eq_true] at h1
                  obtain ⟨q, hq, h1⟩ := h1
                  simp only [Bool.and_eq_true] at h1
                  have := oth ⟨q, hq, Nat.eq_of_beq_eq_true h1.1, Nat.eq_of_beq_eq_true h1.2⟩
                  rw [hgd] at this
                  exact this
              | some jb =>
                obtain ⟨j, b⟩ := jb
                rw [hgd] at hG
                obtain ⟨qv, w, hqv, hw, hrw⟩ := hG
                have hqx : ∃ q, (toIX its hs)[j]? = some q ∧ gv q.v = some w := ⟨_, by rw [toIX_get, hqv]; rfl, hw⟩
                have hvn : w ≠ some b → it.v = .tup [] := fun e => (hrF (by rw [hrw]; simpa using e)).1
                simp only []
                rcases hcov with (h1 | h1) | h1
                · have hk0 := Nat.eq_of_beq_eq_true h1
                  exact ⟨w, hqx, fun e => free hk0 (by rw [hrw, e]; simp), fun e => ⟨hvn e, fun hef => (sk0 hk0 hef).elim⟩⟩
                · rw [hrk] at h1
                  split at h1
                  · rename_i s' hs1
                    obtain ⟨k1, k2⟩ := own ⟨s', hs1, Nat.eq_of_beq_eq_true h1⟩
                    exact ⟨w, hqx, fun e => k1 (by rw [hrw, e]; simp), fun e => ⟨hvn e, k2 (by rw [hrw]; simpa using e)⟩⟩
                  · cases h1
                · rw [List.any_eq_true] at h1
                  obtain ⟨q, hq, h1⟩ := h1
                  simp only [Bool.and_eq_true] at h1
                  have := oth ⟨q, hq, Nat.eq_of_beq_eq_true h1.1, Nat.eq_of_beq_eq_true h1.2⟩
                  rw [hgd] at this
                  obtain ⟨r1, w1, k1, k2, k3, k4⟩ := this
                  rw [hqv] at k1
                  obtain rfl := Option.some.inj k1
                  rw [hw] at k2
                  obtain rfl := Option.some.inj k2
                  exact ⟨w, hqx, k3, fun e => ⟨hvn e, k4 e⟩⟩
          · cases h
        · cases h
      · cases h
    · cases h
  · cases h

theorem loopN_ok {self : Self} (hs : RunOK P self) {n f : Nat} {x : Code} {ks : List Nat} {m : Nat} : ∀ (k : Nat) (st : St) (e : Exit) (st' : St), loopN (fun st => self n f x st) ks m k st = some (e, st') → ∀ c Q, Q e st' → LW P c n x Q st := by
  intro k
  induction k with
  | zero => intro st e st' h; simp only [loopN, reduceCtorEq] at h
  | succ k ih =>
    intro st e st' h c Q hQ
    simp only [loopN] at h
    split at h
    · rename_i st1 h1
      split at h
      · rename_i tm1 htm
        rw [forceL_eq] at h
        have hrest := ih _ _ _ h c Q hQ
        refine lw_round (hs _ _ _ _ _ _ h1 _ _ ?_)
        show LW P c n x Q st1
        intro ρ S a w hr
        exact hrest ρ S a w (hr.drop (selF_ok _ _ htm) (gcH_get _ _ _))
      · cases h
    · rename_i hne
      refine lw_round (hs _ _ _ _ _ _ h _ _ ?_)
      cases e with
      | normal => exact (hne st' h).elim
      | exit id => exact hQ
      | goto l => exact hQ
      | ret => exact hQ
      | panic ch => exact hQ
      | outgrown => exact hQ

theorem runStep_ok {T : Cfg} (hw : ∀ cf, CFok P cf → CFok P (T.wrap cf)) (hm : P.follows .mixedOrders = true) {self : Self} (hs : RunOK P self) : RunOK P (runStep P T self) := by
  intro n f code st e st' h c Q hQ
  unfold runStep at h
  split at h
  · simp only [Option.some.injEq, Prod.mk.injEq] at h; obtain ⟨rfl, rfl⟩ := h; exact aw_skip hQ
  · simp only [Option.some.injEq, Prod.mk.injEq] at h; obtain ⟨rfl, rfl⟩ := h; exact aw_exit hQ
  · simp only [Option.some.injEq, Prod.mk.injEq] at h; obtain ⟨rfl, rfl⟩ := h; exact aw_ret hQ
  · rename_i x y
    split at h
    · rename_i st1 h1
      exact aw_seq (hs _ _ _ _ _ _ h1 _ _ (hs _ _ _ _ _ _ h _ _ hQ))
    · rename_i hne
      refine aw_seq (hs _ _ _ _ _ _ h _ _ ?_)
      cases e with
      | normal => exact (hne st' h).elim
      | exit id => exact hQ
      | goto l => exact hQ
      | ret => exact hQ
      | panic ch => exact hQ
      | outgrown => exact hQ
  · rename_i id x
    split at h
    · rename_i id' st1 h1
      refine aw_block (hs _ _ _ _ _ _ h1 _ _ ?_)
      show (if id' = id then Q .normal st1 else Q (.exit id') st1)
      split at h
      · rename_i he
        rw [if_pos (Nat.eq_of_beq_eq_true he)]
        simp only [Option.some.injEq, Prod.mk.injEq] at h; obtain ⟨rfl, rfl⟩ := h; exact hQ
      · rename_i he
        rw [if_neg (fun e => he (by rw [e]; exact Nat.beq_refl _))]
        simp only [Option.some.injEq, Prod.mk.injEq] at h; obtain ⟨rfl, rfl⟩ := h; exact hQ
    · rename_i hne
      refine aw_block (hs _ _ _ _ _ _ h _ _ ?_)
      cases e with
      | exit id' => exact (hne id' st' h).elim
      | normal => exact hQ
      | goto l => exact hQ
      | ret => exact hQ
      | panic ch => exact hQ
      | outgrown => exact hQ
  · split at h
    · rename_i ho; exact aw_yes (oeO ho) (hs _ _ _ _ _ _ h _ _ hQ)
    · rename_i ho; exact aw_no (oeO ho) (hs _ _ _ _ _ _ h _ _ hQ)
    · cases h
  · exact lw_loop (loopN_ok hs _ _ _ _ h _ _ hQ)
  · rename_i id ops
    split at h
    · rename_i pl hpl
      split at h
      · rename_i st1 h1
        simp only [Option.some.injEq, Prod.mk.injEq] at h
        obtain ⟨rfl, rfl⟩ := h
        have := drawn_ok (hw _ (callFn_ok hs)) hm (c := c) (id := id) h1 hQ
        simpa using this
      · cases h
    · cases h
  · rename_i id ops
    split at h
    · rename_i st1 h1
      simp only [Option.some.injEq, Prod.mk.injEq] at h
      obtain ⟨rfl, rfl⟩ := h
      have := aw_region (id := id) (runOps_ok (hw _ (callFn_ok hs)) (c := c) _ _ _ h1 hQ)
      simpa using this
    · cases h
  · cases h

theorem run_ok {T : Cfg} (hw : ∀ cf, CFok P cf → CFok P (T.wrap cf)) (hm : P.follows .mixedOrders = true) (n : Nat) : RunOK P (run P T n) := by
  induction n with
  | zero => intro n f code st e st' h; cases h
  | succ n ih => exact runStep_ok hw hm ih

/-- What a run comes to is what a call comes to. -/
theorem runF_ok {T : Cfg} (hw : ∀ cf, CFok P cf → CFok P (T.wrap cf)) (hm : P.follows .mixedOrders = true) (n : Nat) : CFok P (runF P T n) := hw _ (callFn_ok (run_ok hw hm n))

/-- What is known of a call out of what an operation does. -/
theorem AC.of_op {f : FuncId} {fn : Func} (hf : P.funcs[f]? = some fn) (hn : (fn.name == "runtime.NumGoroutine") = false ∧ fn.body.isNone = false) {args : List AV} {h : Heap} {nx : Nat} {r : AV} {h' : Heap} {nx' : Nat} (hdom : h.all (fun p => p.1 < nx) = true) (hle : nx ≤ nx')
    (hop : OpOK P (.call { callee := .value (.func f), args := ((List.range args.length).map fun i => Operand.tmp i).toArray, argTypes := #[] }) ⟨argTm args, h, nx⟩ r h' nx') (al : Bool) (hal : al = true ∨ (r.nosl = true ∧ h'.all (fun p => p.2.nosl) = true)) :
    AC P f args h nx al (fun a b c => a = r ∧ b = h' ∧ c = nx') := by
  intro ρ S w vals hsim hfresh hargs
  have hrep : Rep ⟨w, Own ρ h, S, ρ, nx⟩ vals.size ⟨argTm args, h, nx⟩ ρ S { tmps := vals, defers := [] } w := by
    have hsz := hargs.1
    refine ⟨rfl, rfl, fun i => ?_, hsim, ⟨rfl, rfl, rfl, Nat.le_refl _, fun _ _ _ => rfl, fun _ h => h, fun _ h => .inl h, fun b B r h1 h2 => .inl ⟨b, B, r, h1, h2, rfl⟩, fun _ _ => rfl⟩, hfresh, Nat.le_refl _, fun b B hb => by simpa using hall_get hdom hb⟩
    rw [tget_argTm, if_pos (Nat.zero_le _), Nat.sub_zero]
    by_cases hi : i < args.length
    · have h1 : args[i]? = some args[i] := List.getElem?_eq_getElem hi
      have h2 : i < vals.size := by omega
      rw [h1]
      have h3 : vals.getD i undef = vals[i] := by simp [Array.getD_eq_getD_getElem?, h2]
      rw [h3]
      exact hargs.2 i _ _ h1 (by simp [h2])
    · rw [List.getElem?_eq_none (by omega)]
      exact .top
  have hd := hop _ _ ρ S _ w hrep ⟨none, _, 0, "", #[], none⟩ rfl
  unfold Does at hd
  have hv : (((List.range args.length).map fun i => Operand.tmp i).toArray.map (Act.eval { tmps := vals, defers := [] })) = vals := by
    refine Array.ext_getElem? fun i => ?_
    have hsz := hargs.1
    by_cases hi : i < args.length
    · have h2 : i < vals.size := by omega
      simp [hi, h2, Act.eval, Array.getD_eq_getD_getElem?]
    · have h2 : ¬ i < vals.size := by omega
      simp [hi, h2]
  have hrun : (execOp (Act.eval { tmps := vals, defers := [] }) ⟨none, .call { callee := .value (.func f), args := ((List.range args.length).map fun i => Operand.tmp i).toArray, argTypes := #[] }, 0, "", #[], none⟩).run P w = .ok (.enter f vals) w := by
    unfold execOp
    have he : Act.eval { tmps := vals, defers := [] } (.func f) = .func (.func f) #[] #[] := rfl
    simp only [resolve, he, Deferred.ofValue, Sem.run_bind, Sem.run_pure, Result.andThen_ok, invoke, hv]
    have := AC.calls (P := P) hf hn (#[] ++ vals ++ #[]) w
    simpa using this
  rw [hrun] at hd
  simp only [] at hd
  refine Calls.mono hd ?_
  rintro e w' ⟨v, rfl, ρ', S', hr, hvr, hext, hS⟩
  have hp := hr.post
  have hown : ∀ b, Own ρ' h' b → Own ρ h b ∨ w.heap.size ≤ b := by
    rintro b ⟨i, B, r, h1, h2, rfl⟩
    exact hp.own i B r h1 h2
  rcases hal with hal | ⟨hn1, hn2⟩
  · exact ⟨v, r, h', nx', ρ', S', rfl, ⟨rfl, rfl, rfl⟩, hvr, hr.sim, hr.fresh, hr.dom, hp.os, hp.tape, hp.output, hp.size, hp.keep, hown, fun b hb => (hp.sNew b hb).imp (fun h => ⟨hal, h⟩) id, hp.ids⟩
  · refine ⟨v, r, h', nx', ρ', fun b => S' b ∧ w.heap.size ≤ b, rfl, ⟨rfl, rfl, rfl⟩, hvr.nosl hn1, ⟨fun b B hb => ?_, hr.sim.inj, fun b hb => hr.sim.lt b hb.1⟩, hr.fresh, hr.dom, hp.os, hp.tape, hp.output, hp.size, hp.keep, hown, fun b hb => .inr hb.2, hp.ids⟩
    rcases hr.sim.blk b B hb with ⟨q, h1, h2, h3, h4⟩ | hv
    · exact .inl ⟨q, h1, h2.nosl (hall_get hn2 hb), fun hs => h3 hs.1, h4⟩
    · exact .inr hv

theorem lendCF_ok {pu : Nat → Bool} {cf : CF} (hcf : CFok P cf) : CFok P (lendCF pu cf) := by
  intro f args h nx r h' nx' he
  unfold lendCF at he
  split at he
  · exact hcf _ _ _ _ _ _ _ he
  · rename_i p t
    split at he
    · split at he
      · rename_i u largs hl
        split at he
        · rename_i r0 h0 n0 hr
          split at he
          · rename_i hc
            rw [forceL_eq] at he
            simp only [Bool.and_eq_true] at hc
            obtain ⟨hns, hdm⟩ := hc
            simp only [Option.some.injEq, Prod.mk.injEq] at he
            obtain ⟨rfl, rfl, rfl⟩ := he
            obtain ⟨⟨fn, q1, q2, q3⟩, q4⟩ := hcf _ _ _ _ _ _ _ hr
            refine ⟨⟨fn, q1, q2, q3⟩, fun al hal => ?_⟩
            have hdom : (p :: t).all (fun p => p.1 < nx) = true := by
              rw [List.all_eq_true]
              intro x hx
              have := List.all_eq_true.1 hdm x hx
              simpa using this
            have eτ : swp [] 0 nx = fun b => b + nx := by
              funext b
              simp only [swp]
              rw [if_neg (by omega)]
            refine AC.of_op q1 ⟨q2, q3⟩ hdom (by omega) ?_ al hal
            have key := op_callg (P := P) (tm := argTm args) (h := p :: t) (nx := nx) (fo := .func f) (xs := ((List.range args.length).map fun i => Operand.tmp i).toArray) (ts := #[]) (first := []) (caps := []) [] 0 false [] [] (args := args) (largs := largs)
              (q4 false (.inr hns)) q1 ⟨q2, q3⟩ rfl ?_ rfl rfl (Nat.zero_le _) (fun p hp => by cases hp) rfl ?_ rfl rfl rfl
            · rw [eτ] at key
              intro c n ρ S a w hr o ho
              refine (key c n ρ S a w hr o ho).mono fun v w' ⟨ρ', S', k1, k2, k3, k4⟩ => ⟨ρ', S', ?_, k2, k3, k4⟩
              refine k1.drop (fun i => .inr rfl) (fun b B hb => ?_)
              rw [hget_append] at hb ⊢
              cases hx : hget (h0.map fun q => (q.1 + nx, q.2.ren fun b => b + nx)) b with
              | none =>
                rw [hx] at hb
                have hb : hget (p :: t) b = some B := by simpa using hb
                show (hget (p :: t) b).or _ = some B
                rw [hb]; rfl
              | some C =>
                rw [hx] at hb
                have hb : C = B := by simpa using hb
                subst hb
                obtain ⟨j, X, j1, j2, _⟩ := hget_map_ren h0 (fun b => b + nx) b C hx
                have hno : hget (p :: t) b = none := by
                  cases hy : hget (p :: t) b with
                  | none => rfl
                  | some D =>
                    have := hall_get hdom hy
                    simp only [decide_eq_true_eq] at this
                    omega
                show (hget (p :: t) b).or _ = some C
                rw [hno]; rfl
            · -- the arguments, in their slots
              have go : ∀ (l : List AV) (k : Nat) (pre : List AV), args = pre ++ l → pre.length = k → oevsS (argTm args) ((List.range' k l.length).map fun i => Operand.tmp i) = some l := by
                intro l
                induction l with
                | nil => intro k pre _ _; rfl
                | cons x l ih =>
                  intro k pre h1 h2
                  have hk : tgetS (argTm args) k = some x := by
                    have gen : ∀ (aa : List AV) (i j : Nat) (y : AV), aa[j]? = some y → tgetS (argTm aa i) (i + j) = some y := by
                      intro aa
                      induction aa with
                      | nil => intro i j y hy; simp at hy
                      | cons z aa ih2 =>
                        intro i j y hy
                        simp only [argTm, tgetS]
                        cases j with
                        | zero => simp only [List.getElem?_cons_zero, Option.some.injEq] at hy; subst hy; simp
                        | succ j =>
                          rw [if_neg (by omega), show i + (j + 1) = (i + 1) + j from by omega]
                          exact ih2 (i + 1) j y (by simpa using hy)
                    have := gen args 0 k x (by rw [h1, List.getElem?_append_right (by omega)]; simp [h2])
                    simpa using this
                  rw [List.length_cons, List.range'_succ, List.map_cons]
                  simp only [oevsS, oevS]
                  rw [hk, ih (k + 1) (pre ++ [x]) (by rw [h1]; simp) (by simp [h2])]
              have := go args 0 [] rfl rfl
              rw [← List.range_eq_range'] at this
              simpa using this
            · have := lends_ok _ _ _ _ hl (swp [] 0 nx)
              simpa using this
          · exact hcf _ _ _ _ _ _ _ he
        · exact hcf _ _ _ _ _ _ _ he
      · exact hcf _ _ _ _ _ _ _ he
    · exact hcf _ _ _ _ _ _ _ he

def enOK (e : EN) : Option (AV × Heap × Nat) → Bool
  | some (r, h, nx) => avEq r e.r && heapEq h e.h && Nat.beq nx e.nx
  | none => false

theorem enOK_ok {e : EN} {o : Option (AV × Heap × Nat)} (h : enOK e o = true) : o = some (e.r, e.h, e.nx) := by
  unfold enOK at h
  split at h
  · simp only [Bool.and_eq_true] at h
    rw [avEq_ok _ _ h.1.1, heapEq_ok _ _ h.1.2, Nat.eq_of_beq_eq_true h.2]
  · cases h

/-- Known calls. -/
inductive Tab (P : Program) (T : List EN → Cfg) : List EN → Prop
  | nil : Tab P T []
  | cons {e t} (n : Nat) (h : Tab P T t) (he : enOK e (runF P (T t) n e.f e.args [] 0) = true) : Tab P T (e :: t)

theorem tabCF_ok {tab : List EN} (ht : ∀ e ∈ tab, (∃ fn, P.funcs[e.f]? = some fn ∧ (fn.name == "runtime.NumGoroutine") = false ∧ fn.body.isNone = false) ∧
    ∀ al, (al = true ∨ (e.r.nosl = true ∧ e.h.all (fun p => p.2.nosl) = true)) → AC P e.f e.args [] 0 al (fun a b c => a = e.r ∧ b = e.h ∧ c = e.nx)) {cf : CF} (hcf : CFok P cf) : CFok P (tabCF tab cf) := by
  have find : ∀ (tab : List EN) f args r, tabF f args tab = some r → ∃ e ∈ tab, e.f = f ∧ e.args = args ∧ r = (e.r, e.h, e.nx) := by
    intro tab
    induction tab with
    | nil => intro f args r h; simp only [tabF, reduceCtorEq] at h
    | cons e t ih =>
      intro f args r h
      simp only [tabF] at h
      split at h
      · rename_i h1
        split at h
        · rename_i h2
          exact ⟨e, List.mem_cons_self, Nat.eq_of_beq_eq_true h1, avsEq_ok _ _ h2, (Option.some.inj h).symm⟩
        · obtain ⟨e', a, b⟩ := ih f args r h; exact ⟨e', List.mem_cons_of_mem _ a, b⟩
      · obtain ⟨e', a, b⟩ := ih f args r h; exact ⟨e', List.mem_cons_of_mem _ a, b⟩
  intro f args h nx r h' nx' he
  unfold tabCF at he
  split at he
  · split at he
    · rename_i q hq
      obtain rfl := Option.some.inj he
      obtain ⟨e, e1, rfl, rfl, e4⟩ := find _ _ _ _ hq
      simp only [Prod.mk.injEq] at e4
      obtain ⟨rfl, rfl, rfl⟩ := e4
      exact ht e e1
    · exact hcf _ _ _ _ _ _ _ he
  · exact hcf _ _ _ _ _ _ _ he

/-- The run with known calls, and whose arguments are lent. -/
def cfgT (pl : Nat → Nat → Option PL) (pu : Nat → Bool) (tab : List EN) : Cfg := ⟨pl, fun cf => lendCF pu (tabCF tab cf)⟩

theorem tab_ok (hm : P.follows .mixedOrders = true) {pl : Nat → Nat → Option PL} {pu : Nat → Bool} {tab : List EN} (h : Tab P (cfgT pl pu) tab) (n : Nat) : CFok P (runF P (cfgT pl pu tab) n) := by
  have main : ∀ e ∈ tab, (∃ fn, P.funcs[e.f]? = some fn ∧ (fn.name == "runtime.NumGoroutine") = false ∧ fn.body.isNone = false) ∧
    ∀ al, (al = true ∨ (e.r.nosl = true ∧ e.h.all (fun p => p.2.nosl) = true)) → AC P e.f e.args [] 0 al (fun a b c => a = e.r ∧ b = e.h ∧ c = e.nx) := by
    clear n
    induction h with
    | nil => intro e he; cases he
    | @cons e t n h he ih =>
      intro e' he'
      rcases List.mem_cons.1 he' with rfl | h1
      · exact runF_ok (T := cfgT pl pu t) (fun cf hcf => lendCF_ok (tabCF_ok ih hcf)) hm n _ _ _ _ _ _ _ (enOK_ok he)
      · exact ih e' h1
  exact runF_ok (T := cfgT pl pu tab) (fun cf hcf => lendCF_ok (tabCF_ok main hcf)) hm n

def okB : Option (AV × Heap × Nat) → Bool
  | some (.bool true, h, _) => h.all fun p => p.2.nosl
  | _ => false

def find1 {α : Type} : List (Nat × α) → Nat → Option α
  | [], _ => none
  | (k, p) :: u, id => match Nat.beq id k with
    | true => some p
    | false => find1 u id

def look2 (l : List (Nat × List (Nat × PL))) (f id : Nat) : Option PL :=
  match find1 l f with
  | some r => find1 r id
  | none => none

end
end Go.Proofs.Ytpggknkhldecaaa.Abs
end
section
/-
  slices.Sort of few whole numbers: by insertion.
-/
namespace Go.Proofs.Ytpggknkhldecaaa.Abs

def ints (l : List Int) : List AV := l.map (AV.int .i64)
theorem ints_len (l : List Int) : (ints l).length = l.length := List.length_map _

/-- Two neighbours turned; one let down to its place; all so far. -/
def swapL (l : List Int) (j : Nat) : List Int := (l.set (j + 1) (l.getD j 0)).set j (l.getD (j + 1) 0)
def downL : List Int → Nat → List Int
  | l, 0 => l
  | l, j + 1 => if l.getD (j + 1) 0 < l.getD j 0 then downL (swapL l j) j else l
def sortL (l : List Int) : Nat → List Int
  | 0 => l
  | i + 1 => downL (sortL l i) (i + 1)

theorem swapL_len (l : List Int) (j : Nat) : (swapL l j).length = l.length := by simp [swapL]
theorem downL_len : ∀ (j : Nat) (l : List Int), (downL l j).length = l.length := by
  intro j
  induction j with
  | zero => intro l; rfl
  | succ j ih =>
    intro l
    simp only [downL]
    split
    · rw [ih, swapL_len]
    · rfl
theorem sortL_len (l : List Int) : ∀ i, (sortL l i).length = l.length := by
  intro i
  induction i with
  | zero => rfl
  | succ i ih => rw [sortL, downL_len, ih]

theorem swapL_get (l : List Int) (j : Nat) (hj : j + 1 < l.length) (k : Nat) : (swapL l j).getD k 0 = if k = j then l.getD (j + 1) 0 else if k = j + 1 then l.getD j 0 else l.getD k 0 := by
  unfold swapL
  simp only [List.getD_eq_getElem?_getD]
  by_cases h1 : k = j
  · subst h1
    rw [if_pos rfl, List.getElem?_set_self (by simp; omega)]; rfl
  · rw [if_neg h1, List.getElem?_set_ne (fun e => h1 e.symm)]
    by_cases h2 : k = j + 1
    · subst h2
      rw [if_pos rfl, List.getElem?_set_self (by omega)]; rfl
    · rw [if_neg h2, List.getElem?_set_ne (fun e => h2 e.symm)]

theorem swapL_mem (l : List Int) (j : Nat) (hj : j + 1 < l.length) (x : Int) : x ∈ swapL l j ↔ x ∈ l := by
  have key : ∀ (m : List Int) (y : Int), y ∈ m ↔ ∃ k, k < m.length ∧ m.getD k 0 = y := fun m y => by
    constructor
    · intro h
      obtain ⟨k, hk⟩ := List.getElem?_of_mem h
      have := (List.getElem?_eq_some_iff.1 hk).1
      exact ⟨k, this, by rw [List.getD_eq_getElem?_getD, hk]; rfl⟩
    · rintro ⟨k, hk, rfl⟩
      rw [List.getD_eq_getElem?_getD, List.getElem?_eq_getElem hk]
      exact List.getElem_mem hk
  rw [key, key]
  constructor
  · rintro ⟨k, hk, h⟩
    rw [swapL_len] at hk
    rw [swapL_get l j hj] at h
    split at h
    · exact ⟨j + 1, hj, h⟩
    · split at h
      · exact ⟨j, by omega, h⟩
      · exact ⟨k, hk, h⟩
  · rintro ⟨k, hk, h⟩
    by_cases h1 : k = j
    · subst h1
      exact ⟨k + 1, by rw [swapL_len]; exact hj, by rw [swapL_get l k hj, if_neg (by omega), if_pos rfl]; exact h⟩
    · by_cases h2 : k = j + 1
      · subst h2
        exact ⟨j, by rw [swapL_len]; omega, by rw [swapL_get l j hj, if_pos rfl]; exact h⟩
      · exact ⟨k, by rw [swapL_len]; exact hk, by rw [swapL_get l j hj, if_neg h1, if_neg h2]; exact h⟩

theorem downL_mem : ∀ (j : Nat) (l : List Int), j < l.length → ∀ x, x ∈ downL l j ↔ x ∈ l := by
  intro j
  induction j with
  | zero => intro l _ x; exact Iff.rfl
  | succ j ih =>
    intro l hj x
    simp only [downL]
    split
    · rw [ih _ (by rw [swapL_len]; omega), swapL_mem l j hj]
    · exact Iff.rfl

theorem sortL_mem (l : List Int) : ∀ i, i < l.length ∨ i = 0 → ∀ x, x ∈ sortL l i ↔ x ∈ l := by
  intro i
  induction i with
  | zero => intro _ x; exact Iff.rfl
  | succ i ih =>
    intro hi x
    rw [sortL, downL_mem _ _ (by rw [sortL_len]; omega), ih (by omega)]

/-- What is let down is in order then. -/
theorem downL_up : ∀ (j m : Nat) (l : List Int), j ≤ m → m < l.length → (∀ a b, a < b → b ≤ m → a ≠ j → b ≠ j → l.getD a 0 ≤ l.getD b 0) → (∀ b, j < b → b ≤ m → l.getD j 0 ≤ l.getD b 0) → ∀ a b, a < b → b ≤ m → (downL l j).getD a 0 ≤ (downL l j).getD b 0 := by
  intro j
  induction j with
  | zero =>
    intro m l _ hm h1 h2 a b hab hb
    simp only [downL]
    by_cases ha : a = 0
    · subst ha; exact h2 b hab hb
    · exact h1 a b hab hb ha (by omega)
  | succ j ih =>
    intro m l hj hm h1 h2 a b hab hb
    simp only [downL]
    split
    · rename_i hlt
      have hs : ∀ k, (swapL l j).getD k 0 = if k = j then l.getD (j + 1) 0 else if k = j + 1 then l.getD j 0 else l.getD k 0 := swapL_get l j (by omega)
      refine ih m (swapL l j) (by omega) (by rw [swapL_len]; exact hm) (fun a b hab hb ha hb' => ?_) (fun b hjb hb => ?_) a b hab hb
      · rw [hs a, hs b, if_neg ha, if_neg hb']
        by_cases h3 : a = j + 1
        · rw [if_pos h3, if_neg (by omega)]
          exact h1 j b (by omega) hb (by omega) (by omega)
        · rw [if_neg h3]
          by_cases h4 : b = j + 1
          · rw [if_pos h4]
            exact h1 a j (by omega) (by omega) h3 (by omega)
          · rw [if_neg h4]
            exact h1 a b hab hb h3 h4
      · rw [hs j, hs b, if_pos rfl, if_neg (by omega)]
        by_cases h4 : b = j + 1
        · rw [if_pos h4]; omega
        · rw [if_neg h4]
          exact h2 b (by omega) hb
    · rename_i hge
      by_cases h3 : a = j + 1
      · subst h3; exact h2 b hab hb
      · by_cases h4 : b = j + 1
        · subst h4
          by_cases h5 : a = j
          · subst h5; omega
          · have := h1 a j (by omega) (by omega) h3 (by omega)
            omega
        · exact h1 a b hab hb h3 h4

theorem sortL_up (l : List Int) : ∀ i, i < l.length ∨ i = 0 → ∀ a b, a < b → b ≤ i → (sortL l i).getD a 0 ≤ (sortL l i).getD b 0 := by
  intro i
  induction i with
  | zero => intro _ a b h1 h2; omega
  | succ i ih =>
    intro hi a b hab hb
    rw [sortL]
    refine downL_up (i + 1) (i + 1) (sortL l i) (Nat.le_refl _) (by rw [sortL_len]; omega) (fun a b hab hb ha hb' => ?_) (fun b h1 h2 => by omega) a b hab hb
    exact ih (by omega) a b hab (by omega)

end Go.Proofs.Ytpggknkhldecaaa.Abs
end
section
/-
  slices.Sort of few whole numbers, walked.
-/
namespace Go.Proofs.Ytpggknkhldecaaa.Abs

theorem nan_int (x : Int) : AC Try.prog 114 [.int .i64 x] [] 0 false (fun v h nx => v = .bool false ∧ h = [] ∧ nx = 0) := by
  refine ac_fn Try.func114 rfl rfl rfl rfl (fun w0 S0 r0 => ?_)
  refine aw_seq ?_
  refine aw_region ?_
  refine st_p (mva rfl) rfl ?_
  refine al_nil ?_
  refine nm ?_
  refine aw_seq ?_
  refine aw_region ?_
  refine st_p (mv rfl) rfl ?_
  refine st_p (mv rfl) rfl ?_
  refine st_p (OpP.conv (op_ne rfl rfl) (no (by first | assumption | omega))) rfl ?_
  refine st_p (mva rfl) rfl ?_
  refine al_nil ?_
  refine nm ?_
  refine aw_ret ?_
  exact ret_v (res1 Try.results114) (.inr ⟨rfl, rfl⟩) ⟨rfl, rfl, rfl⟩

theorem less_int (x y : Int) : AC Try.prog 108 [.int .i64 x, .int .i64 y] [] 0 false (fun v h nx => v = .bool (decide (x < y)) ∧ h = [] ∧ nx = 0) := by
  have hx := nan_int x
  have hy := nan_int y
  by_cases h : x < y
  · rw [decide_eq_true h]
    refine ac_fn Try.func108 rfl rfl rfl rfl (fun w0 S0 r0 => ?_)
    refine aw_seq ?_
    refine aw_region ?_
    refine st_p (mva rfl) rfl ?_
    refine al_nil ?_
    refine nm ?_
    refine aw_seq ?_
    refine aw_region ?_
    refine st_p (mv rfl) rfl ?_
    -- STOP: call cmp.isNaN[int](t5) -> 6
    refine st_o ((op_callq (hx) Try.func114 ⟨rfl, rfl⟩ rfl rfl (fun nx => (.cons (.same (by rfl)) .nil)) (by rintro _ _ _ ⟨rfl, rfl, rfl⟩; exact .same rfl)).ok) rfl ?_
    refine st_p (mv rfl) rfl ?_
    refine st_s rfl rfl rfl rfl rfl ?_
    -- STOP: call cmp.isNaN[int](t8) -> 9
    refine st_s rfl rfl rfl rfl rfl ?_
    refine st_s rfl rfl rfl rfl rfl ?_
    refine st_p (pkF rfl rfl) rfl ?_
    refine st_p (mv rfl) rfl ?_
    refine st_pg rfl rfl rfl (mv rfl) rfl ?_
    refine st_pg rfl rfl rfl (mv rfl) rfl ?_
    refine st_pg rfl rfl rfl (OpP.conv (op_lt rfl rfl) (yes (by first | assumption | omega))) rfl ?_
    refine st_p (pkF rfl rfl) rfl ?_
    refine st_p (mva rfl) rfl ?_
    refine al_nil ?_
    refine nm ?_
    refine aw_ret ?_
    exact ret_v (res1 Try.results108) (.inr ⟨rfl, rfl⟩) ⟨rfl, rfl, rfl⟩
  · rw [decide_eq_false h]
    refine ac_fn Try.func108 rfl rfl rfl rfl (fun w0 S0 r0 => ?_)
    refine aw_seq ?_
    refine aw_region ?_
    refine st_p (mva rfl) rfl ?_
    refine al_nil ?_
    refine nm ?_
    refine aw_seq ?_
    refine aw_region ?_
    refine st_p (mv rfl) rfl ?_
    -- STOP: call cmp.isNaN[int](t5) -> 6
    refine st_o ((op_callq (hx) Try.func114 ⟨rfl, rfl⟩ rfl rfl (fun nx => (.cons (.same (by rfl)) .nil)) (by rintro _ _ _ ⟨rfl, rfl, rfl⟩; exact .same rfl)).ok) rfl ?_
    refine st_p (mv rfl) rfl ?_
    refine st_s rfl rfl rfl rfl rfl ?_
    -- STOP: call cmp.isNaN[int](t8) -> 9
    refine st_s rfl rfl rfl rfl rfl ?_
    refine st_s rfl rfl rfl rfl rfl ?_
    refine st_p (pkF rfl rfl) rfl ?_
    refine st_p (mv rfl) rfl ?_
    refine st_pg rfl rfl rfl (mv rfl) rfl ?_
    refine st_pg rfl rfl rfl (mv rfl) rfl ?_
    refine st_pg rfl rfl rfl (OpP.conv (op_lt rfl rfl) (no (by first | assumption | omega))) rfl ?_
    refine st_p (pkF rfl rfl) rfl ?_
    refine st_p (mva rfl) rfl ?_
    refine al_nil ?_
    refine nm ?_
    refine aw_ret ?_
    exact ret_v (res1 Try.results108) (.inr ⟨rfl, rfl⟩) ⟨rfl, rfl, rfl⟩

theorem getD_some (d : List Int) (k : Nat) (hk : k < d.length) : (ints d)[k]? = some (.int .i64 (d.getD k 0)) := by
  unfold ints
  rw [List.getElem?_map, List.getElem?_eq_getElem hk, List.getD_eq_getElem?_getD, List.getElem?_eq_getElem hk]
  rfl

theorem ren_ints (σ : Nat → Nat) (l : List Int) : (ints l).map (AV.ren σ) = ints l := by simp [ints, AV.ren, Function.comp_def]
theorem ren_intsB (σ : Nat → Nat) (l : List Int) : (Blk.cells 1 (ints l)).ren σ = .cells 1 (ints l) := by simp only [Blk.ren, ren_ints]

theorem ints_swap (d : List Int) (q : Nat) : ((ints d).set (0 + ((q + 1 : Nat) : Int).toNat) (.int .i64 (d.getD q 0))).set (0 + (((q + 1 : Nat) : Int) - 1).toNat) (.int .i64 (d.getD (q + 1) 0)) = ints (swapL d q) := by
  rw [show 0 + (((q + 1 : Nat) : Int) - 1).toNat = q by omega, Nat.zero_add, Int.toNat_natCast]
  unfold ints swapL
  rw [List.map_set, List.map_set]

set_option maxHeartbeats 4000000 in
theorem insertion (l : List Int) (hl : l.length ≤ 1000000) :
    AC Try.prog 102 [.own 0 0 l.length, .int .i64 0, .int .i64 l.length] [(0, .cells 1 (ints l))] 1 false (fun v h nx => v = .tup [] ∧ h = [(0, .cells 1 (ints (sortL l (l.length - 1))))] ∧ nx = 1) := by
  refine ac_fn Try.func102 rfl rfl rfl rfl (fun w0 S0 r0 => ?_)
  refine aw_seq ?_
  refine aw_region ?_
  refine st_p (mv rfl) rfl ?_
  refine st_p (op_addi rfl rfl (by omega)) rfl ?_
  refine st_p (mva rfl) rfl ?_
  refine al_nil ?_
  refine nm ?_
  refine aw_block ?_
  -- LOOP
  refine aw_loop (fun i : {i : Nat // 1 ≤ i ∧ (i ≤ l.length ∨ i = 1)} => ⟨[(0, .own 0 0 l.length), (1, .int .i64 0), (2, .int .i64 l.length), (6, .int .i64 i.1)], [(0, .cells 1 (ints (sortL l (i.1 - 1))))], 1⟩) (fun i => l.length - i.1) ⟨1, Nat.le_refl _, .inr rfl⟩ ?_ ?_
  · exact le_to [] rfl rfl rfl rfl rfl ⟨rfl, rfl, rfl, rfl, trivial⟩ ⟨by rw [ren_intsB]; rfl, trivial⟩
  · rintro ⟨i, h1, h2⟩
    dsimp only
    by_cases hi : i < l.length
    · skip
      refine aw_seq ?_
      refine aw_seq ?_
      refine aw_region ?_
      refine st_p (mv rfl) rfl ?_
      refine st_p (mv rfl) rfl ?_
      refine st_p (OpP.conv (op_lt rfl rfl) (yes (by first | assumption | omega))) rfl ?_
      refine al_nil ?_
      refine nm ?_
      -- IF t12
      refine aw_yes (rfl) ?_
      refine aw_skip ?_
      refine nm ?_
      refine aw_seq ?_
      refine aw_block ?_
      refine aw_seq ?_
      refine aw_region ?_
      refine st_p (mv rfl) rfl ?_
      refine st_p (mva rfl) rfl ?_
      refine al_nil ?_
      refine nm ?_
      refine aw_block ?_
      -- LOOP
      refine aw_loop (fun p : {p : Nat × List Int // p.1 ≤ i ∧ p.2.length = l.length ∧ downL p.2 p.1 = sortL l i} => ⟨[(0, .own 0 0 l.length), (1, .int .i64 0), (2, .int .i64 l.length), (6, .int .i64 i), (7, .int .i64 p.1.1)], [(0, .cells 1 (ints p.1.2))], 1⟩) (fun p => p.1.1) ⟨(i, sortL l (i - 1)), by dsimp only; refine ⟨Nat.le_refl _, sortL_len _ _, ?_⟩; obtain ⟨q, rfl⟩ : ∃ q, i = q + 1 := ⟨i - 1, by omega⟩; rfl⟩ ?_ ?_
      · exact le_to [] rfl rfl rfl rfl rfl ⟨rfl, rfl, rfl, rfl, rfl, trivial⟩ ⟨by rw [ren_intsB]; rfl, trivial⟩
      · rintro ⟨⟨j, d⟩, k1, k2, k3⟩
        dsimp only at k1 k2 k3 ⊢
        have hdl : (ints d).length = d.length := ints_len d
        cases j with
        | zero =>
          refine aw_seq ?_
          refine aw_seq ?_
          refine dr_go ?_
          refine dr_f 0 0 [7] rfl (fun H => mv rfl) ?_
          refine dr_f 0 0 [1] rfl (fun H => mv rfl) ?_
          refine dr_f 0 0 [16, 17] rfl (fun H => OpP.conv (op_gt rfl rfl) (no (by first | assumption | omega))) ?_
          refine dr_f 0 0 [18] rfl (fun H => mv rfl) ?_
          refine dr_s 0 0 0 rfl rfl rfl ?_
          refine dr_s 0 0 1 rfl rfl rfl ?_
          refine dr_s 0 0 2 rfl rfl rfl ?_
          refine dr_s 0 0 3 rfl rfl rfl ?_
          refine dr_s 0 0 4 rfl rfl rfl ?_
          refine dr_s 0 0 5 rfl rfl rfl ?_
          refine dr_s 0 0 6 rfl rfl rfl ?_
          refine dr_s 0 0 7 rfl rfl rfl ?_
          refine dr_s 0 0 8 rfl rfl rfl ?_
          -- STOP: call cmp.Less[int](t23, t28) -> 29
          refine dr_s 0 0 9 rfl rfl rfl ?_
          refine dr_f 0 0 [19, 29] rfl (fun H => pkF rfl rfl) ?_
          refine dr_end [] (by kernel_rfl) (by kernel_rfl) (by kernel_rfl) (by kernel_rfl) trivial ?_
          refine nm ?_
          -- IF t30
          refine aw_no (rfl) ?_
          refine aw_exit ?_
          refine xs ?_
          refine xs ?_
          refine xb ?_
          refine nmb ?_
          refine nm ?_
          refine aw_region ?_
          refine st_p (mv rfl) rfl ?_
          refine st_p (op_addi rfl rfl (by omega)) rfl ?_
          refine st_p (mva rfl) rfl ?_
          refine al_nil ?_
          refine nm ?_
          refine ⟨⟨i + 1, by omega, by omega⟩, by dsimp only; omega, le_to [] rfl rfl rfl rfl rfl ⟨rfl, rfl, rfl, rfl, trivial⟩ ⟨?_, trivial⟩⟩
          rw [ren_intsB, show (i + 1 - 1) = i from rfl, ← k3]; rfl
        | succ q =>
          have hx : (ints d)[0 + ((q + 1 : Nat) : Int).toNat]? = some (.int .i64 (d.getD (q + 1) 0)) := by rw [Nat.zero_add, Int.toNat_natCast]; exact getD_some d _ (by omega)
          have hy : (ints d)[0 + (((q + 1 : Nat) : Int) - 1).toNat]? = some (.int .i64 (d.getD q 0)) := by rw [show 0 + (((q + 1 : Nat) : Int) - 1).toNat = q by omega]; exact getD_some d _ (by omega)
          have hz : ((ints d).set (0 + ((q + 1 : Nat) : Int).toNat) (.int .i64 (d.getD q 0)))[0 + (((q + 1 : Nat) : Int) - 1).toNat]? = some (.int .i64 (d.getD q 0)) := by
            rw [List.getElem?_set_ne (by omega)]; exact hy
          have hless := less_int (d.getD (q + 1) 0) (d.getD q 0)
          by_cases hlt : d.getD (q + 1) 0 < d.getD q 0
          · rw [decide_eq_true hlt] at hless
            refine aw_seq ?_
            refine aw_seq ?_
            refine dr_go ?_
            refine dr_f 0 0 [7] rfl (fun H => mv rfl) ?_
            refine dr_f 0 0 [1] rfl (fun H => mv rfl) ?_
            refine dr_f 0 0 [16, 17] rfl (fun H => OpP.conv (op_gt rfl rfl) (yes (by first | assumption | omega))) ?_
            refine dr_f 0 0 [18] rfl (fun H => mv rfl) ?_
            refine dr_gf 0 0 [0] rfl (fun H => mv rfl) 0 rfl rfl ?_
            refine dr_gf 0 0 [7] rfl (fun H => mv rfl) 1 rfl rfl ?_
            refine dr_gq 0 0 [20, 21] rfl (op_indexAddr Try.underlying35 z3 rfl rfl rfl (by omega) (by omega)) 2 rfl rfl ?_
            refine dr_gq 0 0 [22] rfl (op_load1 Try.underlying3 rfl rfl rfl (by assumption) rfl) 3 rfl rfl ?_
            refine dr_gf 0 0 [0] rfl (fun H => mv rfl) 4 rfl rfl ?_
            refine dr_gf 0 0 [7] rfl (fun H => mv rfl) 5 rfl rfl ?_
            refine dr_gf 0 0 [25] rfl (fun H => op_subi rfl rfl (by omega)) 6 rfl rfl ?_
            refine dr_gq 0 0 [24, 26] rfl (op_indexAddr Try.underlying35 z3 rfl rfl rfl (by omega) (by omega)) 7 rfl rfl ?_
            refine dr_gq 0 0 [27] rfl (op_load1 Try.underlying3 rfl rfl rfl (by assumption) rfl) 8 rfl rfl ?_
            -- STOP: call cmp.Less[int](t23, t28) -> 29
            first | refine dr_s 0 0 9 rfl rfl rfl ?_ | refine dr_gfq 0 0 [23, 28] rfl (fun H => op_callq (hless) Try.func108 ⟨rfl, rfl⟩ rfl rfl (fun nx => (.cons (.same (by rfl)) (.cons (.same (by rfl)) .nil))) (by rintro _ _ _ ⟨rfl, rfl, rfl⟩; exact .same rfl)) 9 rfl rfl ?_
            refine dr_f 0 0 [19, 29] rfl (fun H => pkT rfl rfl) ?_
            refine dr_end [] (by kernel_rfl) (by kernel_rfl) (by kernel_rfl) (by kernel_rfl) trivial ?_
            refine nm ?_
            -- IF t30
            refine aw_yes (rfl) ?_
            refine aw_skip ?_
            refine nm ?_
            refine aw_seq ?_
            refine aw_block ?_
            refine dr_go ?_
            refine dr_f 0 0 [0] rfl (fun H => mv rfl) ?_
            refine dr_f 0 0 [7] rfl (fun H => mv rfl) ?_
            refine dr_f 0 1 [0] rfl (fun H => mv rfl) ?_
            refine dr_f 0 1 [7] rfl (fun H => mv rfl) ?_
            refine dr_f 0 1 [36] rfl (fun H => op_subi rfl rfl (by omega)) ?_
            refine dr_f 0 0 [0] rfl (fun H => mv rfl) ?_
            refine dr_f 0 0 [7] rfl (fun H => mv rfl) ?_
            refine dr_f 0 0 [39] rfl (fun H => op_subi rfl rfl (by omega)) ?_
            refine dr_q 0 0 [38, 40] rfl (op_indexAddr Try.underlying35 z3 rfl rfl rfl (by omega) (by omega)) ?_
            refine dr_q 0 0 [41] rfl (op_load1 Try.underlying3 rfl rfl rfl (by assumption) rfl) ?_
            refine dr_f 0 0 [0] rfl (fun H => mv rfl) ?_
            refine dr_f 0 0 [7] rfl (fun H => mv rfl) ?_
            refine dr_q 0 0 [43, 44] rfl (op_indexAddr Try.underlying35 z3 rfl rfl rfl (by omega) (by omega)) ?_
            refine dr_q 0 0 [45] rfl (op_load1 Try.underlying3 rfl rfl rfl (by assumption) rfl) ?_
            refine dr_q 0 0 [33, 34] rfl (op_indexAddr Try.underlying35 z3 rfl rfl rfl (by omega) (by omega)) ?_
            refine dr_n 0 [47, 42] rfl (st1s z3 rfl rfl rfl (by assumption) rfl rfl rfl) ?_
            refine dr_q 1 1 [35, 37] rfl (op_indexAddr Try.underlying35 z3 rfl rfl rfl (by omega) (by omega)) ?_
            refine dr_n 1 [48, 46] rfl (st1s z3 rfl rfl rfl (by assumption) rfl rfl rfl) ?_
            refine dr_end [] (by kernel_rfl) (by kernel_rfl) (by kernel_rfl) (by kernel_rfl) trivial ?_
            refine nmb ?_
            refine nm ?_
            refine aw_region ?_
            refine st_p (mv rfl) rfl ?_
            refine st_p (op_subi rfl rfl (by omega)) rfl ?_
            refine st_p (mva rfl) rfl ?_
            refine al_nil ?_
            refine nm ?_
            rw [downL, if_pos hlt] at k3
            refine ⟨⟨(q, swapL d q), by dsimp only; refine ⟨by omega, by rw [swapL_len]; exact k2, k3⟩⟩, by dsimp only; omega, le_to [] rfl rfl rfl rfl rfl ⟨rfl, rfl, rfl, rfl, ?_, trivial⟩ ⟨?_, trivial⟩⟩
            · show AV.int .i64 (((q + 1 : Nat) : Int) - 1) = AV.int .i64 (q : Int)
              congr 1
              omega
            · rw [ren_intsB, ← ints_swap]; rfl
          · rw [decide_eq_false hlt] at hless
            refine aw_seq ?_
            refine aw_seq ?_
            refine dr_go ?_
            refine dr_f 0 0 [7] rfl (fun H => mv rfl) ?_
            refine dr_f 0 0 [1] rfl (fun H => mv rfl) ?_
            refine dr_f 0 0 [16, 17] rfl (fun H => OpP.conv (op_gt rfl rfl) (yes (by first | assumption | omega))) ?_
            refine dr_f 0 0 [18] rfl (fun H => mv rfl) ?_
            refine dr_gf 0 0 [0] rfl (fun H => mv rfl) 0 rfl rfl ?_
            refine dr_gf 0 0 [7] rfl (fun H => mv rfl) 1 rfl rfl ?_
            refine dr_gq 0 0 [20, 21] rfl (op_indexAddr Try.underlying35 z3 rfl rfl rfl (by omega) (by omega)) 2 rfl rfl ?_
            refine dr_gq 0 0 [22] rfl (op_load1 Try.underlying3 rfl rfl rfl (by assumption) rfl) 3 rfl rfl ?_
            refine dr_gf 0 0 [0] rfl (fun H => mv rfl) 4 rfl rfl ?_
            refine dr_gf 0 0 [7] rfl (fun H => mv rfl) 5 rfl rfl ?_
            refine dr_gf 0 0 [25] rfl (fun H => op_subi rfl rfl (by omega)) 6 rfl rfl ?_
            refine dr_gq 0 0 [24, 26] rfl (op_indexAddr Try.underlying35 z3 rfl rfl rfl (by omega) (by omega)) 7 rfl rfl ?_
            refine dr_gq 0 0 [27] rfl (op_load1 Try.underlying3 rfl rfl rfl (by assumption) rfl) 8 rfl rfl ?_
            -- STOP: call cmp.Less[int](t23, t28) -> 29
            first | refine dr_s 0 0 9 rfl rfl rfl ?_ | refine dr_gfq 0 0 [23, 28] rfl (fun H => op_callq (hless) Try.func108 ⟨rfl, rfl⟩ rfl rfl (fun nx => (.cons (.same (by rfl)) (.cons (.same (by rfl)) .nil))) (by rintro _ _ _ ⟨rfl, rfl, rfl⟩; exact .same rfl)) 9 rfl rfl ?_
            refine dr_f 0 0 [19, 29] rfl (fun H => pkT rfl rfl) ?_
            refine dr_end [] (by kernel_rfl) (by kernel_rfl) (by kernel_rfl) (by kernel_rfl) trivial ?_
            refine nm ?_
            -- IF t30
            refine aw_no (rfl) ?_
            refine aw_exit ?_
            refine xs ?_
            refine xs ?_
            refine xb ?_
            refine nmb ?_
            refine nm ?_
            refine aw_region ?_
            refine st_p (mv rfl) rfl ?_
            refine st_p (op_addi rfl rfl (by omega)) rfl ?_
            refine st_p (mva rfl) rfl ?_
            refine al_nil ?_
            refine nm ?_
            refine ⟨⟨i + 1, by omega, by omega⟩, by dsimp only; omega, le_to [] rfl rfl rfl rfl rfl ⟨rfl, rfl, rfl, rfl, trivial⟩ ⟨?_, trivial⟩⟩
            rw [ren_intsB, show (i + 1 - 1) = i from rfl, ← k3, downL, if_neg hlt]; rfl
    · skip
      refine aw_seq ?_
      refine aw_seq ?_
      refine aw_region ?_
      refine st_p (mv rfl) rfl ?_
      refine st_p (mv rfl) rfl ?_
      refine st_p (OpP.conv (op_lt rfl rfl) (no (by first | assumption | omega))) rfl ?_
      refine al_nil ?_
      refine nm ?_
      -- IF t12
      refine aw_no (rfl) ?_
      refine aw_exit ?_
      refine xs ?_
      refine xs ?_
      refine xb ?_
      refine ret_n ⟨[], [(0, .cells 1 (ints (sortL l (i - 1))))], 1⟩ (le_to [] rfl rfl rfl rfl rfl trivial ⟨by rw [ren_intsB]; rfl, trivial⟩) (res0 Try.results102) (.inr ⟨rfl, ?_⟩) ⟨rfl, ?_, rfl⟩
      · simp [Blk.nosl, AV.nosl, ints]
      · have : i - 1 = l.length - 1 := by omega
        rw [this]


/-- A closed call, run. -/
theorem ac_run {P : Program} (hm : P.follows .mixedOrders = true) {pl : Nat → Nat → Option PL} {pu : Nat → Bool} {tab : List EN} (h : Tab P (cfgT pl pu) tab) (n : Nat) {f : FuncId} {args : List AV} {r : AV} {h' : Heap} {nx' : Nat}
    (he : runF P (cfgT pl pu tab) n f args [] 0 = some (r, h', nx')) (hn : r.nosl = true ∧ h'.all (fun p => p.2.nosl) = true) : AC P f args [] 0 false (fun a b c => a = r ∧ b = h' ∧ c = nx') :=
  (tab_ok hm h n _ _ _ _ _ _ _ he).2 false (.inr hn)

def bitsLen (n : Nat) : Int := if n = 0 then 0 else if n = 1 then 1 else if n ≤ 3 then 2 else if n ≤ 7 then 3 else 4

theorem bits_Len (n : Nat) (hn : n ≤ 12) : AC Try.prog 85 [.int .u64 (IntKind.u64.wrap (n : Int))] [] 0 false (fun v h nx => v = .int .i64 (bitsLen n) ∧ h = [] ∧ nx = 0) := by
  have hm : (Try.prog).follows .mixedOrders = true := by kernel_rfl
  have ht : Tab Try.prog (cfgT (fun _ _ => none) (fun _ => true)) [] := .nil
  match n, hn with
  | 0, _ => exact ac_run hm ht 50 (by kernel_rfl) ⟨rfl, rfl⟩
  | 1, _ => exact ac_run hm ht 50 (by kernel_rfl) ⟨rfl, rfl⟩
  | 2, _ => exact ac_run hm ht 50 (by kernel_rfl) ⟨rfl, rfl⟩
  | 3, _ => exact ac_run hm ht 50 (by kernel_rfl) ⟨rfl, rfl⟩
  | 4, _ => exact ac_run hm ht 50 (by kernel_rfl) ⟨rfl, rfl⟩
  | 5, _ => exact ac_run hm ht 50 (by kernel_rfl) ⟨rfl, rfl⟩
  | 6, _ => exact ac_run hm ht 50 (by kernel_rfl) ⟨rfl, rfl⟩
  | 7, _ => exact ac_run hm ht 50 (by kernel_rfl) ⟨rfl, rfl⟩
  | 8, _ => exact ac_run hm ht 50 (by kernel_rfl) ⟨rfl, rfl⟩
  | 9, _ => exact ac_run hm ht 50 (by kernel_rfl) ⟨rfl, rfl⟩
  | 10, _ => exact ac_run hm ht 50 (by kernel_rfl) ⟨rfl, rfl⟩
  | 11, _ => exact ac_run hm ht 50 (by kernel_rfl) ⟨rfl, rfl⟩
  | 12, _ => exact ac_run hm ht 50 (by kernel_rfl) ⟨rfl, rfl⟩

theorem pdq_few (l : List Int) (k : Int) (hl : l.length ≤ 12) :
    AC Try.prog 84 [.own 0 0 l.length, .int .i64 0, .int .i64 l.length, .int .i64 k] [(0, .cells 1 (ints l))] 1 false (fun v h nx => v = .tup [] ∧ h = [(0, .cells 1 (ints (sortL l (l.length - 1))))] ∧ nx = 1) := by
  have hi := insertion l (by omega)
  refine ac_fn Try.func84 rfl rfl rfl rfl (fun w0 S0 r0 => ?_)
  refine aw_seq ?_
  refine aw_region ?_
  refine st_p (mva rfl) rfl ?_
  refine al_nil ?_
  refine nm ?_
  refine aw_seq ?_
  refine aw_region ?_
  refine st_p (mva rfl) rfl ?_
  refine al_nil ?_
  refine nm ?_
  refine aw_block ?_
  -- LOOP
  refine aw_loop (fun _ : Unit => ⟨[(0, .own 0 0 l.length), (1, .int .i64 0), (2, .int .i64 l.length)], [(0, .cells 1 (ints l))], 1⟩) (fun _ => 0) () ?_ ?_
  · exact le_to [] rfl rfl rfl rfl rfl ⟨rfl, rfl, rfl, trivial⟩ ⟨by rw [ren_intsB]; rfl, trivial⟩
  · rintro ⟨⟩
    refine aw_block ?_
    refine aw_seq ?_
    refine aw_region ?_
    refine st_p (mv rfl) rfl ?_
    refine st_p (mv rfl) rfl ?_
    refine st_p (op_subi rfl rfl (by omega)) rfl ?_
    refine st_p (mva rfl) rfl ?_
    refine al_nil ?_
    refine nm ?_
    refine aw_seq ?_
    refine aw_seq ?_
    refine aw_region ?_
    refine st_p (mv rfl) rfl ?_
    refine st_p (OpP.conv (op_le rfl rfl) (yes (by first | assumption | omega))) rfl ?_
    refine al_nil ?_
    refine nm ?_
    -- IF t23
    refine aw_yes (rfl) ?_
    refine aw_seq ?_
    refine aw_region ?_
    refine st_p (mv rfl) rfl ?_
    refine st_p (mv rfl) rfl ?_
    refine st_p (mv rfl) rfl ?_
    -- STOP: call slices.insertionSortOrdered[int](t24, t25, t26) -> 27
    refine st_o (op_callg [(0, 0)] 1 false [(0, .cells 1 (ints l))] [0] (hi) Try.func102 ⟨rfl, rfl⟩ rfl rfl rfl rfl (by omega) (by intro p hp; simp only [List.mem_cons, List.not_mem_nil, or_false] at hp; rcases hp with rfl | rfl <;> exact ⟨by first | rfl | ((simp [hget, swp, Blk.ren, AV.ren, ints, Function.comp_def]) <;> rfl), rfl⟩) rfl (.cons (.same (by rfl)) (.cons (.same (by rfl)) (.cons (.same (by rfl)) .nil))) rfl rfl rfl) rfl ?_
    refine al_nil ?_
    refine nm ?_
    refine aw_ret ?_
    refine rs ?_
    refine rb ?_
    refine rs ?_
    refine rb ?_
    refine ret_a ⟨[], [(0, .cells 1 (ints (sortL l (l.length - 1))))], 1⟩ (le_to [] rfl rfl rfl rfl rfl trivial ⟨by simp only [List.map_cons, List.map_nil, ren_intsB]; rfl, trivial⟩) (res0 Try.results84) (.inr ⟨rfl, ?_⟩) ⟨rfl, rfl, rfl⟩
    simp [Blk.nosl, AV.nosl, ints]

theorem sort_few (l : List Int) (hl : l.length ≤ 12) :
    AC Try.prog 59 [.own 0 0 l.length] [(0, .cells 1 (ints l))] 1 false (fun v h nx => v = .tup [] ∧ h = [(0, .cells 1 (ints (sortL l (l.length - 1))))] ∧ nx = 1) := by
  have hb := bits_Len l.length hl
  have hp := pdq_few l (bitsLen l.length) hl
  refine ac_fn Try.func59 rfl rfl rfl rfl (fun w0 S0 r0 => ?_)
  refine aw_seq ?_
  refine aw_region ?_
  refine st_p (mv rfl) rfl ?_
  refine st_p (op_leno Try.underlying35 rfl) rfl ?_
  refine st_p (mva rfl) rfl ?_
  refine al_nil ?_
  refine nm ?_
  refine aw_region ?_
  refine st_p (mv rfl) rfl ?_
  refine st_p (mv rfl) rfl ?_
  refine st_p (mv rfl) rfl ?_
  refine st_p (op_conv (by rw [Try.underlying3]; rfl) Try.underlying116 rfl) rfl ?_
  -- STOP: call math/bits.Len(t8) -> 9
  refine st_o ((op_callq (hb) Try.func85 ⟨rfl, rfl⟩ rfl rfl (fun nx => (.cons (.same (by rfl)) .nil)) (by rintro _ _ _ ⟨rfl, rfl, rfl⟩; exact .same rfl)).ok) rfl ?_
  -- STOP: call slices.pdqsortOrdered[int](t5, ('app', 'Operand.const', [('app', 'Value.int', ['IntKind.i64', 0])]), t6, t9) -> 10
  refine st_o (op_callg [(0, 0)] 1 false [(0, .cells 1 (ints l))] [0] (hp) Try.func84 ⟨rfl, rfl⟩ rfl rfl rfl rfl (by omega) (by intro p hp; simp only [List.mem_cons, List.not_mem_nil, or_false] at hp; rcases hp with rfl | rfl <;> exact ⟨by first | rfl | ((simp [hget, swp, Blk.ren, AV.ren, ints, Function.comp_def]) <;> rfl), rfl⟩) rfl (.cons (.same (by rfl)) (.cons (.same (by rfl)) (.cons (.same (by rfl)) (.cons (.same (by rfl)) .nil)))) rfl rfl rfl) rfl ?_
  refine al_nil ?_
  refine ret_n ⟨[], [(0, .cells 1 (ints (sortL l (l.length - 1))))], 1⟩ (le_to [] rfl rfl rfl rfl rfl trivial ⟨by simp only [List.map_cons, List.map_nil, ren_intsB]; rfl, trivial⟩) (res0 Try.results59) (.inr ⟨rfl, ?_⟩) ⟨rfl, rfl, rfl⟩
  simp [Blk.nosl, AV.nosl, ints]

end Go.Proofs.Ytpggknkhldecaaa.Abs
end
section
/-
  Rows of one's own, cleared, copied. It holds of any program.
-/
namespace Go.Proofs.Ytpggknkhldecaaa.Abs

theorem op_clearP {P : Program} {tm : List (Nat × AV)} {h : Heap} {nx : Nat} {t e : TypeId} {x : Operand} {z : Value} {sz bytes b st len : Nat} {xs : List AV} {h' : Heap} (hu : P.underlying t = some (.slice e)) (hi : (P.info? e).map (fun i => (i.zero, i.size, i.bytes)) = some (some z, sz, bytes)) (hzs : z.cells.size = sz ∧ ∀ (i : Nat) (u : Value), z.cells[i]? = some u → u.oneCell' = true)
    (hx : oev tm x = .own b st len) (hlen : 0 < len) (hb : hget h b = some (.cells sz xs)) (hst : st ≤ xs.length) (hh : hset h b (.cells sz (xs.take st)) = h') :
    OpOK P (.call { callee := .builtin .clear, args := #[x], argTypes := #[t] }) ⟨tm, h, nx⟩ (.tup []) h' nx := by
  obtain ⟨m, rfl⟩ : ∃ m, len = m + 1 := ⟨len - 1, by omega⟩
  exact op_clear hu hi hzs hx hb hst hh

end Go.Proofs.Ytpggknkhldecaaa.Abs
end
section
/-
  slices.Compact of whole numbers.
-/
namespace Go.Proofs.Ytpggknkhldecaaa.Abs

/-- Of those side by side that are alike one is left. -/
def adjL : List Int → List Int
  | [] => []
  | [a] => [a]
  | a :: b :: t => if a = b then adjL (b :: t) else a :: adjL (b :: t)

theorem adjL_snoc : ∀ (m : List Int) (y x : Int), adjL (m ++ [y, x]) = if y = x then adjL (m ++ [y]) else adjL (m ++ [y]) ++ [x] := by
  intro m
  induction m with
  | nil =>
    intro y x
    simp only [List.nil_append, adjL]
    by_cases h : y = x <;> simp [h]
  | cons a m ih =>
    intro y x
    cases m with
    | nil =>
      simp only [List.cons_append, List.nil_append, adjL]
      by_cases h1 : a = y <;> by_cases h2 : y = x <;> simp [h1, h2]
    | cons b m =>
      have := ih y x
      simp only [List.cons_append, adjL] at this ⊢
      rw [this]
      by_cases h1 : a = b <;> by_cases h2 : y = x <;> simp [h1, h2]

theorem adjL_take (l : List Int) (k : Nat) (h0 : 1 ≤ k) (hk : k < l.length) : adjL (l.take (k + 1)) = if l.getD k 0 = l.getD (k - 1) 0 then adjL (l.take k) else adjL (l.take k) ++ [l.getD k 0] := by
  obtain ⟨q, rfl⟩ : ∃ q, k = q + 1 := ⟨k - 1, by omega⟩
  have e1 : l.take (q + 1) = l.take q ++ [l.getD q 0] := by
    rw [List.take_add_one, List.getD_eq_getElem?_getD, List.getElem?_eq_getElem (by omega)]; rfl
  have e2 : l.take (q + 1 + 1) = l.take q ++ [l.getD q 0, l.getD (q + 1) 0] := by
    rw [List.take_add_one, e1, List.append_assoc, List.getD_eq_getElem?_getD (i := q + 1), List.getElem?_eq_getElem hk]; rfl
  rw [e2, e1, adjL_snoc, show q + 1 - 1 = q from rfl]
  by_cases h : l.getD q 0 = l.getD (q + 1) 0
  · rw [if_pos h, if_pos h.symm]
  · rw [if_neg h, if_neg (fun e => h e.symm)]

theorem ints_take (l : List Int) (k : Nat) : (ints l).take k = ints (l.take k) := by simp [ints, List.map_take]
theorem ints_set (l : List Int) (k : Nat) (x : Int) : (ints l).set k (.int .i64 x) = ints (l.set k x) := by simp [ints, List.map_set]

set_option maxHeartbeats 4000000 in
theorem compact_ints (l : List Int) (hl : l.length ≤ 1000000) :
    AC Try.prog 60 [.own 0 0 l.length] [(0, .cells 1 (ints l))] 1 false (fun v h nx => v = .own 0 0 (adjL l).length ∧ h = [(0, .cells 1 (ints (adjL l)))] ∧ nx = 1) := by
  have hil : (ints l).length = l.length := ints_len l
  have hns : ∀ m : List Int, (Blk.cells 1 (ints m)).nosl = true := fun m => by simp [Blk.nosl, AV.nosl, ints]
  by_cases h2 : l.length < 2
  · have ha : adjL l = l := by
      match l, h2 with
      | [], _ => rfl
      | [a], _ => rfl
      | a :: b :: t, h2 => simp at h2; omega
    refine ac_fn Try.func60 rfl rfl rfl rfl (fun w0 S0 r0 => ?_)
    refine aw_seq ?_
    refine aw_region ?_
    refine st_p (mva rfl) rfl ?_
    refine al_nil ?_
    refine nm ?_
    refine aw_seq ?_
    refine aw_seq ?_
    refine aw_region ?_
    refine st_p (mv rfl) rfl ?_
    refine st_p (op_leno Try.underlying35 rfl) rfl ?_
    refine st_p (OpP.conv (op_lt rfl rfl) (yes (by first | assumption | omega))) rfl ?_
    refine al_nil ?_
    refine nm ?_
    -- IF t8
    refine aw_yes (rfl) ?_
    refine aw_seq ?_
    refine aw_region ?_
    refine st_p (mv rfl) rfl ?_
    refine st_p (mva rfl) rfl ?_
    refine al_nil ?_
    refine nm ?_
    refine aw_ret ?_
    refine rs ?_
    rw [ha]
    exact ret_a ⟨[(2, .own 0 0 l.length)], [(0, .cells 1 (ints l))], 1⟩ (le_to [] rfl rfl rfl rfl rfl ⟨rfl, trivial⟩ ⟨by rw [ren_intsB]; rfl, trivial⟩) (res1 Try.results60) (.inr ⟨rfl, by simp only [List.all_cons, List.all_nil, hns, Bool.and_true]⟩) ⟨rfl, rfl, rfl⟩
  · skip
    refine ac_fn Try.func60 rfl rfl rfl rfl (fun w0 S0 r0 => ?_)
    refine aw_seq ?_
    refine aw_region ?_
    refine st_p (mva rfl) rfl ?_
    refine al_nil ?_
    refine nm ?_
    refine aw_seq ?_
    refine aw_seq ?_
    refine aw_region ?_
    refine st_p (mv rfl) rfl ?_
    refine st_p (op_leno Try.underlying35 rfl) rfl ?_
    refine st_p (OpP.conv (op_lt rfl rfl) (no (by first | assumption | omega))) rfl ?_
    refine al_nil ?_
    refine nm ?_
    -- IF t8
    refine aw_no (rfl) ?_
    refine aw_skip ?_
    refine nm ?_
    refine aw_seq ?_
    refine aw_seq ?_
    refine aw_region ?_
    refine st_p (mva rfl) rfl ?_
    refine al_nil ?_
    refine nm ?_
    refine aw_block ?_
    -- LOOP
    refine aw_loop (fun k : {k : Nat // 1 ≤ k ∧ k ≤ l.length ∧ adjL (l.take k) = l.take k} => ⟨[(0, .own 0 0 l.length), (3, .int .i64 k.1)], [(0, .cells 1 (ints l))], 1⟩) (fun k => l.length - k.1) ⟨1, Nat.le_refl _, by omega, by cases l <;> simp [adjL]⟩ ?_ ?_
    · exact le_to [] rfl rfl rfl rfl rfl ⟨rfl, rfl, trivial⟩ ⟨by rw [ren_intsB]; rfl, trivial⟩
    · rintro ⟨k, k1, k2, k3⟩
      dsimp only
      by_cases hk : k < l.length
      · have hx : (ints l)[0 + ((k : Nat) : Int).toNat]? = some (.int .i64 (l.getD k 0)) := by rw [Nat.zero_add, Int.toNat_natCast]; exact getD_some l _ hk
        have hy : (ints l)[0 + (((k : Nat) : Int) - 1).toNat]? = some (.int .i64 (l.getD (k - 1) 0)) := by rw [show 0 + (((k : Nat) : Int) - 1).toNat = k - 1 by omega]; exact getD_some l _ (by omega)
        have ht := adjL_take l k k1 hk
        by_cases he : l.getD k 0 = l.getD (k - 1) 0
        · rw [if_pos he] at ht
          refine aw_seq ?_
          refine aw_seq ?_
          refine aw_region ?_
          refine st_p (mv rfl) rfl ?_
          refine st_p (mv rfl) rfl ?_
          refine st_p (op_leno Try.underlying35 rfl) rfl ?_
          refine st_p (OpP.conv (op_lt rfl rfl) (yes (by first | assumption | omega))) rfl ?_
          refine al_nil ?_
          refine nm ?_
          -- IF t13
          refine aw_yes (rfl) ?_
          refine aw_skip ?_
          refine nm ?_
          refine aw_seq ?_
          refine aw_block ?_
          refine aw_seq ?_
          refine dr_go ?_
          refine dr_f 0 0 [0] rfl (fun H => mv rfl) ?_
          refine dr_f 0 0 [3] rfl (fun H => mv rfl) ?_
          refine dr_q 0 0 [16, 17] rfl (op_indexAddr Try.underlying35 z3 rfl rfl rfl (by omega) (by omega)) ?_
          refine dr_q 0 0 [18] rfl (op_load1 Try.underlying3 rfl rfl rfl (by assumption) rfl) ?_
          refine dr_f 0 0 [0] rfl (fun H => mv rfl) ?_
          refine dr_f 0 0 [3] rfl (fun H => mv rfl) ?_
          refine dr_f 0 0 [21] rfl (fun H => op_subi rfl rfl (by omega)) ?_
          refine dr_q 0 0 [20, 22] rfl (op_indexAddr Try.underlying35 z3 rfl rfl rfl (by omega) (by omega)) ?_
          refine dr_q 0 0 [23] rfl (op_load1 Try.underlying3 rfl rfl rfl (by assumption) rfl) ?_
          refine dr_f 0 0 [19, 24] rfl (fun H => OpP.conv (op_eq rfl rfl) (yes (by first | assumption | omega))) ?_
          refine dr_end [] (by kernel_rfl) (by kernel_rfl) (by kernel_rfl) (by kernel_rfl) trivial ?_
          refine nm ?_
          -- IF t25
          refine aw_yes (rfl) ?_
          refine aw_seq ?_
          refine aw_region ?_
          refine st_p (mv rfl) rfl ?_
          refine st_p (mv rfl) rfl ?_
          first | refine st_p (op_sliceL Try.underlying35 z3 rfl (by exact ⟨_, rfl⟩) (by exact rfl) (by first | omega | (simp only [bl_len, List.length_map, List.length_append, List.length_take, List.length_drop]; omega)) (by first | omega | (simp only [bl_len, List.length_map, List.length_append, List.length_take, List.length_drop]; omega)) (by first | omega | (simp only [bl_len, List.length_map, List.length_append, List.length_take, List.length_drop]; omega))) rfl ?_ | refine st_p (op_slice Try.underlying35 z3 rfl rfl (by exact ⟨_, rfl⟩) (by exact rfl) (by first | omega | (simp only [bl_len, List.length_map, List.length_append, List.length_take, List.length_drop]; omega)) (by first | omega | (simp only [bl_len, List.length_map, List.length_append, List.length_take, List.length_drop]; omega)) (by first | omega | (simp only [bl_len, List.length_map, List.length_append, List.length_take, List.length_drop]; omega))) rfl ?_ | refine st_p (op_sliceC Try.underlying35 z3 rfl rfl (by exact ⟨_, rfl⟩) (by exact rfl) (by first | omega | (simp only [bl_len, List.length_map, List.length_append, List.length_take, List.length_drop]; omega)) (by first | omega | (simp only [bl_len, List.length_map, List.length_append, List.length_take, List.length_drop]; omega)) (by omega) (by first | omega | (simp only [bl_len, List.length_map, List.length_append, List.length_take, List.length_drop]; omega))) rfl ?_
          refine st_p (mva rfl) rfl ?_
          refine al_nil ?_
          refine nm ?_
          refine aw_seq ?_
          refine aw_seq ?_
          refine aw_region ?_
          refine st_p (mva rfl) rfl ?_
          refine al_nil ?_
          refine nm ?_
          refine aw_block ?_
          -- LOOP
          have hk3 : adjL (l.take (k + 1)) = l.take k := ht.trans k3
          refine aw_loop (fun p : {p : Nat × List Int × Nat // k ≤ p.1 ∧ p.1 < k + p.2.2 ∧ 1 ≤ p.2.2 ∧ k + p.2.2 ≤ l.length ∧ p.2.1.length = l.length ∧ (∀ j, k + p.2.2 - 1 ≤ j → p.2.1.getD j 0 = l.getD j 0) ∧ p.2.1.take p.1 = adjL (l.take (k + p.2.2))} => ⟨[(0, .own 0 0 l.length), (3, .int .i64 p.1.1), (4, .own 0 k (l.length - k)), (5, .int .i64 p.1.2.2)], [(0, .cells 1 (ints p.1.2.1))], 1⟩) (fun p => l.length - p.1.2.2) ⟨(k, l, 1), by dsimp only; exact ⟨Nat.le_refl _, by omega, Nat.le_refl _, by omega, rfl, fun _ _ => rfl, hk3.symm⟩⟩ ?_ ?_
          · refine le_to [] rfl rfl rfl rfl rfl ⟨rfl, rfl, ?_, rfl, trivial⟩ ⟨by rw [ren_intsB]; rfl, trivial⟩
            show AV.own 0 (0 + ((k : Nat) : Int).toNat) (((l.length : Nat) : Int).toNat - ((k : Nat) : Int).toNat) = AV.own 0 k (l.length - k)
            simp
          · rintro ⟨⟨m, d, q⟩, m1, m2, m3, m4, m5, m6, m7⟩
            dsimp only at m1 m2 m3 m4 m5 m6 m7 ⊢
            have hdl : (ints d).length = d.length := ints_len d
            by_cases hq : q < l.length - k
            · have hx : (ints d)[k + ((q : Nat) : Int).toNat]? = some (.int .i64 (l.getD (k + q) 0)) := by rw [Int.toNat_natCast, ← m6 (k + q) (by omega)]; exact getD_some d _ (by omega)
              have hy : (ints d)[k + (((q : Nat) : Int) - 1).toNat]? = some (.int .i64 (l.getD (k + q - 1) 0)) := by rw [show k + (((q : Nat) : Int) - 1).toNat = k + q - 1 by omega, ← m6 (k + q - 1) (by omega)]; exact getD_some d _ (by omega)
              have ht2 := adjL_take l (k + q) (by omega) (by omega)
              by_cases he2 : l.getD (k + q) 0 = l.getD (k + q - 1) 0
              · rw [if_pos he2] at ht2
                refine aw_seq ?_
                refine aw_seq ?_
                refine aw_region ?_
                refine st_p (mv rfl) rfl ?_
                refine st_p (mv rfl) rfl ?_
                refine st_p (op_leno Try.underlying35 rfl) rfl ?_
                refine st_p (OpP.conv (op_lt rfl rfl) (yes (by first | assumption | omega))) rfl ?_
                refine al_nil ?_
                refine nm ?_
                -- IF t32
                refine aw_yes (rfl) ?_
                refine aw_skip ?_
                refine nm ?_
                refine aw_seq ?_
                refine aw_block ?_
                refine aw_seq ?_
                refine dr_go ?_
                refine dr_f 0 0 [4] rfl (fun H => mv rfl) ?_
                refine dr_f 0 0 [5] rfl (fun H => mv rfl) ?_
                refine dr_q 0 0 [35, 36] rfl (op_indexAddr Try.underlying35 z3 rfl rfl rfl (by omega) (by omega)) ?_
                refine dr_q 0 0 [37] rfl (op_load1 Try.underlying3 rfl rfl rfl (by assumption) rfl) ?_
                refine dr_f 0 0 [4] rfl (fun H => mv rfl) ?_
                refine dr_f 0 0 [5] rfl (fun H => mv rfl) ?_
                refine dr_f 0 0 [40] rfl (fun H => op_subi rfl rfl (by omega)) ?_
                refine dr_q 0 0 [39, 41] rfl (op_indexAddr Try.underlying35 z3 rfl rfl rfl (by omega) (by omega)) ?_
                refine dr_q 0 0 [42] rfl (op_load1 Try.underlying3 rfl rfl rfl (by assumption) rfl) ?_
                refine dr_f 0 0 [38, 43] rfl (fun H => OpP.conv (op_ne rfl rfl) (no (by first | assumption | omega))) ?_
                refine dr_end [] (by kernel_rfl) (by kernel_rfl) (by kernel_rfl) (by kernel_rfl) trivial ?_
                refine nm ?_
                -- IF t44
                refine aw_no (rfl) ?_
                refine aw_skip ?_
                refine nmb ?_
                refine nm ?_
                refine aw_region ?_
                refine st_p (mv rfl) rfl ?_
                refine st_p (op_addi rfl rfl (by omega)) rfl ?_
                refine st_p (mva rfl) rfl ?_
                refine al_nil ?_
                refine nm ?_
                refine ⟨⟨(m, d, q + 1), by dsimp only; exact ⟨m1, by omega, by omega, by omega, m5, fun j hj => m6 j (by omega), by rw [m7, ← ht2]; rfl⟩⟩, by dsimp only; omega, le_to [] rfl rfl rfl rfl rfl ⟨rfl, rfl, rfl, rfl, trivial⟩ ⟨by rw [ren_intsB]; rfl, trivial⟩⟩
              · rw [if_neg he2] at ht2
                have hs : (ints d)[0 + ((m : Nat) : Int).toNat]? = some (.int .i64 (d.getD m 0)) := by rw [Nat.zero_add, Int.toNat_natCast]; exact getD_some d _ (by omega)
                refine aw_seq ?_
                refine aw_seq ?_
                refine aw_region ?_
                refine st_p (mv rfl) rfl ?_
                refine st_p (mv rfl) rfl ?_
                refine st_p (op_leno Try.underlying35 rfl) rfl ?_
                refine st_p (OpP.conv (op_lt rfl rfl) (yes (by first | assumption | omega))) rfl ?_
                refine al_nil ?_
                refine nm ?_
                -- IF t32
                refine aw_yes (rfl) ?_
                refine aw_skip ?_
                refine nm ?_
                refine aw_seq ?_
                refine aw_block ?_
                refine aw_seq ?_
                refine dr_go ?_
                refine dr_f 0 0 [4] rfl (fun H => mv rfl) ?_
                refine dr_f 0 0 [5] rfl (fun H => mv rfl) ?_
                refine dr_q 0 0 [35, 36] rfl (op_indexAddr Try.underlying35 z3 rfl rfl rfl (by omega) (by omega)) ?_
                refine dr_q 0 0 [37] rfl (op_load1 Try.underlying3 rfl rfl rfl (by assumption) rfl) ?_
                refine dr_f 0 0 [4] rfl (fun H => mv rfl) ?_
                refine dr_f 0 0 [5] rfl (fun H => mv rfl) ?_
                refine dr_f 0 0 [40] rfl (fun H => op_subi rfl rfl (by omega)) ?_
                refine dr_q 0 0 [39, 41] rfl (op_indexAddr Try.underlying35 z3 rfl rfl rfl (by omega) (by omega)) ?_
                refine dr_q 0 0 [42] rfl (op_load1 Try.underlying3 rfl rfl rfl (by assumption) rfl) ?_
                refine dr_f 0 0 [38, 43] rfl (fun H => OpP.conv (op_ne rfl rfl) (yes (by first | assumption | omega))) ?_
                refine dr_end [] (by kernel_rfl) (by kernel_rfl) (by kernel_rfl) (by kernel_rfl) trivial ?_
                refine nm ?_
                -- IF t44
                refine aw_yes (rfl) ?_
                refine aw_seq ?_
                refine aw_region ?_
                refine st_p (mv rfl) rfl ?_
                refine st_p (mv rfl) rfl ?_
                refine st_p (mv rfl) rfl ?_
                refine st_p (mv rfl) rfl ?_
                refine st_p (op_indexAddr Try.underlying35 z3 rfl rfl rfl (by omega) (by omega)) rfl ?_
                refine st_p (op_load1 Try.underlying3 rfl rfl rfl (by assumption) rfl) rfl ?_
                refine st_p (op_indexAddr Try.underlying35 z3 rfl rfl rfl (by omega) (by omega)) rfl ?_
                refine st_n (st1s z3 rfl rfl rfl (by assumption) rfl rfl rfl) ?_
                refine al_nil ?_
                refine nm ?_
                refine aw_region ?_
                refine st_p (mv rfl) rfl ?_
                refine st_p (op_addi rfl rfl (by omega)) rfl ?_
                refine st_p (mva rfl) rfl ?_
                refine al_nil ?_
                refine nmb ?_
                refine nm ?_
                refine aw_region ?_
                refine st_p (mv rfl) rfl ?_
                refine st_p (op_addi rfl rfl (by omega)) rfl ?_
                refine st_p (mva rfl) rfl ?_
                refine al_nil ?_
                refine nm ?_
                have hA : ∀ j, k + (q + 1) - 1 ≤ j → (d.set m (l.getD (k + q) 0)).getD j 0 = l.getD j 0 := fun j hj => by
                  rw [List.getD_eq_getElem?_getD, List.getElem?_set_ne (by omega), ← List.getD_eq_getElem?_getD]
                  exact m6 j (by omega)
                have hB : (d.set m (l.getD (k + q) 0)).take (m + 1) = adjL (l.take (k + (q + 1))) := by
                  rw [show k + (q + 1) = k + q + 1 from rfl, ht2, ← m7, List.take_add_one, List.getElem?_set_self (by omega), List.take_set_of_le (Nat.le_refl _)]
                  rfl
                refine ⟨⟨(m + 1, d.set m (l.getD (k + q) 0), q + 1), by dsimp only; exact ⟨by omega, by omega, by omega, by omega, by rw [List.length_set]; exact m5, hA, hB⟩⟩, by dsimp only; omega, le_to [] rfl rfl rfl rfl rfl ⟨rfl, rfl, rfl, rfl, trivial⟩ ⟨?_, trivial⟩⟩
                rw [ren_intsB, ← ints_set]
                show some (Blk.cells 1 ((ints d).set (0 + ((m : Nat) : Int).toNat) _)) = _
                rw [Nat.zero_add, Int.toNat_natCast]
            · skip
              refine aw_seq ?_
              refine aw_seq ?_
              refine aw_region ?_
              refine st_p (mv rfl) rfl ?_
              refine st_p (mv rfl) rfl ?_
              refine st_p (op_leno Try.underlying35 rfl) rfl ?_
              refine st_p (OpP.conv (op_lt rfl rfl) (no (by first | assumption | omega))) rfl ?_
              refine al_nil ?_
              refine nm ?_
              -- IF t32
              refine aw_no (rfl) ?_
              refine aw_exit ?_
              refine xs ?_
              refine xs ?_
              refine xb ?_
              refine nm ?_
              refine aw_seq ?_
              refine aw_region ?_
              refine st_p (mv rfl) rfl ?_
              refine st_p (mv rfl) rfl ?_
              first | refine st_p (op_sliceL Try.underlying35 z3 rfl (by exact ⟨_, rfl⟩) (by exact rfl) (by first | omega | (simp only [bl_len, List.length_map, List.length_append, List.length_take, List.length_drop]; omega)) (by first | omega | (simp only [bl_len, List.length_map, List.length_append, List.length_take, List.length_drop]; omega)) (by first | omega | (simp only [bl_len, List.length_map, List.length_append, List.length_take, List.length_drop]; omega))) rfl ?_ | refine st_p (op_slice Try.underlying35 z3 rfl rfl (by exact ⟨_, rfl⟩) (by exact rfl) (by first | omega | (simp only [bl_len, List.length_map, List.length_append, List.length_take, List.length_drop]; omega)) (by first | omega | (simp only [bl_len, List.length_map, List.length_append, List.length_take, List.length_drop]; omega)) (by first | omega | (simp only [bl_len, List.length_map, List.length_append, List.length_take, List.length_drop]; omega))) rfl ?_ | refine st_p (op_sliceC Try.underlying35 z3 rfl rfl (by exact ⟨_, rfl⟩) (by exact rfl) (by first | omega | (simp only [bl_len, List.length_map, List.length_append, List.length_take, List.length_drop]; omega)) (by first | omega | (simp only [bl_len, List.length_map, List.length_append, List.length_take, List.length_drop]; omega)) (by omega) (by first | omega | (simp only [bl_len, List.length_map, List.length_append, List.length_take, List.length_drop]; omega))) rfl ?_
              refine st_n (op_clearP Try.underlying35 i3 o3 rfl (by omega) rfl (by omega) rfl) ?_
              refine al_nil ?_
              refine nm ?_
              refine aw_seq ?_
              refine aw_region ?_
              refine st_p (mv rfl) rfl ?_
              refine st_p (mv rfl) rfl ?_
              first | refine st_p (op_sliceN Try.underlying35 z3 rfl rfl) rfl ?_ | refine st_p (op_sliceL Try.underlying35 z3 rfl (by exact rfl) (by exact ⟨_, rfl⟩) (by first | omega | (simp only [bl_len, List.length_map, List.length_append, List.length_take, List.length_drop]; omega)) (by first | omega | (simp only [bl_len, List.length_map, List.length_append, List.length_take, List.length_drop]; omega)) (by first | omega | (simp only [bl_len, List.length_map, List.length_append, List.length_take, List.length_drop]; omega))) rfl ?_ | refine st_p (op_slice Try.underlying35 z3 rfl rfl (by exact rfl) (by exact ⟨_, rfl⟩) (by first | omega | (simp only [bl_len, List.length_map, List.length_append, List.length_take, List.length_drop]; omega)) (by first | omega | (simp only [bl_len, List.length_map, List.length_append, List.length_take, List.length_drop]; omega)) (by first | omega | (simp only [bl_len, List.length_map, List.length_append, List.length_take, List.length_drop]; omega))) rfl ?_ | refine st_p (op_sliceC Try.underlying35 z3 rfl rfl (by exact rfl) (by exact ⟨_, rfl⟩) (by first | omega | (simp only [bl_len, List.length_map, List.length_append, List.length_take, List.length_drop]; omega)) (by first | omega | (simp only [bl_len, List.length_map, List.length_append, List.length_take, List.length_drop]; omega)) (by omega) (by first | omega | (simp only [bl_len, List.length_map, List.length_append, List.length_take, List.length_drop]; omega))) rfl ?_
              refine st_p (mva rfl) rfl ?_
              refine al_nil ?_
              refine nm ?_
              refine aw_ret ?_
              refine rb ?_
              refine rs ?_
              refine rs ?_
              refine rb ?_
              refine rs ?_
              rw [show k + q = l.length by omega, List.take_length] at m7
              have hml : (adjL l).length = m := by rw [← m7, List.length_take]; omega
              refine ret_a ⟨[(2, .own 0 0 (adjL l).length)], [(0, .cells 1 (ints (adjL l)))], 1⟩ (le_to [] rfl rfl rfl rfl rfl ⟨?_, trivial⟩ ⟨?_, trivial⟩) (res1 Try.results60) (.inr ⟨rfl, by simp only [List.all_cons, List.all_nil, hns, Bool.and_true]⟩) ⟨rfl, rfl, rfl⟩
              · show AV.own 0 (0 + Int.toNat 0) (((m : Nat) : Int).toNat - Int.toNat 0) = AV.own 0 0 (adjL l).length
                rw [hml]; simp
              · rw [ren_intsB]
                show some (Blk.cells 1 ((ints d).take (0 + ((m : Nat) : Int).toNat))) = _
                rw [Nat.zero_add, Int.toNat_natCast, ints_take, m7]
        · rw [if_neg he] at ht
          refine aw_seq ?_
          refine aw_seq ?_
          refine aw_region ?_
          refine st_p (mv rfl) rfl ?_
          refine st_p (mv rfl) rfl ?_
          refine st_p (op_leno Try.underlying35 rfl) rfl ?_
          refine st_p (OpP.conv (op_lt rfl rfl) (yes (by first | assumption | omega))) rfl ?_
          refine al_nil ?_
          refine nm ?_
          -- IF t13
          refine aw_yes (rfl) ?_
          refine aw_skip ?_
          refine nm ?_
          refine aw_seq ?_
          refine aw_block ?_
          refine aw_seq ?_
          refine dr_go ?_
          refine dr_f 0 0 [0] rfl (fun H => mv rfl) ?_
          refine dr_f 0 0 [3] rfl (fun H => mv rfl) ?_
          refine dr_q 0 0 [16, 17] rfl (op_indexAddr Try.underlying35 z3 rfl rfl rfl (by omega) (by omega)) ?_
          refine dr_q 0 0 [18] rfl (op_load1 Try.underlying3 rfl rfl rfl (by assumption) rfl) ?_
          refine dr_f 0 0 [0] rfl (fun H => mv rfl) ?_
          refine dr_f 0 0 [3] rfl (fun H => mv rfl) ?_
          refine dr_f 0 0 [21] rfl (fun H => op_subi rfl rfl (by omega)) ?_
          refine dr_q 0 0 [20, 22] rfl (op_indexAddr Try.underlying35 z3 rfl rfl rfl (by omega) (by omega)) ?_
          refine dr_q 0 0 [23] rfl (op_load1 Try.underlying3 rfl rfl rfl (by assumption) rfl) ?_
          refine dr_f 0 0 [19, 24] rfl (fun H => OpP.conv (op_eq rfl rfl) (no (by first | assumption | omega))) ?_
          refine dr_end [] (by kernel_rfl) (by kernel_rfl) (by kernel_rfl) (by kernel_rfl) trivial ?_
          refine nm ?_
          -- IF t25
          refine aw_no (rfl) ?_
          refine aw_skip ?_
          refine nmb ?_
          refine nm ?_
          refine aw_region ?_
          refine st_p (mv rfl) rfl ?_
          refine st_p (op_addi rfl rfl (by omega)) rfl ?_
          refine st_p (mva rfl) rfl ?_
          refine al_nil ?_
          refine nm ?_
          refine ⟨⟨k + 1, by omega, hk, ?_⟩, by dsimp only; omega, le_to [] rfl rfl rfl rfl rfl ⟨rfl, rfl, trivial⟩ ⟨by rw [ren_intsB]; rfl, trivial⟩⟩
          rw [ht, k3, List.take_add_one, List.getD_eq_getElem?_getD, List.getElem?_eq_getElem hk]; rfl
      · have ha : adjL l = l := by rw [List.take_of_length_le (by omega)] at k3; exact k3
        refine aw_seq ?_
        refine aw_seq ?_
        refine aw_region ?_
        refine st_p (mv rfl) rfl ?_
        refine st_p (mv rfl) rfl ?_
        refine st_p (op_leno Try.underlying35 rfl) rfl ?_
        refine st_p (OpP.conv (op_lt rfl rfl) (no (by first | assumption | omega))) rfl ?_
        refine al_nil ?_
        refine nm ?_
        -- IF t13
        refine aw_no (rfl) ?_
        refine aw_exit ?_
        refine xs ?_
        refine xs ?_
        refine xb ?_
        refine nm ?_
        refine aw_seq ?_
        refine aw_region ?_
        refine st_p (mv rfl) rfl ?_
        refine st_p (mva rfl) rfl ?_
        refine al_nil ?_
        refine nm ?_
        refine aw_ret ?_
        rw [ha]
        exact ret_a ⟨[(2, .own 0 0 l.length)], [(0, .cells 1 (ints l))], 1⟩ (le_to [] rfl rfl rfl rfl rfl ⟨rfl, trivial⟩ ⟨by rw [ren_intsB]; rfl, trivial⟩) (res1 Try.results60) (.inr ⟨rfl, by simp only [List.all_cons, List.all_nil, hns, Bool.and_true]⟩) ⟨rfl, rfl, rfl⟩

end Go.Proofs.Ytpggknkhldecaaa.Abs
end
section
/-
  txn.Reads: the shards of what is read.
-/
namespace Go.Proofs.Ytpggknkhldecaaa.Abs

def shardsL (ks : List (List UInt8)) (n : Int) : List Int := ks.map (fun k => shardI k n)
def readsL (ks : List (List UInt8)) (n : Int) : List Int := adjL (sortL (shardsL ks n) ((shardsL ks n).length - 1))

theorem shardsL_len (ks : List (List UInt8)) (n : Int) : (shardsL ks n).length = ks.length := List.length_map _

set_option maxHeartbeats 4000000 in
theorem txn_Reads (t : TX) (n : Int) (hr : t.reads.length ≤ 12) (hw : t.writes.length ≤ 1000000) (hkr : ∀ r ∈ t.reads, r.key.length ≤ 281474976710656) (hn : n ≤ 9223372036854775807) :
    AC Try.prog 16 [txA t, .int .i64 n] [] 0 false (fun v h nx => v = .own 0 0 (readsL (t.reads.map RD.key) n).length ∧ h = [(0, .cells 1 (ints (readsL (t.reads.map RD.key) n)))] ∧ nx = 1) := by
  have hkeys := txn_keys t (by omega) hw
  have hsh : ∀ r ∈ t.reads, AC Try.prog 58 [sb r.key, .int .i64 n] [] 0 false (fun v h nx => v = .int .i64 (shardI r.key n) ∧ h = [] ∧ nx = 0) := fun r hm => key_Shard r.key n (hkr r hm) hn
  have hns : ∀ m : List Int, (Blk.cells 1 (ints m)).nosl = true := fun m => by simp [Blk.nosl, AV.nosl, ints]
  have hL : ((t.reads.map RD.key).map (fun k => shardI k n)) = t.reads.map fun r => shardI r.key n := by rw [List.map_map]; rfl
  have hsort : ∀ l : List Int, l.length ≤ 12 → _ := sort_few
  have hcomp : ∀ l : List Int, l.length ≤ 1000000 → _ := compact_ints
  unfold readsL shardsL
  rw [hL]
  obtain ⟨ses, seq, rl, wl⟩ := t
  dsimp only [txA] at hkeys hr hw hsh ⊢
  have hkl : (rl.map fun r => sb r.key).length = rl.length := List.length_map _
  have hkp : (rl.map fun r => sb r.key).all AV.plain = true := by simp [AV.plain, plains, sb]
  have hwp : (wl.map fun w => sb w.key).all AV.plain = true := by simp [AV.plain, plains, sb]
  have hwl : (wl.map fun w => sb w.key).length = wl.length := List.length_map _
  have hll : (rl.map fun r => shardI r.key n).length = rl.length := List.length_map _
  refine ac_fn Try.func16 rfl rfl rfl rfl (fun w0 S0 r0 => ?_)
  refine aw_seq ?_
  refine aw_region ?_
  refine st_o (bx rfl rfl) rfl ?_
  refine st_p (mva rfl) rfl ?_
  refine al_nil ?_
  refine nm ?_
  refine aw_seq ?_
  refine aw_region ?_
  refine st_p (op_loadA Try.underlying26 rfl z26 rfl rfl rfl rfl) rfl ?_
  -- STOP: call diwan/txn.keys(t10) -> 11
  refine st_o ((op_callq (hkeys) Try.func39 ⟨rfl, rfl⟩ rfl rfl (fun nx => (.cons (.same (by rfl)) .nil)) (by rintro _ _ _ ⟨rfl, rfl, rfl⟩; exact (Fzs.tup (.cons (.whole rfl hkl.symm hkp) (.cons (.whole rfl hwl.symm hwp) .nil))))).ok) rfl ?_
  refine st_p (mv rfl) rfl ?_
  refine st_p (op_extract rfl rfl) rfl ?_
  refine st_p (op_extract rfl rfl) rfl ?_
  refine st_p (mva rfl) rfl ?_
  refine st_p (mva rfl) rfl ?_
  refine al_nil ?_
  refine nm ?_
  refine aw_seq ?_
  refine aw_seq ?_
  refine aw_region ?_
  refine st_p (mv rfl) rfl ?_
  first | refine st_p (op_len Try.underlying71 rfl) rfl ?_ | refine st_p (op_leno Try.underlying71 rfl) rfl ?_ | refine st_p (op_lenn Try.underlying71 rfl) rfl ?_
  refine st_p (mv rfl) rfl ?_
  refine al_nil ?_
  refine nm ?_
  refine aw_block ?_
  -- LOOP
  refine aw_virt 4 1 rfl ?_
  refine aw_loop (fun i : {i : Nat // i ≤ rl.length} => ⟨[(1, .int .i64 n), (4, .own 0 0 i.1), (14, .sl 1 (rl.map fun r => sb r.key)), (15, .int .i64 rl.length), (16, .int .i64 i.1)], [(0, .cells 1 (ints ((rl.map fun r => shardI r.key n).take i.1)))], 1⟩) (fun i => rl.length - i.1) ⟨0, Nat.zero_le _⟩ ?_ ?_
  · exact le_to [(0, 1)] rfl rfl rfl rfl rfl ⟨rfl, rfl, rfl, by rw [← hkl]; rfl, rfl, trivial⟩ ⟨by rw [ren_intsB]; rfl, trivial⟩
  · rintro ⟨i, hi⟩
    dsimp only
    by_cases hlt : i < rl.length
    · obtain ⟨x, hx⟩ : ∃ x, rl[i]? = some x := ⟨_, List.getElem?_eq_getElem hlt⟩
      have hxb : (rl.map fun r => sb r.key)[((i : Nat) : Int).toNat]? = some (sb x.key) := by rw [Int.toNat_natCast, List.getElem?_map, hx]; rfl
      have hs := hsh x (List.mem_of_getElem? hx)
      have hit : (ints ((rl.map fun r => shardI r.key n).take i)).length = i := by rw [ints_len, List.length_take]; omega
      refine aw_seq ?_
      refine aw_region ?_
      refine st_p (OpP.conv (op_lt rfl rfl) (yes (by first | assumption | omega))) rfl ?_
      refine al_nil ?_
      refine nm ?_
      refine aw_seq ?_
      -- IF t17
      refine aw_yes (rfl) ?_
      refine aw_skip ?_
      refine nm ?_
      refine aw_seq ?_
      refine aw_block ?_
      refine aw_seq ?_
      refine aw_region ?_
      first | refine st_p (op_indexAddrL Try.underlying71 z9 rfl rfl (by omega) (by first | assumption | rfl)) rfl ?_ | refine st_p (op_indexAddr Try.underlying71 z9 rfl rfl rfl (by omega) (by omega)) rfl ?_
      refine st_p (op_load1L Try.underlying9 rfl rfl rfl) rfl ?_
      refine st_p (mva rfl) rfl ?_
      refine al_nil ?_
      refine nm ?_
      refine aw_region ?_
      refine st_p (mv rfl) rfl ?_
      refine st_p (mv rfl) rfl ?_
      refine st_p (mv rfl) rfl ?_
      -- STOP: call diwan/key.Shard(t21, t22) -> 23
      refine st_o ((op_callq (hs) Try.func58 ⟨rfl, rfl⟩ rfl rfl (fun nx => (.cons (.same (by rfl)) (.cons (.same (by rfl)) .nil))) (by rintro _ _ _ ⟨rfl, rfl, rfl⟩; exact .same rfl)).ok) rfl ?_
      refine st_o (bsl Try.underlying35 i3 o3 (by decide) rfl rfl rfl (by decide)) rfl ?_
      first | refine st_o (op_app Try.underlying35 Try.underlying35 (.inl ⟨_, rfl⟩) i3 o3 rfl rfl rfl (by first | rfl | omega | (simp; done) | (simp; omega)) ((SrcA.whole rfl (by first | rfl | simp)).ok rfl (by first | assumption | intro z hz; simp only [List.mem_singleton, List.drop_zero, List.take_succ_cons, List.take_zero, List.mem_cons, List.not_mem_nil, or_false, List.mem_map] at hz; first | (subst hz; rfl) | (obtain ⟨_, _, rfl⟩ := hz; rfl) | (rcases hz with rfl | rfl <;> rfl))) (by first | omega | (simp; try omega)) rfl) rfl ?_ | refine st_o (op_appN Try.underlying35 Try.underlying35 (.inl ⟨_, rfl⟩) i3 o3 rfl ((SrcA.whole rfl (by first | rfl | simp)).ok rfl (by first | assumption | intro z hz; simp only [List.mem_singleton, List.drop_zero, List.take_succ_cons, List.take_zero, List.mem_cons, List.not_mem_nil, or_false, List.mem_map] at hz; first | (subst hz; rfl) | (obtain ⟨_, _, rfl⟩ := hz; rfl) | (rcases hz with rfl | rfl <;> rfl))) (by first | omega | (simp; try omega))) rfl ?_ | refine st_o (op_app Try.underlying35 Try.underlying35 (.inl ⟨_, rfl⟩) i3 o3 rfl rfl rfl (by first | rfl | omega | (simp; done) | (simp; omega)) ((SrcA.own rfl (by first | omega | (simp; try omega))).ok rfl (by first | assumption | intro z hz; simp only [List.mem_singleton, List.drop_zero, List.take_succ_cons, List.take_zero, List.mem_cons, List.not_mem_nil, or_false, List.mem_map] at hz; first | (subst hz; rfl) | (obtain ⟨_, _, rfl⟩ := hz; rfl) | (rcases hz with rfl | rfl <;> rfl))) (by first | omega | (simp; try omega)) rfl) rfl ?_ | refine st_o (op_appN Try.underlying35 Try.underlying35 (.inl ⟨_, rfl⟩) i3 o3 rfl ((SrcA.own rfl (by first | omega | (simp; try omega))).ok rfl (by first | assumption | intro z hz; simp only [List.mem_singleton, List.drop_zero, List.take_succ_cons, List.take_zero, List.mem_cons, List.not_mem_nil, or_false, List.mem_map] at hz; first | (subst hz; rfl) | (obtain ⟨_, _, rfl⟩ := hz; rfl) | (rcases hz with rfl | rfl <;> rfl))) (by first | omega | (simp; try omega))) rfl ?_ | refine st_o (op_app Try.underlying35 Try.underlying35 (.inl ⟨_, rfl⟩) i3 o3 rfl rfl rfl (by first | rfl | omega | (simp; done) | (simp; omega)) ((SrcA.sl (.inr trivial)).ok rfl (by first | assumption | intro z hz; simp only [List.mem_singleton, List.drop_zero, List.take_succ_cons, List.take_zero, List.mem_cons, List.not_mem_nil, or_false, List.mem_map] at hz; first | (subst hz; rfl) | (obtain ⟨_, _, rfl⟩ := hz; rfl) | (rcases hz with rfl | rfl <;> rfl))) (by first | omega | (simp; try omega)) rfl) rfl ?_ | refine st_o (op_appN Try.underlying35 Try.underlying35 (.inl ⟨_, rfl⟩) i3 o3 rfl ((SrcA.sl (.inr trivial)).ok rfl (by first | assumption | intro z hz; simp only [List.mem_singleton, List.drop_zero, List.take_succ_cons, List.take_zero, List.mem_cons, List.not_mem_nil, or_false, List.mem_map] at hz; first | (subst hz; rfl) | (obtain ⟨_, _, rfl⟩ := hz; rfl) | (rcases hz with rfl | rfl <;> rfl))) (by first | omega | (simp; try omega))) rfl ?_ | refine st_o (op_app Try.underlying35 Try.underlying35 (.inl ⟨_, rfl⟩) i3 o3 rfl rfl rfl (by first | rfl | omega | (simp; done) | (simp; omega)) (SrcA.nils.ok rfl (by intro z hz; cases hz)) (by first | omega | (simp; try omega)) rfl) rfl ?_ | refine st_o (op_appN Try.underlying35 Try.underlying35 (.inl ⟨_, rfl⟩) i3 o3 rfl (SrcA.nils.ok rfl (by intro z hz; cases hz)) (by first | omega | (simp; try omega))) rfl ?_
      refine st_p (mva rfl) rfl ?_
      refine al_nil ?_
      refine nmb ?_
      refine nm ?_
      refine aw_region ?_
      refine st_p (op_addi rfl rfl (by omega)) rfl ?_
      refine st_p (mv rfl) rfl ?_
      refine al_nil ?_
      refine nm ?_
      refine ⟨⟨i + 1, hlt⟩, by dsimp only; omega, le_to [(0, 2)] rfl rfl rfl rfl rfl ⟨rfl, ?_, rfl, rfl, rfl, trivial⟩ ⟨?_, trivial⟩⟩
      · simp only [tget, AV.ren, swp]
        simp [hit]
      · rw [ren_intsB, List.take_add_one, List.getElem?_map, hx]
        simp [hget, swp, ints]
    · have hin : i = rl.length := by omega
      subst hin
      rw [List.take_of_length_le (by omega)]
      have hs0 := hsort (rl.map fun r => shardI r.key n) (by omega)
      have hc0 := hcomp (sortL (rl.map fun r => shardI r.key n) ((rl.map fun r => shardI r.key n).length - 1)) (by rw [sortL_len]; omega)
      rw [sortL_len] at hc0
      generalize sortL (rl.map fun r => shardI r.key n) ((rl.map fun r => shardI r.key n).length - 1) = M at hs0 hc0 ⊢
      rw [hll] at hs0 hc0
      refine aw_seq ?_
      refine aw_region ?_
      refine st_p (OpP.conv (op_lt rfl rfl) (no (by first | assumption | omega))) rfl ?_
      refine al_nil ?_
      refine nm ?_
      refine aw_seq ?_
      -- IF t17
      refine aw_no (rfl) ?_
      refine aw_exit ?_
      refine xs ?_
      refine xs ?_
      refine xb ?_
      refine nm ?_
      refine aw_seq ?_
      refine aw_region ?_
      refine st_p (mv rfl) rfl ?_
      -- STOP: call slices.Sort[[]int,int](t27) -> 28
      refine st_o (op_callg [(0, 0)] 1 false [(0, .cells 1 (ints (rl.map fun r => shardI r.key n)))] [0] (hs0) Try.func59 ⟨rfl, rfl⟩ rfl rfl rfl rfl (by omega) (by intro p hp; simp only [List.mem_cons, List.not_mem_nil, or_false] at hp; rcases hp with rfl | rfl | rfl <;> exact ⟨by first | rfl | ((simp [hget, swp, Blk.ren, AV.ren, ints, Function.comp_def]) <;> rfl), rfl⟩) rfl (.cons (.same (by rfl)) .nil) rfl rfl rfl) rfl ?_
      refine al_nil ?_
      refine nm ?_
      refine aw_seq ?_
      refine aw_region ?_
      refine st_p (mv rfl) rfl ?_
      -- STOP: call slices.Compact[[]int,int](t29) -> 30
      refine st_o (op_callg [(0, 0)] 1 false [(0, .cells 1 (ints M))] [0] (hc0) Try.func60 ⟨rfl, rfl⟩ rfl rfl rfl rfl (by omega) (by intro p hp; simp only [List.mem_cons, List.not_mem_nil, or_false] at hp; rcases hp with rfl | rfl <;> exact ⟨by first | rfl | ((simp [hget, swp, Blk.ren, AV.ren, ints, Function.comp_def]) <;> rfl), rfl⟩) rfl (.cons (.same (by rfl)) .nil) rfl rfl rfl) rfl ?_
      refine st_p (mva rfl) rfl ?_
      refine al_nil ?_
      refine nm ?_
      refine aw_ret ?_
      refine ret_a ⟨[(4, .own 0 0 (adjL M).length)], [(0, .cells 1 (ints (adjL M)))], 1⟩ (le_to [] rfl rfl rfl rfl rfl ⟨rfl, trivial⟩ ⟨by simp only [List.map_cons, List.map_nil, ren_intsB]; rfl, trivial⟩) (res1 Try.results16) (.inr ⟨rfl, by simp only [List.all_cons, List.all_nil, hns, Bool.and_true]⟩) ⟨rfl, rfl, rfl⟩

end Go.Proofs.Ytpggknkhldecaaa.Abs
end
section
/-
  Arrays: the place of an element; an element written. It holds of any program.
-/
namespace Go.Proofs.Ytpggknkhldecaaa.Abs

section
variable {P : Program} {tm : List (Nat × AV)} {h : Heap} {nx : Nat}

/-- An element of one cell of an array is written. -/
theorem stE {t : TypeId} {x y : Operand} {b i o sz : Nat} {xs cs : List AV} {v : AV} {h' : Heap} (hz : (P.info? t).map (·.size) = some 1) (hx : oev tm x = .ptr b i o) (hy : oevS tm y = some v) (hb : hget h b = some (.cells sz xs)) (he : xs[i]? = some (.agg cs)) (ho : o < cs.length) (hk : v.one = true)
    (hh : hsetS h b (.cells sz (xs.set i (.agg (cs.set o v)))) = some h') : OpOK P (.store t x y) ⟨tm, h, nx⟩ .top h' nx := by
  have hc : v.cells = [v] := by cases v <;> first | rfl | cases hk
  have hkn : v.known = true := by cases v <;> first | rfl | cases hk
  rw [← hsetS_spec _ _ _ _ hh]
  intro c n ρ S a w hr
  obtain ⟨r, cur, el, f1, f2, f3, _⟩ := own_cells hr hb he
  have f3 : cs.length = sz := f3
  refine store_gen (nx := nx) (e' := .agg (cs.set o v)) hz hx (oevS_spec hy) hb he hkn (by rw [hc]; rfl) (by omega) (by show (cs.set o v).length = sz; rw [List.length_set]; exact f3) (fun j => ?_) c n ρ S a w hr
  show (cs.set o v)[j]? = if o ≤ j ∧ j < o + 1 then v.cells[j - o]? else cs[j]?
  rw [hc]
  by_cases e : o = j
  · subst e
    rw [List.getElem?_set_self ho, if_pos ⟨Nat.le_refl _, by omega⟩, Nat.sub_self]
    rfl
  · rw [List.getElem?_set_ne e, if_neg (by omega)]

end
end Go.Proofs.Ytpggknkhldecaaa.Abs
end
section
/-
  The shards of what is read, plain: rising, and just those.
-/
namespace Go.Proofs.Ytpggknkhldecaaa.Abs

theorem adjL_mem : ∀ (l : List Int) (x : Int), x ∈ adjL l ↔ x ∈ l
  | [], x => Iff.rfl
  | [a], x => Iff.rfl
  | a :: b :: t, x => by
    have ih := adjL_mem (b :: t) x
    simp only [adjL]
    split
    · rename_i h
      subst h
      rw [ih]
      simp
    · rw [List.mem_cons, ih, List.mem_cons (a := x) (b := a)]

theorem adjL_up : ∀ (l : List Int), l.Pairwise (· ≤ ·) → (adjL l).Pairwise (· < ·)
  | [], _ => List.Pairwise.nil
  | [a], _ => by simp [adjL]
  | a :: b :: t, h => by
    have ih := adjL_up (b :: t) (List.Pairwise.of_cons h)
    simp only [adjL]
    split
    · exact ih
    · rename_i hne
      refine List.Pairwise.cons (fun x hx => ?_) ih
      rw [adjL_mem] at hx
      have h1 := List.rel_of_pairwise_cons h List.mem_cons_self
      rcases List.mem_cons.1 hx with rfl | hx
      · omega
      · have := List.rel_of_pairwise_cons (List.Pairwise.of_cons h) hx
        omega

theorem up_of {l : List Int} (h : ∀ a b, a < b → b < l.length → l.getD a 0 ≤ l.getD b 0) : l.Pairwise (· ≤ ·) := by
  rw [List.pairwise_iff_getElem]
  intro i j hi hj hij
  have := h i j hij hj
  rw [List.getD_eq_getElem?_getD, List.getD_eq_getElem?_getD, List.getElem?_eq_getElem hi, List.getElem?_eq_getElem hj] at this
  exact this

/-- What rises is told by what is in it. -/
theorem rise_ext : ∀ {l m : List Int}, l.Pairwise (· < ·) → m.Pairwise (· < ·) → (∀ x, x ∈ l ↔ x ∈ m) → l = m
  | [], [], _, _, _ => rfl
  | [], b :: m, _, _, h => by have := (h b).2 List.mem_cons_self; cases this
  | a :: l, [], _, _, h => by have := (h a).1 List.mem_cons_self; cases this
  | a :: l, b :: m, hl, hm, h => by
    have e : a = b := by
      rcases List.mem_cons.1 ((h a).1 List.mem_cons_self) with h1 | h1
      · exact h1
      · rcases List.mem_cons.1 ((h b).2 List.mem_cons_self) with h2 | h2
        · exact h2.symm
        · have := List.rel_of_pairwise_cons hm h1
          have := List.rel_of_pairwise_cons hl h2
          omega
    subst e
    rw [rise_ext (List.Pairwise.of_cons hl) (List.Pairwise.of_cons hm) fun x => ?_]
    constructor
    · intro hx
      rcases List.mem_cons.1 ((h x).1 (List.mem_cons_of_mem _ hx)) with h1 | h1
      · subst h1
        have := List.rel_of_pairwise_cons hl hx
        omega
      · exact h1
    · intro hx
      rcases List.mem_cons.1 ((h x).2 (List.mem_cons_of_mem _ hx)) with h1 | h1
      · subst h1
        have := List.rel_of_pairwise_cons hm hx
        omega
      · exact h1

theorem readsL_up (ks : List (List UInt8)) (n : Int) : (readsL ks n).Pairwise (· < ·) := by
  refine adjL_up _ (up_of fun a b hab hb => ?_)
  rw [sortL_len] at hb
  exact sortL_up _ _ (by omega) a b hab (by omega)

theorem readsL_mem (ks : List (List UInt8)) (n : Int) (x : Int) : x ∈ readsL ks n ↔ ∃ k ∈ ks, shardI k n = x := by
  unfold readsL
  rw [adjL_mem, sortL_mem _ _ (by omega)]
  unfold shardsL
  rw [List.mem_map]

theorem shardN_lt (n : Nat) (k : List UInt8) (hn : 0 < n) : shardN n k < n := by
  have key : ∀ (k : List UInt8) (s : Nat), s < n → k.foldl (fun s c => (s + c.toNat) % n) s < n := by
    intro k
    induction k with
    | nil => intro s hs; exact hs
    | cons c k ih => intro s hs; exact ih _ (Nat.mod_lt _ hn)
  exact key k 0 hn

theorem shardI_range (k : List UInt8) (n : Int) (hn : 1 ≤ n) : 0 ≤ shardI k n ∧ shardI k n < n := by
  unfold shardI
  rw [if_neg (by omega)]
  have := shardN_lt n.toNat k (by omega)
  omega

end Go.Proofs.Ytpggknkhldecaaa.Abs
end
section
/-
  What a function answers, said under other names, with blocks forgotten. It holds of any program.
-/
namespace Go.Proofs.Ytpggknkhldecaaa.Abs

theorem AC.le {P : Program} {f : FuncId} {args : List AV} {h0 : Heap} {nx0 : Nat} {al : Bool} {Q Q' : AV → Heap → Nat → Prop} (k : AC P f args h0 nx0 al Q)
    (hq : ∀ r h nx, Q r h nx → nx0 ≤ nx ∧ ∃ r' h' nx', Q' r' h' nx' ∧ ∀ c : Ctx, c.nx0 = nx0 → Le c 1 ⟨[(0, r)], h, nx⟩ ⟨[(0, r')], h', nx'⟩) : AC P f args h0 nx0 al Q' := by
  intro ρ S w vals h1 h2 h3
  refine (k ρ S w vals h1 h2 h3).mono fun e w' ⟨v, r, h, nx, ρ', S', a1, a2, a3, a4, a5, a6, a7⟩ => ?_
  obtain ⟨q1, r', h', nx', q2, q3⟩ := hq r h nx a2
  have hr : Rep ⟨w, Own ρ h0, S', ρ, nx0⟩ 1 ⟨[(0, r)], h, nx⟩ ρ' S' { tmps := #[v], defers := [] } w' := by
    refine ⟨rfl, rfl, fun i => ?_, a4, ⟨a7.os, a7.tape, a7.output, a7.size, a7.keep, fun _ h => h, fun _ h => .inl h, fun b B q o1 o2 => a7.own q.blk ⟨b, B, q, o1, o2, rfl⟩, a7.ids⟩, a5, q1, a6⟩
    cases i with
    | zero => exact a3
    | succ i => exact .top
  obtain ⟨ρ2, hr2⟩ := q3 _ rfl _ _ _ _ hr
  refine ⟨v, r', h', nx', ρ2, S', a1, q2, hr2.tmps 0, hr2.sim, hr2.fresh, hr2.dom, a7.os, a7.tape, a7.output, a7.size, a7.keep, fun b ⟨i, B, q, o1, o2, o3⟩ => ?_, a7.s, hr2.post.ids⟩
  subst o3
  exact hr2.post.own i B q o1 o2

/-- A loop's ways out, joined: behind it things stand as J says. -/
theorem aw_cutB {P : Program} {c : Ctx} {n : Nat} {a b : Code} {id : Nat} {Q : Exit → St → Prop} {st : St} (J : St) (h : AW P c n a (inBlockA id (thenA (fun st' => Le c n st' J) Q)) st) (k : AW P c n b Q J) : AW P c n a (inBlockA id (thenA (AW P c n b Q) Q)) st := by
  refine aw_mono (fun e st' hq => ?_) h
  have key : ∀ e, thenA (fun st' => Le c n st' J) Q e st' → thenA (AW P c n b Q) Q e st' := fun e hq => by
    cases e with
    | normal => exact aw_le hq k
    | _ => exact hq
  cases e with
  | exit id' =>
    have hq : (if id' = id then thenA (fun st' => Le c n st' J) Q .normal st' else thenA (fun st' => Le c n st' J) Q (.exit id') st') := hq
    show (if id' = id then thenA (AW P c n b Q) Q .normal st' else thenA (AW P c n b Q) Q (.exit id') st')
    split at hq
    · rename_i h; rw [if_pos h]; exact key _ hq
    · rename_i h; rw [if_neg h]; exact key _ hq
  | normal => exact key .normal hq
  | ret => exact key .ret hq
  | goto l => exact key (.goto l) hq
  | panic ch => exact key (.panic ch) hq
  | outgrown => exact key .outgrown hq

end Go.Proofs.Ytpggknkhldecaaa.Abs
end
section
/-
  What an argument's row has room for: cap, cuts beyond the length, zeros behind it in a new row; copy; slices.overlaps of two rows. It holds of any program.
-/
namespace Go.Proofs.Ytpggknkhldecaaa.Abs

/-- What an operation does in a given context. -/
def OpC (P : Program) (c : Ctx) (n : Nat) (op : Op) (st : St) (v : AV) (h' : Heap) (nx' : Nat) : Prop :=
  ∀ (ρ : Rho) (S : Nat → Prop) (a : Act) (w : World), Rep c n st ρ S a w → ∀ o : Oper, o.op = op → Does P o a w fun u w' => ∃ ρ' S', Rep c n ⟨st.tm, h', nx'⟩ ρ' S' a w' ∧ VR S' w' ρ' v u

theorem st_c {P : Program} {c : Ctx} {n : Nat} {Q : Exit → St → Prop} {ops : Array Oper} {tm : List (Nat × AV)} {hp : Heap} {nx : Nat} {d : Nat} {op : Op} {ty : TypeId} {pos : String} {after : Array Edge} {rst : List Oper} {v : AV} {h' : Heap} {nx' : Nat}
    (h : OpC P c n op ⟨tm, hp, nx⟩ v h' nx') (hd : Nat.blt d n = true) (k : AL P c n ops Q rst ⟨(d, v) :: tm, h', nx'⟩) : AL P c n ops Q (⟨some d, op, ty, pos, after, none⟩ :: rst) ⟨tm, hp, nx⟩ := fun ρ S a w hr => by
  unfold wpList
  rw [if_pos (by simp [Region.wanted])]
  refine .inl ((h ρ S a w hr _ rfl).wp fun u w' ⟨ρ', S', h3, h4⟩ => ?_)
  exact k ρ' S' _ w' (h3.putA (some d) (blt_of hd) h4)

/-- How much room a row has that was handed over. -/
def capR (r0 : Rho) (b : Nat) : Nat := match r0 b with | some r => r.cap | none => 0

section
variable {P : Program} {n : Nat} {w0 : World} {o0 : Nat → Prop} {S0 : Nat → Prop} {r0 : Rho} {nx0 : Nat} {Q : Exit → St → Prop}

theorem capR_of {st : St} {ρ : Rho} {S : Nat → Prop} {a : Act} {w : World} (hr : Rep ⟨w0, o0, S0, r0, nx0⟩ n st ρ S a w) {b : Nat} {r : R} (hb : b < nx0) (hq : ρ b = some r) : capR r0 b = r.cap := by
  have := hr.post.ids b hb
  unfold capR
  rw [show r0 b = some r from this.symm.trans hq]

theorem opc_cap {tm : List (Nat × AV)} {h : Heap} {nx : Nat} {t e : TypeId} {x : Operand} {b st len : Nat} (hu : P.underlying t = some (.slice e)) (hx : oev tm x = .own b st len) (hl : 0 < len) (hb : b < nx0) :
    OpC P ⟨w0, o0, S0, r0, nx0⟩ n (.call { callee := .builtin .cap, args := #[x], argTypes := #[t] }) ⟨tm, h, nx⟩ (.int .i64 ((capR r0 b - st : Nat) : Int)) h nx := fun ρ S a w hr o ho => by
  have hv := ev_vr hr hx
  generalize he : a.eval x = v at hv
  cases hv with
  | own0 => omega
  | @own _ _ _ _ r c q1 q2 q3 =>
    have hc : capR r0 b - st = c := by rw [capR_of hr hb q1]; omega
    have hrun : (execOp a.eval o).run P w = .ok (.value (.int .i64 (c : Int))) w := by
      unfold execOp; rw [ho]; simp [resolve, invoke, builtin, he, Builtin.cap_, run_underlying hu, goInt]
    unfold Does
    rw [hrun, hc]
    exact ⟨ρ, S, hr, .int⟩

def junk (sz : Nat) : AV := if sz = 1 then .top else .agg (List.replicate sz .top)
theorem junk_len (sz : Nat) : (junk sz).cells.length = sz := by
  unfold junk
  split
  · rename_i h; rw [h]; rfl
  · simp [AV.cells]

/-- The room behind a row is a part of it, of which nothing is told. -/
theorem aw_room {code : Code} {tm : List (Nat × AV)} {h h' : Heap} {nx : Nat} (b : Nat) {sz : Nat} {xs : List AV} (hb : hget h b = some (.cells sz xs)) (hbn : b < nx0) (hh : hsetS h b (.cells sz (xs ++ List.replicate (capR r0 b - xs.length) (junk sz))) = some h')
    (k : AW P ⟨w0, o0, S0, r0, nx0⟩ n code Q ⟨tm, h', nx⟩) : AW P ⟨w0, o0, S0, r0, nx0⟩ n code Q ⟨tm, h, nx⟩ := fun ρ S a w hr => by
  have hh := hsetS_spec _ _ _ _ hh
  have hg : ∀ k X, hget h' k = some X → (k = b ∧ X = .cells sz (xs ++ List.replicate (capR r0 b - xs.length) (junk sz))) ∨ (k ≠ b ∧ hget h k = some X) := fun k X hk => by
    rw [← hh, hget_set] at hk
    by_cases e : b = k
    · rw [if_pos e] at hk; exact .inl ⟨e.symm, (Option.some.inj hk).symm⟩
    · rw [if_neg e] at hk; exact .inr ⟨fun e' => e e'.symm, hk⟩
  have old : ∀ k X, hget h' k = some X → ∃ Y, hget h k = some Y := fun k X hk => by
    rcases hg k X hk with ⟨rfl, _⟩ | ⟨_, h2⟩
    · exact ⟨_, hb⟩
    · exact ⟨_, h2⟩
  refine k ρ S a w ⟨hr.size, hr.defers, hr.tmps, ⟨fun k X hk => ?_, fun k k' X X' q q' hk hk' hq hq' hne => ?_, hr.sim.lt⟩, ⟨hr.post.os, hr.post.tape, hr.post.output, hr.post.size, hr.post.keep, hr.post.sIn, hr.post.sNew, fun k X q hk hq => ?_, hr.post.ids⟩, hr.fresh, hr.le, fun k X hk => ?_⟩
  · rcases hg k X hk with ⟨rfl, rfl⟩ | ⟨_, h2⟩
    · rcases hr.sim.blk k _ hb with ⟨r, q1, q2, q3, q4⟩ | ⟨q1, sz', e⟩
      · refine .inl ⟨r, q1, ?_, q3, q4⟩
        obtain ⟨g1, g2, g3, g4, cur, e, g5, g6, g7, g8⟩ := q2
        have hc := capR_of hr hbn q1
        have hall : ∀ x ∈ xs ++ List.replicate (capR r0 k - xs.length) (junk sz), x.cells.length = sz := fun x hx => by
          rcases List.mem_append.1 hx with hx | hx
          · exact g2 x hx
          · rw [(List.mem_replicate.1 hx).2]; exact junk_len sz
        refine ⟨g1, hall, by rw [List.length_append, List.length_replicate, hc]; omega, g4, cur, e, g5, g6, g7, fun i x u hx hu => ?_⟩
        rw [flat_append] at hx
        rcases Nat.lt_or_ge i (flat xs).length with h1 | h1
        · rw [List.getElem?_append_left h1] at hx
          exact g8 i x u hx hu
        · rw [List.getElem?_append_right h1] at hx
          have hm := List.mem_of_getElem? hx
          obtain ⟨y, hy, hxy⟩ := List.mem_flatMap.1 hm
          rw [(List.mem_replicate.1 hy).2] at hxy
          have : x = .top := by
            unfold junk at hxy
            split at hxy
            · simpa [AV.cells] using hxy
            · exact (List.mem_replicate.1 (by simpa [AV.cells] using hxy)).2
          rw [this]
          exact .top
      · have hc : capR r0 k = 0 := by
          unfold capR
          have := hr.post.ids k hbn
          rw [show r0 k = none from this.symm.trans q1]
        simp only [Blk.cells.injEq] at e
        obtain ⟨rfl, rfl⟩ := e
        exact .inr ⟨q1, sz, by rw [hc]; rfl⟩
    · exact hr.sim.blk k X h2
  · obtain ⟨Y, hY⟩ := old k X hk
    obtain ⟨Y', hY'⟩ := old k' X' hk'
    exact hr.sim.inj k k' Y Y' q q' hY hY' hq hq' hne
  · obtain ⟨Y, hY⟩ := old k X hk
    exact hr.post.own k Y q hY hq
  · obtain ⟨Y, hY⟩ := old k X hk
    exact hr.dom k Y hY

/-- Zeros behind a part of a row that has no room for them: a new row. -/
theorem opc_appZg {tm : List (Nat × AV)} {h : Heap} {nx : Nat} {t ti e : TypeId} {k kx : IntKind} {z : Value} {v : AV} {sz bytes b len : Nat} {xs : List AV} {x y : Operand} {m : Int} (ht : P.underlying t = some (.slice e)) (hti : P.underlying ti = some (.int k))
    (hi : (P.info? e).map (fun i => (i.zero, i.size, i.bytes)) = some (some z, sz, bytes)) (hzs : z.cells.size = sz ∧ ∀ (i : Nat) (u : Value), z.cells[i]? = some u → u.oneCell' = true) (hs : 0 < sz) (hv : ofConst z = v) (hvk : v.known = true)
    (hx : oev tm x = .own b 0 len) (hy : oev tm y = .int kx m) (hm : 0 < m) (hb : hget h b = some (.cells sz xs)) (hbn : b < nx0) (hlen : len ≤ xs.length) (hg : (capR r0 b : Int) < len + m) (hb2 : ((len : Int) + m) * bytes ≤ 140737488355328) (hb3 : (len : Int) + m ≤ 140737488355328) :
    OpC P ⟨w0, o0, S0, r0, nx0⟩ n (.call { callee := .builtin .append, args := #[x, y], argTypes := #[t, ti] }) ⟨tm, h, nx⟩ (.own nx 0 (len + m.toNat)) ((nx, .cells sz (xs.take len ++ List.replicate m.toNat v)) :: h) (nx + 1) := fun ρ S a w hr o ho => by
  obtain ⟨q, rfl⟩ : ∃ q : Nat, m = q := ⟨m.toNat, by omega⟩
  rw [Int.toNat_natCast]
  obtain ⟨i, e1, e2⟩ := Option.map_eq_some_iff.1 hi
  obtain ⟨e3, e4, e5⟩ : i.zero = some z ∧ i.size = sz ∧ i.bytes = bytes := by
    have := e2; simp only [Prod.mk.injEq] at this; exact this
  have hvr : VR S w ρ v z := hv ▸ ofConst_VR S w ρ z
  obtain ⟨v1, v2, v3⟩ := hvr.cells hvk
  have hyv := ev_int hr hy
  have hxv := ev_vr hr hx
  -- the part in the world
  obtain ⟨A, cp, olds, t1, t2, t3, t4, t5, t6, t7⟩ : ∃ (A : Option Addr) (cp : Nat) (olds : List Value), a.eval x = .slice A len cp ∧ cp < len + q ∧ olds.length = len * sz ∧ (∀ u ∈ olds, u.oneCell' = true) ∧
      (Builtin.firstCells sz len (.slice A len cp)).run P w.drew = .ok olds.toArray w.drew ∧ (∀ (j : Nat) (y : AV) (u : Value), (flat (xs.take len))[j]? = some y → olds[j]? = some u → VR S w ρ y u) ∧ (∀ q ∈ xs.take len, q.cells.length = sz) := by
    generalize a.eval x = u at hxv
    cases hxv with
    | @own0 _ _ _ A => exact ⟨A, 0, [], rfl, by omega, by simp, fun u hu => by simp at hu, by cases A <;> simp [Builtin.firstCells, loadCells, loadCellsFrom], fun j y u hy hu => by simp at hu, fun q hq => by simp at hq⟩
    | @own _ _ _ _ r cp q1 q2 q3 =>
      rw [Nat.zero_add] at q3
      obtain ⟨g1, g2, k1, k2, k3, k4, cur, el, k5, k6, k7, k8⟩ := blk_of hr hb q1
      have hc := capR_of hr hbn q1
      have hmm : len * sz ≤ cur.size := by rw [k6]; exact Nat.mul_le_mul_right _ (by omega)
      have hol : (cur.toList.take (len * sz)).length = len * sz := by rw [List.length_take, Array.length_toList]; omega
      refine ⟨some ⟨r.blk, 0, none⟩, cp, cur.toList.take (len * sz), by rw [Nat.zero_mul], by omega, hol, fun u hu => ?_, ?_, fun j y u hy hu => ?_, fun q hq => k2 q (List.mem_of_mem_take hq)⟩
      · obtain ⟨j, hj⟩ := List.getElem?_of_mem (List.mem_of_mem_take hu)
        rw [Array.getElem?_toList] at hj
        exact k7 j u hj
      · refine run_firstCells_some w.drew sz len ⟨r.blk, 0, none⟩ len cp _ hol (fun j v hj => ?_)
        have hjl : j < len * sz := by
          rcases Nat.lt_or_ge j (len * sz) with hh | hh
          · exact hh
          · rw [List.getElem?_take, if_neg (by omega)] at hj; cases hj
        rw [List.getElem?_take_of_lt hjl, Array.getElem?_toList] at hj
        rw [Addr.add_lit, Nat.zero_add]
        show w.cell? ⟨r.blk, j, none⟩ = some v
        rw [cell_of k5]
        exact hj
      · have hjl : j < len * sz := by
          rcases Nat.lt_or_ge j (len * sz) with hh | hh
          · exact hh
          · rw [List.getElem?_take, if_neg (by omega)] at hu; cases hu
        rw [List.getElem?_take_of_lt hjl, Array.getElem?_toList] at hu
        have := flat_get k2 0 len j (by omega) hjl
        rw [List.drop_zero, Nat.zero_mul, Nat.zero_add] at this
        rw [this] at hy
        exact k8 j y u hy hu
  have hb2n : (len + q) * bytes ≤ 140737488355328 := by
    have : (((len + q) * bytes : Nat) : Int) ≤ 140737488355328 := by rw [Int.natCast_mul, Int.natCast_add]; exact hb2
    omega
  have hq48 : q * bytes ≤ (len + q) * bytes := Nat.mul_le_mul_right _ (by omega)
  have hge := grownCap_ge w (len + q) cp e
  have hcm := grownCap_le_maxLen w (len + q) cp e (by unfold maxLen; omega)
  rw [← e4] at t5
  have hrun := Lib.run_append_grow_zeros (P := P) w t ti o.type e i z kx k ht hti e1 e3 A len cp olds t5 q (by omega) (by rw [e4]; exact hs) t2 (by omega) (by rw [e5]; omega) (growslice_fits t2 (by rw [e5]; exact hb2n))
  have hvc : v.cells.length = sz := v1.symm.trans hzs.1
  have hall : ∀ p ∈ xs.take len ++ List.replicate q v, p.cells.length = sz := fun p hp => (List.mem_append.1 hp).elim (t7 p) (fun h => by rw [(List.mem_replicate.1 h).2]; exact hvc)
  have hxl : (xs.take len).length = len := by rw [List.length_take]; omega
  have hlen2 : (xs.take len ++ List.replicate q v).length = len + q := by rw [List.length_append, hxl, List.length_replicate]
  have hfl : (flat (xs.take len)).length = len * sz := by rw [flat_len t7, hxl]
  have hcs : (olds.toArray ++ Builtin.zeroCells z.cells q ++ Builtin.zeroCells z.cells (grownCap w (len + q) cp e - (len + q))).size = grownCap w (len + q) cp e * sz := by
    simp only [Array.size_append, List.size_toArray, size_zeroCells, hzs.1, t3, ← Nat.add_mul]
    congr 1
    omega
  have hrep := hr.newBlk (Same.drew w) (olds.toArray ++ Builtin.zeroCells z.cells q ++ Builtin.zeroCells z.cells (grownCap w (len + q) cp e - (len + q))) e (grownCap w (len + q) cp e) sz (xs.take len ++ List.replicate q v) hall (by rw [hlen2]; exact hge) hcm hcs (fun j u hu => by
      rw [Array.getElem?_append] at hu
      split at hu
      · rw [Array.getElem?_append] at hu
        split at hu
        · exact t4 u (by rw [← List.mem_toArray]; exact Array.mem_of_getElem? hu)
        · exact zeroCells_one hzs.2 hu
      · exact zeroCells_one hzs.2 hu) (fun j p u hp hu => by
      have hjl : j < (len + q) * sz := by
        have := (List.getElem?_eq_some_iff.1 hp).1
        rwa [flat_len hall, hlen2] at this
      rw [Array.getElem?_append_left (by simp only [Array.size_append, List.size_toArray, size_zeroCells, hzs.1, t3, ← Nat.add_mul]; exact hjl)] at hu
      rw [flat_append] at hp
      rcases Nat.lt_or_ge j (len * sz) with h1 | h1
      · rw [List.getElem?_append_left (by omega)] at hp
        rw [Array.getElem?_append_left (by rw [List.size_toArray, t3]; exact h1), List.getElem?_toArray] at hu
        exact t6 j p u hp hu
      · rw [List.getElem?_append_right (by omega), hfl] at hp
        rw [Array.getElem?_append_right (by rw [List.size_toArray, t3]; exact h1), List.size_toArray, t3] at hu
        have hj2 : j - len * sz < q * sz := by rw [Nat.add_mul] at hjl; omega
        rw [flat_replicate hvc hs hj2] at hp
        have hu2 : z.cells[(j - len * sz) % sz]? = some u := by
          have hm : (j - len * sz) % z.cells.size < z.cells.size := Nat.mod_lt _ (by rw [hzs.1]; exact hs)
          unfold Builtin.zeroCells at hu
          rw [Array.getElem?_map, Array.getElem?_range, if_pos (by rw [hzs.1]; exact hj2)] at hu
          simp only [Option.map_some, Option.some.injEq] at hu
          rw [hzs.1] at hm
          rw [← hu, hzs.1, getElem!_pos z.cells _ (by rw [hzs.1]; exact hm)]
          simp [hzs.1, hm]
        exact v3 _ p u hp hu2) (fun _ _ h => h)
  unfold Does
  have hex : (execOp a.eval o).run P w = .ok (.value (.slice (some ⟨w.heap.size, 0, none⟩) (len + q) (grownCap w (len + q) cp e))) (w.drew.alloc (.cells (olds.toArray ++ Builtin.zeroCells z.cells q ++ Builtin.zeroCells z.cells (grownCap w (len + q) cp e - (len + q))) e)) := by
    unfold execOp; rw [ho]
    simp only [resolve, invoke, builtin, Sem.run_bind, Sem.run_pure, Result.andThen_ok, List.map_toArray, List.map_cons, List.map_nil, t1, hyv, hrun]
  rw [hex]
  exact ⟨_, S, hrep, .own_at0 (upd_self _ _ _) hge rfl⟩
end

end Go.Proofs.Ytpggknkhldecaaa.Abs
end
