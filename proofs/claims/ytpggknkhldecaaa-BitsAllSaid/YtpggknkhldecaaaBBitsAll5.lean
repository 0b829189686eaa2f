/- Texts of this session, merged: ABitsH, ABitsI, ABitsJ, AbsFH, RunBegun21, ALawBitsAll. -/
import Derived.Test.YtpggknkhldecaaaBBitsAll4
import Derived.Test.YtpggknkhldecaaaBBitsAll3
import Derived.Test.YtpggknkhldecaaaBBitsAll1
set_option linter.unusedVariables false
set_option linter.unusedSimpArgs false
section
/-
  The document's verdicts, and who is missing.
-/
namespace Go.Proofs.Ytpggknkhldecaaa.Abs

theorem verdL_two (row : List Int) : ∀ (ss : List Int) (out : Int), verdL row ss out = 0 → ∀ x ∈ ss, saidI row x ≠ 2
  | [], _, _, x, hx => absurd hx List.not_mem_nil
  | s :: t, out, h, x, hx => by
    rw [verdL] at h
    split at h
    · cases h
    · rename_i h2
      rcases List.mem_cons.1 hx with rfl | hx
      · exact h2
      · split at h
        · exact verdL_two row t _ h x hx
        · exact verdL_two row t _ h x hx

theorem ref_Verdict (t : TX) (n : Nat) (row : List Int) (hn1 : 1 ≤ n) (hn : n ≤ 1000) (hr : t.reads.length ≤ 1000) (hkr : ∀ r ∈ t.reads, r.key.length ≤ 281474976710656) (hrow : row.length ≤ 100000) :
    AC Try.prog 32 [txA t, .int .i64 n, .sl 1 (ints row)] [] 0 false (fun v h nx => v = .int .i64 (verdI row (readsL (t.reads.map RD.key) n)) ∧ h = [] ∧ nx = 0) := by
  have hR := ref_ReadShards t n hn1 hn hr hkr
  have hil := ints_len (readsL (t.reads.map RD.key) n)
  have hip : (ints (readsL (t.reads.map RD.key) n)).all AV.plain = true := by simp [AV.plain, ints]
  have hge : ∀ x ∈ readsL (t.reads.map RD.key) n, 0 ≤ x := fun x hx => by
    obtain ⟨k, _, rfl⟩ := (readsL_mem _ _ _).1 hx
    exact (shardI_range k n (by omega)).1
  have hRL := readsL_le (t.reads.map RD.key) n
  rw [List.length_map] at hRL
  have hwl := ints_len row
  unfold verdI
  generalize readsL (t.reads.map RD.key) n = RL at hR hil hip hge hRL ⊢
  obtain ⟨ses, seq, rl, wl⟩ := t
  dsimp only [txA] at hR hRL hr ⊢
  refine ac_fn Try.func32 rfl rfl rfl rfl (fun w0 S0 r0 => ?_)
  refine aw_seq ?_
  refine aw_region ?_
  refine st_o (bx rfl rfl) rfl ?_
  refine st_p (mva rfl) rfl ?_
  refine al_nil ?_
  refine nm ?_
  refine aw_seq ?_
  refine aw_region ?_
  refine st_p (mva rfl) rfl ?_
  refine al_nil ?_
  refine nm ?_
  refine aw_seq ?_
  refine aw_region ?_
  refine st_p (op_loadA Try.underlying26 rfl z26 rfl rfl rfl rfl) rfl ?_
  refine st_p (mv rfl) rfl ?_
  -- STOP: call diwan/diwanref1.ReadShards(t11, t12) -> 13
  refine st_o ((op_callq (hR) Try.func17 ⟨rfl, rfl⟩ rfl rfl (fun nx => (.cons (.same (by rfl)) (.cons (.same (by rfl)) .nil))) (by rintro _ _ _ ⟨rfl, rfl, rfl⟩; exact (.whole rfl hil.symm hip))).ok) rfl ?_
  refine st_p (mva rfl) rfl ?_
  refine al_nil ?_
  refine nm ?_
  refine aw_seq ?_
  refine aw_seq ?_
  refine aw_region ?_
  refine st_p (mva rfl) rfl ?_
  refine al_nil ?_
  refine nm ?_
  refine aw_block ?_
  -- LOOP
  refine aw_loop (fun p : {p : Nat × Int // p.1 ≤ RL.length ∧ verdL row (RL.drop p.1) p.2 = verdL row RL 1} => ⟨[(2, .sl 1 (ints row)), (7, .int .i64 p.1.2), (8, .sl 1 (ints RL)), (9, .int .i64 p.1.1)], [], 0⟩) (fun p => RL.length - p.1.1) ⟨(0, 1), Nat.zero_le _, rfl⟩ ?_ ?_
  · exact le_to [] rfl rfl rfl rfl rfl ⟨rfl, rfl, rfl, rfl, trivial⟩ trivial
  · rintro ⟨⟨i, out⟩, h1, h2⟩
    dsimp only at h1 h2 ⊢
    by_cases hlt : i < RL.length
    · obtain ⟨x, hx⟩ : ∃ x, RL[i]? = some x := ⟨_, List.getElem?_eq_getElem hlt⟩
      have hxb : (ints RL)[((i : Nat) : Int).toNat]? = some (.int .i64 x) := by rw [Int.toNat_natCast]; exact ints_get hx
      have hd : RL.drop i = x :: RL.drop (i + 1) := by
        rw [List.drop_eq_getElem_cons hlt]; rw [List.getElem?_eq_getElem hlt] at hx; rw [Option.some.inj hx]
      rw [hd, verdL] at h2
      have hx0 := hge x (List.mem_of_getElem? hx)
      by_cases hxr : x < row.length
      · obtain ⟨b, hb⟩ : ∃ b, row[x.toNat]? = some b := ⟨_, List.getElem?_eq_getElem (by omega)⟩
        have hbb := ints_get hb
        have hsd : saidI row x = if b = 1 ∨ b = 2 then b else 0 := by unfold saidI; rw [hb]
        by_cases hb2 : b = 2
        · rw [if_pos (.inr hb2), hb2] at hsd
          rw [if_pos hsd] at h2
          refine aw_seq ?_
          refine aw_seq ?_
          refine aw_region ?_
          refine st_p (mv rfl) rfl ?_
          refine st_p (mv rfl) rfl ?_
          refine st_p (op_len Try.underlying35 rfl) rfl ?_
          refine st_p (OpP.conv (op_lt rfl rfl) (yes (by first | assumption | omega))) rfl ?_
          refine al_nil ?_
          refine nm ?_
          -- IF t17
          refine aw_yes (rfl) ?_
          refine aw_skip ?_
          refine nm ?_
          refine aw_seq ?_
          refine aw_block ?_
          refine aw_seq ?_
          refine aw_region ?_
          refine st_p (mva rfl) rfl ?_
          refine al_nil ?_
          refine nm ?_
          refine aw_seq ?_
          refine aw_seq ?_
          refine aw_region ?_
          refine st_p (mv rfl) rfl ?_
          refine st_p (mv rfl) rfl ?_
          refine st_p (op_indexAddrL Try.underlying35 z3 rfl rfl (by omega) (by first | assumption | rfl)) rfl ?_
          refine st_p (op_load1L Try.underlying3 rfl rfl rfl) rfl ?_
          refine st_p (mv rfl) rfl ?_
          refine st_p (op_len Try.underlying35 rfl) rfl ?_
          refine st_p (OpP.conv (op_lt rfl rfl) (yes (by first | assumption | omega))) rfl ?_
          refine al_nil ?_
          refine nm ?_
          -- IF t26
          refine aw_yes (rfl) ?_
          refine aw_region ?_
          refine st_p (mv rfl) rfl ?_
          refine st_p (mv rfl) rfl ?_
          refine st_p (mv rfl) rfl ?_
          refine st_p (op_indexAddrL Try.underlying35 z3 rfl rfl (by omega) (by first | assumption | rfl)) rfl ?_
          refine st_p (op_load1L Try.underlying3 rfl rfl rfl) rfl ?_
          refine st_p (op_indexAddrL Try.underlying35 z3 rfl rfl (by omega) (by first | assumption | rfl)) rfl ?_
          refine st_p (op_load1L Try.underlying3 rfl rfl rfl) rfl ?_
          refine st_p (mva rfl) rfl ?_
          refine al_nil ?_
          refine nm ?_
          refine aw_seq ?_
          refine aw_seq ?_
          refine aw_region ?_
          refine st_p (mv rfl) rfl ?_
          refine st_p (OpP.conv (op_eq rfl rfl) (yes (by first | assumption | omega))) rfl ?_
          refine al_nil ?_
          refine nm ?_
          -- IF t35
          refine aw_yes (rfl) ?_
          refine aw_seq ?_
          refine aw_region ?_
          refine st_p (mva rfl) rfl ?_
          refine al_nil ?_
          refine nm ?_
          refine aw_ret ?_
          refine rs ?_
          refine rb ?_
          refine rs ?_
          refine rs ?_
          refine rb ?_
          refine rs ?_
          exact ret_a ⟨[(6, .int .i64 2)], [], 0⟩ (le_to [] rfl rfl rfl rfl rfl ⟨rfl, trivial⟩ trivial) (res1 Try.results32) (.inr ⟨rfl, rfl⟩) ⟨by rw [← h2]; rfl, rfl, rfl⟩
        · by_cases hb1 : b = 1
          · rw [if_pos (.inl hb1), hb1] at hsd
            rw [if_neg (by rw [hsd]; decide), if_neg (by rw [hsd]; decide)] at h2
            refine aw_seq ?_
            refine aw_seq ?_
            refine aw_region ?_
            refine st_p (mv rfl) rfl ?_
            refine st_p (mv rfl) rfl ?_
            refine st_p (op_len Try.underlying35 rfl) rfl ?_
            refine st_p (OpP.conv (op_lt rfl rfl) (yes (by first | assumption | omega))) rfl ?_
            refine al_nil ?_
            refine nm ?_
            -- IF t17
            refine aw_yes (rfl) ?_
            refine aw_skip ?_
            refine nm ?_
            refine aw_seq ?_
            refine aw_block ?_
            refine aw_seq ?_
            refine aw_region ?_
            refine st_p (mva rfl) rfl ?_
            refine al_nil ?_
            refine nm ?_
            refine aw_seq ?_
            refine aw_seq ?_
            refine aw_region ?_
            refine st_p (mv rfl) rfl ?_
            refine st_p (mv rfl) rfl ?_
            refine st_p (op_indexAddrL Try.underlying35 z3 rfl rfl (by omega) (by first | assumption | rfl)) rfl ?_
            refine st_p (op_load1L Try.underlying3 rfl rfl rfl) rfl ?_
            refine st_p (mv rfl) rfl ?_
            refine st_p (op_len Try.underlying35 rfl) rfl ?_
            refine st_p (OpP.conv (op_lt rfl rfl) (yes (by first | assumption | omega))) rfl ?_
            refine al_nil ?_
            refine nm ?_
            -- IF t26
            refine aw_yes (rfl) ?_
            refine aw_region ?_
            refine st_p (mv rfl) rfl ?_
            refine st_p (mv rfl) rfl ?_
            refine st_p (mv rfl) rfl ?_
            refine st_p (op_indexAddrL Try.underlying35 z3 rfl rfl (by omega) (by first | assumption | rfl)) rfl ?_
            refine st_p (op_load1L Try.underlying3 rfl rfl rfl) rfl ?_
            refine st_p (op_indexAddrL Try.underlying35 z3 rfl rfl (by omega) (by first | assumption | rfl)) rfl ?_
            refine st_p (op_load1L Try.underlying3 rfl rfl rfl) rfl ?_
            refine st_p (mva rfl) rfl ?_
            refine al_nil ?_
            refine nm ?_
            refine aw_seq ?_
            refine aw_seq ?_
            refine aw_region ?_
            refine st_p (mv rfl) rfl ?_
            refine st_p (OpP.conv (op_eq rfl rfl) (no (by first | assumption | omega))) rfl ?_
            refine al_nil ?_
            refine nm ?_
            -- IF t35
            refine aw_no (rfl) ?_
            refine aw_skip ?_
            refine nm ?_
            refine aw_seq ?_
            refine aw_region ?_
            refine st_p (mv rfl) rfl ?_
            refine st_p (OpP.conv (op_ne rfl rfl) (no (by first | assumption | omega))) rfl ?_
            refine al_nil ?_
            refine nm ?_
            -- IF t37
            refine aw_no (rfl) ?_
            refine aw_skip ?_
            refine nmb ?_
            refine nm ?_
            refine aw_region ?_
            refine st_p (mv rfl) rfl ?_
            refine st_p (op_addi rfl rfl (by omega)) rfl ?_
            refine st_p (mva rfl) rfl ?_
            refine al_nil ?_
            refine nm ?_
            exact ⟨⟨(i + 1, out), by dsimp only; exact ⟨hlt, h2⟩⟩, by dsimp only; omega, le_to [] rfl rfl rfl rfl rfl ⟨rfl, rfl, rfl, rfl, trivial⟩ trivial⟩
          · rw [if_neg (fun h => h.elim hb1 hb2)] at hsd
            rw [if_neg (by rw [hsd]; decide), if_pos hsd] at h2
            refine aw_seq ?_
            refine aw_seq ?_
            refine aw_region ?_
            refine st_p (mv rfl) rfl ?_
            refine st_p (mv rfl) rfl ?_
            refine st_p (op_len Try.underlying35 rfl) rfl ?_
            refine st_p (OpP.conv (op_lt rfl rfl) (yes (by first | assumption | omega))) rfl ?_
            refine al_nil ?_
            refine nm ?_
            -- IF t17
            refine aw_yes (rfl) ?_
            refine aw_skip ?_
            refine nm ?_
            refine aw_seq ?_
            refine aw_block ?_
            refine aw_seq ?_
            refine aw_region ?_
            refine st_p (mva rfl) rfl ?_
            refine al_nil ?_
            refine nm ?_
            refine aw_seq ?_
            refine aw_seq ?_
            refine aw_region ?_
            refine st_p (mv rfl) rfl ?_
            refine st_p (mv rfl) rfl ?_
            refine st_p (op_indexAddrL Try.underlying35 z3 rfl rfl (by omega) (by first | assumption | rfl)) rfl ?_
            refine st_p (op_load1L Try.underlying3 rfl rfl rfl) rfl ?_
            refine st_p (mv rfl) rfl ?_
            refine st_p (op_len Try.underlying35 rfl) rfl ?_
            refine st_p (OpP.conv (op_lt rfl rfl) (yes (by first | assumption | omega))) rfl ?_
            refine al_nil ?_
            refine nm ?_
            -- IF t26
            refine aw_yes (rfl) ?_
            refine aw_region ?_
            refine st_p (mv rfl) rfl ?_
            refine st_p (mv rfl) rfl ?_
            refine st_p (mv rfl) rfl ?_
            refine st_p (op_indexAddrL Try.underlying35 z3 rfl rfl (by omega) (by first | assumption | rfl)) rfl ?_
            refine st_p (op_load1L Try.underlying3 rfl rfl rfl) rfl ?_
            refine st_p (op_indexAddrL Try.underlying35 z3 rfl rfl (by omega) (by first | assumption | rfl)) rfl ?_
            refine st_p (op_load1L Try.underlying3 rfl rfl rfl) rfl ?_
            refine st_p (mva rfl) rfl ?_
            refine al_nil ?_
            refine nm ?_
            refine aw_seq ?_
            refine aw_seq ?_
            refine aw_region ?_
            refine st_p (mv rfl) rfl ?_
            refine st_p (OpP.conv (op_eq rfl rfl) (no (by first | assumption | omega))) rfl ?_
            refine al_nil ?_
            refine nm ?_
            -- IF t35
            refine aw_no (rfl) ?_
            refine aw_skip ?_
            refine nm ?_
            refine aw_seq ?_
            refine aw_region ?_
            refine st_p (mv rfl) rfl ?_
            refine st_p (OpP.conv (op_ne rfl rfl) (yes (by first | assumption | omega))) rfl ?_
            refine al_nil ?_
            refine nm ?_
            -- IF t37
            refine aw_yes (rfl) ?_
            refine aw_region ?_
            refine st_p (mva rfl) rfl ?_
            refine al_nil ?_
            refine nmb ?_
            refine nm ?_
            refine aw_region ?_
            refine st_p (mv rfl) rfl ?_
            refine st_p (op_addi rfl rfl (by omega)) rfl ?_
            refine st_p (mva rfl) rfl ?_
            refine al_nil ?_
            refine nm ?_
            exact ⟨⟨(i + 1, 0), by dsimp only; exact ⟨hlt, h2⟩⟩, by dsimp only; omega, le_to [] rfl rfl rfl rfl rfl ⟨rfl, rfl, rfl, rfl, trivial⟩ trivial⟩
      · have hsd : saidI row x = 0 := by unfold saidI; rw [List.getElem?_eq_none (by omega)]
        rw [if_neg (by rw [hsd]; decide), if_pos hsd] at h2
        refine aw_seq ?_
        refine aw_seq ?_
        refine aw_region ?_
        refine st_p (mv rfl) rfl ?_
        refine st_p (mv rfl) rfl ?_
        refine st_p (op_len Try.underlying35 rfl) rfl ?_
        refine st_p (OpP.conv (op_lt rfl rfl) (yes (by first | assumption | omega))) rfl ?_
        refine al_nil ?_
        refine nm ?_
        -- IF t17
        refine aw_yes (rfl) ?_
        refine aw_skip ?_
        refine nm ?_
        refine aw_seq ?_
        refine aw_block ?_
        refine aw_seq ?_
        refine aw_region ?_
        refine st_p (mva rfl) rfl ?_
        refine al_nil ?_
        refine nm ?_
        refine aw_seq ?_
        refine aw_seq ?_
        refine aw_region ?_
        refine st_p (mv rfl) rfl ?_
        refine st_p (mv rfl) rfl ?_
        refine st_p (op_indexAddrL Try.underlying35 z3 rfl rfl (by omega) (by first | assumption | rfl)) rfl ?_
        refine st_p (op_load1L Try.underlying3 rfl rfl rfl) rfl ?_
        refine st_p (mv rfl) rfl ?_
        refine st_p (op_len Try.underlying35 rfl) rfl ?_
        refine st_p (OpP.conv (op_lt rfl rfl) (no (by first | assumption | omega))) rfl ?_
        refine al_nil ?_
        refine nm ?_
        -- IF t26
        refine aw_no (rfl) ?_
        refine aw_skip ?_
        refine nm ?_
        refine aw_seq ?_
        refine aw_seq ?_
        refine aw_region ?_
        refine st_p (mv rfl) rfl ?_
        refine st_p (OpP.conv (op_eq rfl rfl) (no (by first | assumption | omega))) rfl ?_
        refine al_nil ?_
        refine nm ?_
        -- IF t35
        refine aw_no (rfl) ?_
        refine aw_skip ?_
        refine nm ?_
        refine aw_seq ?_
        refine aw_region ?_
        refine st_p (mv rfl) rfl ?_
        refine st_p (OpP.conv (op_ne rfl rfl) (yes (by first | assumption | omega))) rfl ?_
        refine al_nil ?_
        refine nm ?_
        -- IF t37
        refine aw_yes (rfl) ?_
        refine aw_region ?_
        refine st_p (mva rfl) rfl ?_
        refine al_nil ?_
        refine nmb ?_
        refine nm ?_
        refine aw_region ?_
        refine st_p (mv rfl) rfl ?_
        refine st_p (op_addi rfl rfl (by omega)) rfl ?_
        refine st_p (mva rfl) rfl ?_
        refine al_nil ?_
        refine nm ?_
        exact ⟨⟨(i + 1, 0), by dsimp only; exact ⟨hlt, h2⟩⟩, by dsimp only; omega, le_to [] rfl rfl rfl rfl rfl ⟨rfl, rfl, rfl, rfl, trivial⟩ trivial⟩
    · rw [List.drop_of_length_le (by omega), verdL] at h2
      refine aw_seq ?_
      refine aw_seq ?_
      refine aw_region ?_
      refine st_p (mv rfl) rfl ?_
      refine st_p (mv rfl) rfl ?_
      refine st_p (op_len Try.underlying35 rfl) rfl ?_
      refine st_p (OpP.conv (op_lt rfl rfl) (no (by first | assumption | omega))) rfl ?_
      refine al_nil ?_
      refine nm ?_
      -- IF t17
      refine aw_no (rfl) ?_
      refine aw_exit ?_
      refine xs ?_
      refine xs ?_
      refine xb ?_
      refine nm ?_
      refine aw_seq ?_
      refine aw_region ?_
      refine st_p (mv rfl) rfl ?_
      refine st_p (mva rfl) rfl ?_
      refine al_nil ?_
      refine nm ?_
      refine aw_ret ?_
      exact ret_a ⟨[(6, .int .i64 out)], [], 0⟩ (le_to [] rfl rfl rfl rfl rfl ⟨rfl, trivial⟩ trivial) (res1 Try.results32) (.inr ⟨rfl, rfl⟩) ⟨by rw [← h2]; rfl, rfl, rfl⟩

theorem ref_Missing_no (t : TX) (n : Nat) (row : List Int) (hn1 : 1 ≤ n) (hn : n ≤ 1000) (hr : t.reads.length ≤ 1000) (hkr : ∀ r ∈ t.reads, r.key.length ≤ 281474976710656) (hrow : row.length ≤ 100000)
    (hv : ¬ verdI row (readsL (t.reads.map RD.key) n) = 0) :
    AC Try.prog 34 [txA t, .int .i64 n, .sl 1 (ints row)] [] 0 false (fun v h nx => v = .nils ∧ h = [] ∧ nx = 0) := by
  have hV := ref_Verdict t n row hn1 hn hr hkr hrow
  generalize verdI row (readsL (t.reads.map RD.key) n) = V at hV hv
  obtain ⟨ses, seq, rl, wl⟩ := t
  dsimp only [txA] at hV ⊢
  refine ac_fn Try.func34 rfl rfl rfl rfl (fun w0 S0 r0 => ?_)
  refine aw_seq ?_
  refine aw_region ?_
  refine st_o (bx rfl rfl) rfl ?_
  refine st_p (mva rfl) rfl ?_
  refine al_nil ?_
  refine nm ?_
  refine aw_seq ?_
  refine aw_region ?_
  refine st_p (mva rfl) rfl ?_
  refine al_nil ?_
  refine nm ?_
  refine aw_seq ?_
  refine aw_seq ?_
  refine aw_region ?_
  refine st_p (op_loadA Try.underlying26 rfl z26 rfl rfl rfl rfl) rfl ?_
  refine st_p (mv rfl) rfl ?_
  refine st_p (mv rfl) rfl ?_
  -- STOP: call diwan/diwanref13.Verdict(t10, t11, t12) -> 13
  refine st_o ((op_callq (hV) Try.func32 ⟨rfl, rfl⟩ rfl rfl (fun nx => (.cons (.same (by rfl)) (.cons (.same (by rfl)) (.cons (.same (by rfl)) .nil)))) (by rintro _ _ _ ⟨rfl, rfl, rfl⟩; exact .same rfl)).ok) rfl ?_
  refine st_p (OpP.conv (op_ne rfl rfl) (yes (by first | assumption | omega))) rfl ?_
  refine al_nil ?_
  refine nm ?_
  -- IF t14
  refine aw_yes (rfl) ?_
  refine aw_seq ?_
  refine aw_region ?_
  refine st_p (mva rfl) rfl ?_
  refine al_nil ?_
  refine nm ?_
  refine aw_ret ?_
  refine rs ?_
  exact ret_a ⟨[(6, .nils)], [], 0⟩ (le_to [] rfl rfl rfl rfl rfl ⟨rfl, trivial⟩ trivial) (res1 Try.results34) (.inr ⟨rfl, rfl⟩) ⟨rfl, rfl, rfl⟩

theorem ref_Missing (t : TX) (n : Nat) (row : List Int) (hn1 : 1 ≤ n) (hn : n ≤ 1000) (hr : t.reads.length ≤ 1000) (hkr : ∀ r ∈ t.reads, r.key.length ≤ 281474976710656) (hrow : row.length ≤ 100000)
    (hv : verdI row (readsL (t.reads.map RD.key) n) = 0) :
    AC Try.prog 34 [txA t, .int .i64 n, .sl 1 (ints row)] [] 0 false (fun v h nx => v = .own 0 0 (missI row (readsL (t.reads.map RD.key) n)).length ∧ h = [(0, .cells 1 (ints (missI row (readsL (t.reads.map RD.key) n))))] ∧ nx = 1) := by
  have hV := ref_Verdict t n row hn1 hn hr hkr hrow
  have hR := ref_ReadShards t n hn1 hn hr hkr
  have hRL := readsL_le (t.reads.map RD.key) n
  rw [List.length_map] at hRL
  have hge : ∀ x ∈ readsL (t.reads.map RD.key) n, 0 ≤ x := fun x hx => by
    obtain ⟨k, _, rfl⟩ := (readsL_mem _ _ _).1 hx
    exact (shardI_range k n (by omega)).1
  have hno := verdL_two row (readsL (t.reads.map RD.key) n) 1 hv
  have hwl := ints_len row
  have hns : ∀ m : List Int, (Blk.cells 1 (ints m)).nosl = true := fun m => by simp [Blk.nosl, AV.nosl, ints]
  unfold missI
  rw [if_pos hv]
  generalize verdI row (readsL (t.reads.map RD.key) n) = V at hV hv
  subst hv
  generalize readsL (t.reads.map RD.key) n = RL at hR hge hRL hno ⊢
  have hil := ints_len RL
  have hip : (ints RL).all AV.plain = true := by simp [AV.plain, ints]
  obtain ⟨ses, seq, rl, wl⟩ := t
  dsimp only [txA] at hV hR hr hRL ⊢
  refine ac_fn Try.func34 rfl rfl rfl rfl (fun w0 S0 r0 => ?_)
  refine aw_seq ?_
  refine aw_region ?_
  refine st_o (bx rfl rfl) rfl ?_
  refine st_p (mva rfl) rfl ?_
  refine al_nil ?_
  refine nm ?_
  refine aw_seq ?_
  refine aw_region ?_
  refine st_p (mva rfl) rfl ?_
  refine al_nil ?_
  refine nm ?_
  refine aw_seq ?_
  refine aw_seq ?_
  refine aw_region ?_
  refine st_p (op_loadA Try.underlying26 rfl z26 rfl rfl rfl rfl) rfl ?_
  refine st_p (mv rfl) rfl ?_
  refine st_p (mv rfl) rfl ?_
  -- STOP: call diwan/diwanref13.Verdict(t10, t11, t12) -> 13
  refine st_o ((op_callq (hV) Try.func32 ⟨rfl, rfl⟩ rfl rfl (fun nx => (.cons (.same (by rfl)) (.cons (.same (by rfl)) (.cons (.same (by rfl)) .nil)))) (by rintro _ _ _ ⟨rfl, rfl, rfl⟩; exact .same rfl)).ok) rfl ?_
  refine st_p (OpP.conv (op_ne rfl rfl) (no (by first | assumption | omega))) rfl ?_
  refine al_nil ?_
  refine nm ?_
  -- IF t14
  refine aw_no (rfl) ?_
  refine aw_skip ?_
  refine nm ?_
  refine aw_seq ?_
  refine aw_region ?_
  refine st_p (op_loadA Try.underlying26 rfl z26 rfl rfl rfl rfl) rfl ?_
  refine st_p (mv rfl) rfl ?_
  -- STOP: call diwan/diwanref1.ReadShards(t15, t16) -> 17
  refine st_o ((op_callq (hR) Try.func17 ⟨rfl, rfl⟩ rfl rfl (fun nx => (.cons (.same (by rfl)) (.cons (.same (by rfl)) .nil))) (by rintro _ _ _ ⟨rfl, rfl, rfl⟩; exact (.whole rfl hil.symm hip))).ok) rfl ?_
  refine st_p (mva rfl) rfl ?_
  refine al_nil ?_
  refine nm ?_
  refine aw_seq ?_
  refine aw_seq ?_
  refine aw_region ?_
  refine st_p (mva rfl) rfl ?_
  refine al_nil ?_
  refine nm ?_
  refine aw_block ?_
  -- LOOP
  refine aw_virt 7 1 rfl ?_
  refine aw_loop (fun i : {i : Nat // i ≤ RL.length} => ⟨[(2, .sl 1 (ints row)), (7, .own 0 0 ((RL.take i.1).filter (openB row)).length), (8, .sl 1 (ints RL)), (9, .int .i64 i.1)], [(0, .cells 1 (ints ((RL.take i.1).filter (openB row))))], 1⟩) (fun i => RL.length - i.1) ⟨0, Nat.zero_le _⟩ ?_ ?_
  · exact le_to [(0, 1)] rfl rfl rfl rfl rfl ⟨rfl, rfl, rfl, rfl, trivial⟩ ⟨rfl, trivial⟩
  · rintro ⟨i, hi⟩
    dsimp only
    have hul := ints_len ((RL.take i).filter (openB row))
    have hub : ((RL.take i).filter (openB row)).length ≤ i := Nat.le_trans (List.length_filter_le _ _) (by rw [List.length_take]; omega)
    by_cases hlt : i < RL.length
    · obtain ⟨x, hx⟩ : ∃ x, RL[i]? = some x := ⟨_, List.getElem?_eq_getElem hlt⟩
      have hxb : (ints RL)[((i : Nat) : Int).toNat]? = some (.int .i64 x) := by rw [Int.toNat_natCast]; exact ints_get hx
      have hx0 := hge x (List.mem_of_getElem? hx)
      have hx2 := hno x (List.mem_of_getElem? hx)
      have hft := filter_take (openB row) RL i x hx
      generalize (RL.take i).filter (openB row) = U at hul hft hub ⊢
      by_cases hxr : x < row.length
      · obtain ⟨b, hb⟩ : ∃ b, row[x.toNat]? = some b := ⟨_, List.getElem?_eq_getElem (by omega)⟩
        have hbb := ints_get hb
        have hsd : saidI row x = if b = 1 ∨ b = 2 then b else 0 := by unfold saidI; rw [hb]
        by_cases hb1 : b = 1
        · rw [if_pos (.inl hb1), hb1] at hsd
          rw [if_neg (by unfold openB; rw [hsd]; decide), List.append_nil] at hft
          refine aw_seq ?_
          refine aw_seq ?_
          refine aw_region ?_
          refine st_p (mv rfl) rfl ?_
          refine st_p (mv rfl) rfl ?_
          refine st_p (op_len Try.underlying35 rfl) rfl ?_
          refine st_p (OpP.conv (op_lt rfl rfl) (yes (by first | assumption | omega))) rfl ?_
          refine al_nil ?_
          refine nm ?_
          -- IF t21
          refine aw_yes (rfl) ?_
          refine aw_skip ?_
          refine nm ?_
          refine aw_seq ?_
          refine aw_block ?_
          refine aw_seq ?_
          refine aw_region ?_
          refine st_p (mv rfl) rfl ?_
          refine st_p (mv rfl) rfl ?_
          refine st_p (op_indexAddrL Try.underlying35 z3 rfl rfl (by omega) (by first | assumption | rfl)) rfl ?_
          refine st_p (op_load1L Try.underlying3 rfl rfl rfl) rfl ?_
          refine st_p (mv rfl) rfl ?_
          refine st_p (op_len Try.underlying35 rfl) rfl ?_
          refine st_p (OpP.conv (op_ge rfl rfl) (no (by first | assumption | omega))) rfl ?_
          refine st_p (mv rfl) rfl ?_
          refine st_pg rfl rfl rfl (mv rfl) rfl ?_
          refine st_pg rfl rfl rfl (mv rfl) rfl ?_
          refine st_pg rfl rfl rfl (mv rfl) rfl ?_
          refine st_pg rfl rfl rfl (op_indexAddrL Try.underlying35 z3 rfl rfl (by omega) (by first | assumption | rfl)) rfl ?_
          refine st_pg rfl rfl rfl (op_load1L Try.underlying3 rfl rfl rfl) rfl ?_
          refine st_pg rfl rfl rfl (op_indexAddrL Try.underlying35 z3 rfl rfl (by omega) (by first | assumption | rfl)) rfl ?_
          refine st_pg rfl rfl rfl (op_load1L Try.underlying3 rfl rfl rfl) rfl ?_
          refine st_pg rfl rfl rfl (OpP.conv (op_ne rfl rfl) (no (by first | assumption | omega))) rfl ?_
          refine st_p (pkF rfl rfl) rfl ?_
          refine al_nil ?_
          refine nm ?_
          -- IF t40
          refine aw_no (rfl) ?_
          refine aw_skip ?_
          refine nmb ?_
          refine nm ?_
          refine aw_region ?_
          refine st_p (mv rfl) rfl ?_
          refine st_p (op_addi rfl rfl (by omega)) rfl ?_
          refine st_p (mva rfl) rfl ?_
          refine al_nil ?_
          refine nm ?_
          exact ⟨⟨i + 1, hlt⟩, by dsimp only; omega, le_to [] rfl rfl rfl rfl rfl ⟨rfl, by dsimp only; rw [hft]; rfl, rfl, rfl, trivial⟩ ⟨by rw [ren_intsB, hft]; rfl, trivial⟩⟩
        · have hz : saidI row x = 0 := by
            rw [hsd]
            by_cases hb2 : b = 2
            · rw [if_pos (.inr hb2), hb2] at hsd; exact absurd hsd hx2
            · exact if_neg (fun h => h.elim hb1 hb2)
          rw [if_pos (by unfold openB; rw [hz]; rfl)] at hft
          refine aw_seq ?_
          refine aw_seq ?_
          refine aw_region ?_
          refine st_p (mv rfl) rfl ?_
          refine st_p (mv rfl) rfl ?_
          refine st_p (op_len Try.underlying35 rfl) rfl ?_
          refine st_p (OpP.conv (op_lt rfl rfl) (yes (by first | assumption | omega))) rfl ?_
          refine al_nil ?_
          refine nm ?_
          -- IF t21
          refine aw_yes (rfl) ?_
          refine aw_skip ?_
          refine nm ?_
          refine aw_seq ?_
          refine aw_block ?_
          refine aw_seq ?_
          refine aw_region ?_
          refine st_p (mv rfl) rfl ?_
          refine st_p (mv rfl) rfl ?_
          refine st_p (op_indexAddrL Try.underlying35 z3 rfl rfl (by omega) (by first | assumption | rfl)) rfl ?_
          refine st_p (op_load1L Try.underlying3 rfl rfl rfl) rfl ?_
          refine st_p (mv rfl) rfl ?_
          refine st_p (op_len Try.underlying35 rfl) rfl ?_
          refine st_p (OpP.conv (op_ge rfl rfl) (no (by first | assumption | omega))) rfl ?_
          refine st_p (mv rfl) rfl ?_
          refine st_pg rfl rfl rfl (mv rfl) rfl ?_
          refine st_pg rfl rfl rfl (mv rfl) rfl ?_
          refine st_pg rfl rfl rfl (mv rfl) rfl ?_
          refine st_pg rfl rfl rfl (op_indexAddrL Try.underlying35 z3 rfl rfl (by omega) (by first | assumption | rfl)) rfl ?_
          refine st_pg rfl rfl rfl (op_load1L Try.underlying3 rfl rfl rfl) rfl ?_
          refine st_pg rfl rfl rfl (op_indexAddrL Try.underlying35 z3 rfl rfl (by omega) (by first | assumption | rfl)) rfl ?_
          refine st_pg rfl rfl rfl (op_load1L Try.underlying3 rfl rfl rfl) rfl ?_
          refine st_pg rfl rfl rfl (OpP.conv (op_ne rfl rfl) (yes (by first | assumption | omega))) rfl ?_
          refine st_p (pkF rfl rfl) rfl ?_
          refine al_nil ?_
          refine nm ?_
          -- IF t40
          refine aw_yes (rfl) ?_
          refine aw_region ?_
          refine st_p (mv rfl) rfl ?_
          refine st_p (mv rfl) rfl ?_
          refine st_p (mv rfl) rfl ?_
          refine st_p (op_indexAddrL Try.underlying35 z3 rfl rfl (by omega) (by first | assumption | rfl)) rfl ?_
          refine st_p (op_load1L Try.underlying3 rfl rfl rfl) rfl ?_
          refine st_o (bsl Try.underlying35 i3 o3 (by decide) rfl rfl rfl (by decide)) rfl ?_
          refine st_o (op_app Try.underlying35 Try.underlying35 (.inl ⟨_, rfl⟩) i3 o3 rfl rfl rfl (by first | rfl | omega | (simp; done) | (simp; omega)) ((SrcA.whole rfl (by first | rfl | (simp; done))).ok rfl (by first | assumption | intro z hz; simp only [List.mem_singleton, List.drop_zero, List.take_succ_cons, List.take_zero, List.mem_cons, List.not_mem_nil, or_false, List.mem_map] at hz; first | (subst hz; rfl) | (obtain ⟨_, _, rfl⟩ := hz; rfl) | (rcases hz with rfl | rfl <;> rfl))) (by first | omega | (simp; try omega)) rfl) rfl ?_
          refine st_p (mva rfl) rfl ?_
          refine al_nil ?_
          refine nmb ?_
          refine nm ?_
          refine aw_region ?_
          refine st_p (mv rfl) rfl ?_
          refine st_p (op_addi rfl rfl (by omega)) rfl ?_
          refine st_p (mva rfl) rfl ?_
          refine al_nil ?_
          refine nm ?_
          refine ⟨⟨i + 1, hlt⟩, by dsimp only; omega, le_to [(0, 2)] rfl rfl rfl rfl rfl ⟨rfl, ?_, rfl, rfl, trivial⟩ ⟨?_, trivial⟩⟩
          · simp only [tget, AV.ren, swp]
            simp [hul, hft]
          · rw [ren_intsB, hft]
            simp [hget, swp, ints]
      · have hz : saidI row x = 0 := by unfold saidI; rw [List.getElem?_eq_none (by omega)]
        rw [if_pos (by unfold openB; rw [hz]; rfl)] at hft
        refine aw_seq ?_
        refine aw_seq ?_
        refine aw_region ?_
        refine st_p (mv rfl) rfl ?_
        refine st_p (mv rfl) rfl ?_
        refine st_p (op_len Try.underlying35 rfl) rfl ?_
        refine st_p (OpP.conv (op_lt rfl rfl) (yes (by first | assumption | omega))) rfl ?_
        refine al_nil ?_
        refine nm ?_
        -- IF t21
        refine aw_yes (rfl) ?_
        refine aw_skip ?_
        refine nm ?_
        refine aw_seq ?_
        refine aw_block ?_
        refine aw_seq ?_
        refine aw_region ?_
        refine st_p (mv rfl) rfl ?_
        refine st_p (mv rfl) rfl ?_
        refine st_p (op_indexAddrL Try.underlying35 z3 rfl rfl (by omega) (by first | assumption | rfl)) rfl ?_
        refine st_p (op_load1L Try.underlying3 rfl rfl rfl) rfl ?_
        refine st_p (mv rfl) rfl ?_
        refine st_p (op_len Try.underlying35 rfl) rfl ?_
        refine st_p (OpP.conv (op_ge rfl rfl) (yes (by first | assumption | omega))) rfl ?_
        refine st_p (mv rfl) rfl ?_
        refine st_s rfl rfl rfl rfl rfl ?_
        refine st_s rfl rfl rfl rfl rfl ?_
        refine st_s rfl rfl rfl rfl rfl ?_
        refine st_s rfl rfl rfl rfl rfl ?_
        refine st_s rfl rfl rfl rfl rfl ?_
        refine st_s rfl rfl rfl rfl rfl ?_
        refine st_s rfl rfl rfl rfl rfl ?_
        refine st_s rfl rfl rfl rfl rfl ?_
        refine st_p (pkT rfl rfl) rfl ?_
        refine al_nil ?_
        refine nm ?_
        -- IF t40
        refine aw_yes (rfl) ?_
        refine aw_region ?_
        refine st_p (mv rfl) rfl ?_
        refine st_p (mv rfl) rfl ?_
        refine st_p (mv rfl) rfl ?_
        refine st_p (op_indexAddrL Try.underlying35 z3 rfl rfl (by omega) (by first | assumption | rfl)) rfl ?_
        refine st_p (op_load1L Try.underlying3 rfl rfl rfl) rfl ?_
        refine st_o (bsl Try.underlying35 i3 o3 (by decide) rfl rfl rfl (by decide)) rfl ?_
        refine st_o (op_app Try.underlying35 Try.underlying35 (.inl ⟨_, rfl⟩) i3 o3 rfl rfl rfl (by first | rfl | omega | (simp; done) | (simp; omega)) ((SrcA.whole rfl (by first | rfl | (simp; done))).ok rfl (by first | assumption | intro z hz; simp only [List.mem_singleton, List.drop_zero, List.take_succ_cons, List.take_zero, List.mem_cons, List.not_mem_nil, or_false, List.mem_map] at hz; first | (subst hz; rfl) | (obtain ⟨_, _, rfl⟩ := hz; rfl) | (rcases hz with rfl | rfl <;> rfl))) (by first | omega | (simp; try omega)) rfl) rfl ?_
        refine st_p (mva rfl) rfl ?_
        refine al_nil ?_
        refine nmb ?_
        refine nm ?_
        refine aw_region ?_
        refine st_p (mv rfl) rfl ?_
        refine st_p (op_addi rfl rfl (by omega)) rfl ?_
        refine st_p (mva rfl) rfl ?_
        refine al_nil ?_
        refine nm ?_
        refine ⟨⟨i + 1, hlt⟩, by dsimp only; omega, le_to [(0, 2)] rfl rfl rfl rfl rfl ⟨rfl, ?_, rfl, rfl, trivial⟩ ⟨?_, trivial⟩⟩
        · simp only [tget, AV.ren, swp]
          simp [hul, hft]
        · rw [ren_intsB, hft]
          simp [hget, swp, ints]
    · clear hub
      rw [List.take_of_length_le (by omega)] at hul ⊢
      generalize RL.filter (openB row) = U at hul ⊢
      refine aw_seq ?_
      refine aw_seq ?_
      refine aw_region ?_
      refine st_p (mv rfl) rfl ?_
      refine st_p (mv rfl) rfl ?_
      refine st_p (op_len Try.underlying35 rfl) rfl ?_
      refine st_p (OpP.conv (op_lt rfl rfl) (no (by first | assumption | omega))) rfl ?_
      refine al_nil ?_
      refine nm ?_
      -- IF t21
      refine aw_no (rfl) ?_
      refine aw_exit ?_
      refine xs ?_
      refine xs ?_
      refine xb ?_
      refine nm ?_
      refine aw_seq ?_
      refine aw_region ?_
      refine st_p (mv rfl) rfl ?_
      refine st_p (mva rfl) rfl ?_
      refine al_nil ?_
      refine nm ?_
      refine aw_ret ?_
      exact ret_a ⟨[(6, .own 0 0 U.length)], [(0, .cells 1 (ints U))], 1⟩ (le_to [] rfl rfl rfl rfl rfl ⟨rfl, trivial⟩ ⟨by rw [ren_intsB]; rfl, trivial⟩) (res1 Try.results34) (.inr ⟨rfl, by simp only [List.all_cons, List.all_nil, hns, Bool.and_true]⟩) ⟨rfl, rfl, rfl⟩

end Go.Proofs.Ytpggknkhldecaaa.Abs
end
section
/-
  The document's notes, one more; notes for both.
-/
namespace Go.Proofs.Ytpggknkhldecaaa.Abs

theorem ref_AddNote (l : List NT) (p s b : Int) (hl : l.length ≤ 90000) (hr : RisN l) :
    AC Try.prog 71 [.sl 3 (nts l), .int .i64 p, .int .i64 s, .int .i64 b] [] 0 false (fun v h nx => v = .own 0 0 (addN l p s b).length ∧ h = [(0, .cells 3 (nts (addN l p s b)))] ∧ nx = 1) := by
  have hnl := nts_len l
  have hzl : ∀ z ∈ nts l, z.cells.length = 3 := nts_sz l
  have hcl := cntN_le l p s
  by_cases hb : b ≠ 1 ∧ b ≠ 2
  · rw [addN_same (.inr hb)]
    obtain ⟨h1, h2⟩ := hb
    refine ac_fn Try.func71 rfl rfl rfl rfl (fun w0 S0 r0 => ?_)
    refine aw_seq ?_
    refine aw_region ?_
    refine st_p (mva rfl) rfl ?_
    refine al_nil ?_
    refine nm ?_
    refine aw_seq ?_
    refine aw_region ?_
    refine st_o (bsl Try.underlying45 i50 o50 (by decide) rfl rfl rfl (by decide)) rfl ?_
    refine st_p (mv rfl) rfl ?_
    refine st_o (op_app Try.underlying45 Try.underlying45 (.inl ⟨_, rfl⟩) i50 o50 rfl rfl rfl (by first | rfl | omega | (simp; done) | (simp; omega)) ((SrcA.sl (.inr trivial)).ok rfl (by first | assumption | intro z hz; simp only [List.mem_singleton, List.drop_zero, List.take_succ_cons, List.take_zero, List.mem_cons, List.not_mem_nil, or_false, List.mem_map] at hz; first | (subst hz; rfl) | (obtain ⟨_, _, rfl⟩ := hz; rfl) | (rcases hz with rfl | rfl <;> rfl))) (by first | omega | (simp; try omega)) rfl) rfl ?_
    refine st_p (mva rfl) rfl ?_
    refine al_nil ?_
    refine nm ?_
    refine aw_seq ?_
    refine aw_seq ?_
    refine aw_region ?_
    refine st_p (mv rfl) rfl ?_
    refine st_p (OpP.conv (op_ne rfl rfl) (yes (by first | assumption | omega))) rfl ?_
    refine st_p (mv rfl) rfl ?_
    refine st_pg rfl rfl rfl (mv rfl) rfl ?_
    refine st_pg rfl rfl rfl (OpP.conv (op_ne rfl rfl) (yes (by first | assumption | omega))) rfl ?_
    refine st_p (pkT rfl rfl) rfl ?_
    refine al_nil ?_
    refine nm ?_
    -- IF t19
    refine aw_yes (rfl) ?_
    refine aw_seq ?_
    refine aw_region ?_
    refine st_p (mv rfl) rfl ?_
    refine st_p (mva rfl) rfl ?_
    refine al_nil ?_
    refine nm ?_
    refine aw_ret ?_
    refine rs ?_
    exact ret_a ⟨[(8, .own 0 0 l.length)], [(0, .cells 3 (nts l))], 1⟩ (le_to [(0, 1)] rfl rfl rfl rfl rfl ⟨congrArg (AV.own 1 0) hnl, trivial⟩ ⟨by simp only [Blk.ren, ren_nts, List.map_cons, List.map_nil]; rfl, trivial⟩) (res1 Try.results71) (.inr ⟨rfl, by simp only [List.all_cons, List.all_nil, nts_nosl, Bool.and_true]⟩) ⟨rfl, rfl, rfl⟩
  · by_cases h1 : b = 1
    · skip
      refine ac_fn Try.func71 rfl rfl rfl rfl (fun w0 S0 r0 => ?_)
      refine aw_seq ?_
      refine aw_region ?_
      refine st_p (mva rfl) rfl ?_
      refine al_nil ?_
      refine nm ?_
      refine aw_seq ?_
      refine aw_region ?_
      refine st_o (bsl Try.underlying45 i50 o50 (by decide) rfl rfl rfl (by decide)) rfl ?_
      refine st_p (mv rfl) rfl ?_
      refine st_o (op_app Try.underlying45 Try.underlying45 (.inl ⟨_, rfl⟩) i50 o50 rfl rfl rfl (by first | rfl | omega | (simp; done) | (simp; omega)) ((SrcA.sl (.inr trivial)).ok rfl (by first | assumption | intro z hz; simp only [List.mem_singleton, List.drop_zero, List.take_succ_cons, List.take_zero, List.mem_cons, List.not_mem_nil, or_false, List.mem_map] at hz; first | (subst hz; rfl) | (obtain ⟨_, _, rfl⟩ := hz; rfl) | (rcases hz with rfl | rfl <;> rfl))) (by first | omega | (simp; try omega)) rfl) rfl ?_
      refine st_p (mva rfl) rfl ?_
      refine al_nil ?_
      refine nm ?_
      refine aw_seq ?_
      refine aw_seq ?_
      refine aw_region ?_
      refine st_p (mv rfl) rfl ?_
      refine st_p (OpP.conv (op_ne rfl rfl) (no (by first | assumption | omega))) rfl ?_
      refine st_p (mv rfl) rfl ?_
      refine st_s rfl rfl rfl rfl rfl ?_
      refine st_s rfl rfl rfl rfl rfl ?_
      refine st_p (pkF rfl rfl) rfl ?_
      refine al_nil ?_
      refine nm ?_
      -- IF t19
      refine aw_no (rfl) ?_
      refine aw_skip ?_
      refine nm ?_
      refine aw_seq ?_
      refine aw_region ?_
      refine st_p (mva rfl) rfl ?_
      refine al_nil ?_
      refine nm ?_
      refine aw_seq ?_
      refine aw_block ?_
      -- LOOP
      refine aw_cutB (⟨[(1, .int .i64 p), (2, .int .i64 s), (3, .int .i64 b), (9, .own 0 0 l.length), (10, .int .i64 (cntN l p s))], [(0, .cells 3 (nts l))], 1⟩) ?_ ?_
      · skip
        refine aw_loop (fun k : {k : Nat // k ≤ l.length ∧ ∀ (j : Nat) (x : NT), j < k → l[j]? = some x → ltN x p s = true} => ⟨[(1, .int .i64 p), (2, .int .i64 s), (3, .int .i64 b), (9, .own 0 0 l.length), (10, .int .i64 k.1)], [(0, .cells 3 (nts l))], 1⟩) (fun k => l.length - k.1) ⟨0, Nat.zero_le _, fun j x hj => absurd hj (Nat.not_lt_zero _)⟩ ?_ ?_
        · exact le_to [(0, 1)] rfl rfl rfl rfl rfl ⟨rfl, rfl, rfl, congrArg (AV.own 1 0) hnl, rfl, trivial⟩ ⟨by simp only [Blk.ren, ren_nts, List.map_cons, List.map_nil]; rfl, trivial⟩
        · rintro ⟨k, hk, ha⟩
          dsimp only
          have hst : ∀ x, l[k]? = some x → ltN x p s = true → ∀ (j : Nat) (y : NT), j < k + 1 → l[j]? = some y → ltN y p s = true := fun x hx he j y hj hy => by
            rcases Nat.lt_succ_iff_lt_or_eq.1 hj with h | rfl
            · exact ha j y h hy
            · rw [hx] at hy; obtain rfl := Option.some.inj hy; exact he
          by_cases hlt : k < l.length
          · obtain ⟨x, hx⟩ : ∃ x, l[k]? = some x := ⟨_, List.getElem?_eq_getElem hlt⟩
            have hxb : (nts l)[0 + ((k : Nat) : Int).toNat]? = some (.agg [.int .i64 x.pos, .int .i64 x.shard, .int .i64 x.bit]) := by rw [Nat.zero_add, Int.toNat_natCast]; exact nts_get hx
            by_cases q1 : x.pos < p
            · skip
              refine aw_seq ?_
              refine aw_seq ?_
              refine aw_region ?_
              refine st_p (mv rfl) rfl ?_
              refine st_p (mv rfl) rfl ?_
              refine st_p (op_leno Try.underlying45 rfl) rfl ?_
              refine st_p (OpP.conv (op_lt rfl rfl) (yes (by first | assumption | omega))) rfl ?_
              refine st_p (mv rfl) rfl ?_
              refine st_pg rfl rfl rfl (mv rfl) rfl ?_
              refine st_pg rfl rfl rfl (mv rfl) rfl ?_
              refine st_pg rfl rfl rfl (op_indexAddr Try.underlying45 z50 rfl rfl rfl (by omega) (by omega)) rfl ?_
              refine st_pg rfl rfl rfl (op_fieldAddr Try.underlying50 rfl z3 (by decide) rfl) rfl ?_
              refine st_pg rfl rfl rfl (op_load1 Try.underlying3 rfl rfl rfl (by assumption) rfl) rfl ?_
              refine st_pg rfl rfl rfl (mv rfl) rfl ?_
              refine st_pg rfl rfl rfl (OpP.conv (op_lt rfl rfl) (yes (by first | assumption | omega))) rfl ?_
              refine st_pg rfl rfl rfl (mv rfl) rfl ?_
              refine st_s rfl rfl rfl rfl rfl ?_
              refine st_s rfl rfl rfl rfl rfl ?_
              refine st_s rfl rfl rfl rfl rfl ?_
              refine st_s rfl rfl rfl rfl rfl ?_
              refine st_s rfl rfl rfl rfl rfl ?_
              refine st_s rfl rfl rfl rfl rfl ?_
              refine st_s rfl rfl rfl rfl rfl ?_
              refine st_s rfl rfl rfl rfl rfl ?_
              refine st_s rfl rfl rfl rfl rfl ?_
              refine st_s rfl rfl rfl rfl rfl ?_
              refine st_s rfl rfl rfl rfl rfl ?_
              refine st_s rfl rfl rfl rfl rfl ?_
              refine st_s rfl rfl rfl rfl rfl ?_
              refine st_s rfl rfl rfl rfl rfl ?_
              refine st_s rfl rfl rfl rfl rfl ?_
              refine st_s rfl rfl rfl rfl rfl ?_
              refine st_pg rfl rfl rfl (pkT rfl rfl) rfl ?_
              refine st_p (pkT rfl rfl) rfl ?_
              refine al_nil ?_
              refine nm ?_
              -- IF t51
              refine aw_yes (rfl) ?_
              refine aw_skip ?_
              refine nm ?_
              refine aw_block ?_
              refine aw_region ?_
              refine st_p (mv rfl) rfl ?_
              refine st_p (op_addi rfl rfl (by omega)) rfl ?_
              refine st_p (mva rfl) rfl ?_
              refine al_nil ?_
              refine nmb ?_
              refine nm ?_
              exact ⟨⟨k + 1, hlt, hst x hx (by simp [ltN, q1])⟩, by dsimp only; omega, le_to [] rfl rfl rfl rfl rfl ⟨rfl, rfl, rfl, rfl, rfl, trivial⟩ ⟨by simp only [Blk.ren, ren_nts, List.map_cons, List.map_nil]; rfl, trivial⟩⟩
            · by_cases q2 : x.pos = p
              · by_cases q3 : x.shard < s
                · skip
                  refine aw_seq ?_
                  refine aw_seq ?_
                  refine aw_region ?_
                  refine st_p (mv rfl) rfl ?_
                  refine st_p (mv rfl) rfl ?_
                  refine st_p (op_leno Try.underlying45 rfl) rfl ?_
                  refine st_p (OpP.conv (op_lt rfl rfl) (yes (by first | assumption | omega))) rfl ?_
                  refine st_p (mv rfl) rfl ?_
                  refine st_pg rfl rfl rfl (mv rfl) rfl ?_
                  refine st_pg rfl rfl rfl (mv rfl) rfl ?_
                  refine st_pg rfl rfl rfl (op_indexAddr Try.underlying45 z50 rfl rfl rfl (by omega) (by omega)) rfl ?_
                  refine st_pg rfl rfl rfl (op_fieldAddr Try.underlying50 rfl z3 (by decide) rfl) rfl ?_
                  refine st_pg rfl rfl rfl (op_load1 Try.underlying3 rfl rfl rfl (by assumption) rfl) rfl ?_
                  refine st_pg rfl rfl rfl (mv rfl) rfl ?_
                  refine st_pg rfl rfl rfl (OpP.conv (op_lt rfl rfl) (no (by first | assumption | omega))) rfl ?_
                  refine st_pg rfl rfl rfl (mv rfl) rfl ?_
                  refine st_pg rfl rfl rfl (mv rfl) rfl ?_
                  refine st_pg rfl rfl rfl (mv rfl) rfl ?_
                  refine st_pg rfl rfl rfl (op_indexAddr Try.underlying45 z50 rfl rfl rfl (by omega) (by omega)) rfl ?_
                  refine st_pg rfl rfl rfl (op_fieldAddr Try.underlying50 rfl z3 (by decide) rfl) rfl ?_
                  refine st_pg rfl rfl rfl (op_load1 Try.underlying3 rfl rfl rfl (by assumption) rfl) rfl ?_
                  refine st_pg rfl rfl rfl (mv rfl) rfl ?_
                  refine st_pg rfl rfl rfl (OpP.conv (op_eq rfl rfl) (yes (by first | assumption | omega))) rfl ?_
                  refine st_pg rfl rfl rfl (mv rfl) rfl ?_
                  refine st_pg rfl rfl rfl (mv rfl) rfl ?_
                  refine st_pg rfl rfl rfl (mv rfl) rfl ?_
                  refine st_pg rfl rfl rfl (op_indexAddr Try.underlying45 z50 rfl rfl rfl (by omega) (by omega)) rfl ?_
                  refine st_pg rfl rfl rfl (op_fieldAddr Try.underlying50 rfl z3 (by decide) rfl) rfl ?_
                  refine st_pg rfl rfl rfl (op_load1 Try.underlying3 rfl rfl rfl (by assumption) rfl) rfl ?_
                  refine st_pg rfl rfl rfl (mv rfl) rfl ?_
                  refine st_pg rfl rfl rfl (OpP.conv (op_lt rfl rfl) (yes (by first | assumption | omega))) rfl ?_
                  refine st_pg rfl rfl rfl (pkT rfl rfl) rfl ?_
                  refine st_pg rfl rfl rfl (pkF rfl rfl) rfl ?_
                  refine st_p (pkT rfl rfl) rfl ?_
                  refine al_nil ?_
                  refine nm ?_
                  -- IF t51
                  refine aw_yes (rfl) ?_
                  refine aw_skip ?_
                  refine nm ?_
                  refine aw_block ?_
                  refine aw_region ?_
                  refine st_p (mv rfl) rfl ?_
                  refine st_p (op_addi rfl rfl (by omega)) rfl ?_
                  refine st_p (mva rfl) rfl ?_
                  refine al_nil ?_
                  refine nmb ?_
                  refine nm ?_
                  exact ⟨⟨k + 1, hlt, hst x hx (by simp [ltN, q2, q3])⟩, by dsimp only; omega, le_to [] rfl rfl rfl rfl rfl ⟨rfl, rfl, rfl, rfl, rfl, trivial⟩ ⟨by simp only [Blk.ren, ren_nts, List.map_cons, List.map_nil]; rfl, trivial⟩⟩
                · have hc := cntN_at ha (.inr ⟨x, hx, by simp [ltN, q2, q3]⟩) hk
                  refine aw_seq ?_
                  refine aw_seq ?_
                  refine aw_region ?_
                  refine st_p (mv rfl) rfl ?_
                  refine st_p (mv rfl) rfl ?_
                  refine st_p (op_leno Try.underlying45 rfl) rfl ?_
                  refine st_p (OpP.conv (op_lt rfl rfl) (yes (by first | assumption | omega))) rfl ?_
                  refine st_p (mv rfl) rfl ?_
                  refine st_pg rfl rfl rfl (mv rfl) rfl ?_
                  refine st_pg rfl rfl rfl (mv rfl) rfl ?_
                  refine st_pg rfl rfl rfl (op_indexAddr Try.underlying45 z50 rfl rfl rfl (by omega) (by omega)) rfl ?_
                  refine st_pg rfl rfl rfl (op_fieldAddr Try.underlying50 rfl z3 (by decide) rfl) rfl ?_
                  refine st_pg rfl rfl rfl (op_load1 Try.underlying3 rfl rfl rfl (by assumption) rfl) rfl ?_
                  refine st_pg rfl rfl rfl (mv rfl) rfl ?_
                  refine st_pg rfl rfl rfl (OpP.conv (op_lt rfl rfl) (no (by first | assumption | omega))) rfl ?_
                  refine st_pg rfl rfl rfl (mv rfl) rfl ?_
                  refine st_pg rfl rfl rfl (mv rfl) rfl ?_
                  refine st_pg rfl rfl rfl (mv rfl) rfl ?_
                  refine st_pg rfl rfl rfl (op_indexAddr Try.underlying45 z50 rfl rfl rfl (by omega) (by omega)) rfl ?_
                  refine st_pg rfl rfl rfl (op_fieldAddr Try.underlying50 rfl z3 (by decide) rfl) rfl ?_
                  refine st_pg rfl rfl rfl (op_load1 Try.underlying3 rfl rfl rfl (by assumption) rfl) rfl ?_
                  refine st_pg rfl rfl rfl (mv rfl) rfl ?_
                  refine st_pg rfl rfl rfl (OpP.conv (op_eq rfl rfl) (yes (by first | assumption | omega))) rfl ?_
                  refine st_pg rfl rfl rfl (mv rfl) rfl ?_
                  refine st_pg rfl rfl rfl (mv rfl) rfl ?_
                  refine st_pg rfl rfl rfl (mv rfl) rfl ?_
                  refine st_pg rfl rfl rfl (op_indexAddr Try.underlying45 z50 rfl rfl rfl (by omega) (by omega)) rfl ?_
                  refine st_pg rfl rfl rfl (op_fieldAddr Try.underlying50 rfl z3 (by decide) rfl) rfl ?_
                  refine st_pg rfl rfl rfl (op_load1 Try.underlying3 rfl rfl rfl (by assumption) rfl) rfl ?_
                  refine st_pg rfl rfl rfl (mv rfl) rfl ?_
                  refine st_pg rfl rfl rfl (OpP.conv (op_lt rfl rfl) (no (by first | assumption | omega))) rfl ?_
                  refine st_pg rfl rfl rfl (pkT rfl rfl) rfl ?_
                  refine st_pg rfl rfl rfl (pkF rfl rfl) rfl ?_
                  refine st_p (pkT rfl rfl) rfl ?_
                  refine al_nil ?_
                  refine nm ?_
                  -- IF t51
                  refine aw_no (rfl) ?_
                  refine aw_exit ?_
                  refine xs ?_
                  refine xs ?_
                  refine xb ?_
                  refine nm ?_
                  exact le_to [] rfl rfl rfl rfl rfl ⟨rfl, rfl, rfl, rfl, by rw [hc]; rfl, trivial⟩ ⟨by simp only [Blk.ren, ren_nts, List.map_cons, List.map_nil]; rfl, trivial⟩
              · have hc := cntN_at ha (.inr ⟨x, hx, by simp [ltN, q1, q2]⟩) hk
                refine aw_seq ?_
                refine aw_seq ?_
                refine aw_region ?_
                refine st_p (mv rfl) rfl ?_
                refine st_p (mv rfl) rfl ?_
                refine st_p (op_leno Try.underlying45 rfl) rfl ?_
                refine st_p (OpP.conv (op_lt rfl rfl) (yes (by first | assumption | omega))) rfl ?_
                refine st_p (mv rfl) rfl ?_
                refine st_pg rfl rfl rfl (mv rfl) rfl ?_
                refine st_pg rfl rfl rfl (mv rfl) rfl ?_
                refine st_pg rfl rfl rfl (op_indexAddr Try.underlying45 z50 rfl rfl rfl (by omega) (by omega)) rfl ?_
                refine st_pg rfl rfl rfl (op_fieldAddr Try.underlying50 rfl z3 (by decide) rfl) rfl ?_
                refine st_pg rfl rfl rfl (op_load1 Try.underlying3 rfl rfl rfl (by assumption) rfl) rfl ?_
                refine st_pg rfl rfl rfl (mv rfl) rfl ?_
                refine st_pg rfl rfl rfl (OpP.conv (op_lt rfl rfl) (no (by first | assumption | omega))) rfl ?_
                refine st_pg rfl rfl rfl (mv rfl) rfl ?_
                refine st_pg rfl rfl rfl (mv rfl) rfl ?_
                refine st_pg rfl rfl rfl (mv rfl) rfl ?_
                refine st_pg rfl rfl rfl (op_indexAddr Try.underlying45 z50 rfl rfl rfl (by omega) (by omega)) rfl ?_
                refine st_pg rfl rfl rfl (op_fieldAddr Try.underlying50 rfl z3 (by decide) rfl) rfl ?_
                refine st_pg rfl rfl rfl (op_load1 Try.underlying3 rfl rfl rfl (by assumption) rfl) rfl ?_
                refine st_pg rfl rfl rfl (mv rfl) rfl ?_
                refine st_pg rfl rfl rfl (OpP.conv (op_eq rfl rfl) (no (by first | assumption | omega))) rfl ?_
                refine st_pg rfl rfl rfl (mv rfl) rfl ?_
                refine st_s rfl rfl rfl rfl rfl ?_
                refine st_s rfl rfl rfl rfl rfl ?_
                refine st_s rfl rfl rfl rfl rfl ?_
                refine st_s rfl rfl rfl rfl rfl ?_
                refine st_s rfl rfl rfl rfl rfl ?_
                refine st_s rfl rfl rfl rfl rfl ?_
                refine st_s rfl rfl rfl rfl rfl ?_
                refine st_pg rfl rfl rfl (pkF rfl rfl) rfl ?_
                refine st_pg rfl rfl rfl (pkF rfl rfl) rfl ?_
                refine st_p (pkT rfl rfl) rfl ?_
                refine al_nil ?_
                refine nm ?_
                -- IF t51
                refine aw_no (rfl) ?_
                refine aw_exit ?_
                refine xs ?_
                refine xs ?_
                refine xb ?_
                refine nm ?_
                exact le_to [] rfl rfl rfl rfl rfl ⟨rfl, rfl, rfl, rfl, by rw [hc]; rfl, trivial⟩ ⟨by simp only [Blk.ren, ren_nts, List.map_cons, List.map_nil]; rfl, trivial⟩
          · have hc := cntN_at ha (.inl (by omega)) hk
            refine aw_seq ?_
            refine aw_seq ?_
            refine aw_region ?_
            refine st_p (mv rfl) rfl ?_
            refine st_p (mv rfl) rfl ?_
            refine st_p (op_leno Try.underlying45 rfl) rfl ?_
            refine st_p (OpP.conv (op_lt rfl rfl) (no (by first | assumption | omega))) rfl ?_
            refine st_p (mv rfl) rfl ?_
            refine st_s rfl rfl rfl rfl rfl ?_
            refine st_s rfl rfl rfl rfl rfl ?_
            refine st_s rfl rfl rfl rfl rfl ?_
            refine st_s rfl rfl rfl rfl rfl ?_
            refine st_s rfl rfl rfl rfl rfl ?_
            refine st_s rfl rfl rfl rfl rfl ?_
            refine st_s rfl rfl rfl rfl rfl ?_
            refine st_s rfl rfl rfl rfl rfl ?_
            refine st_s rfl rfl rfl rfl rfl ?_
            refine st_s rfl rfl rfl rfl rfl ?_
            refine st_s rfl rfl rfl rfl rfl ?_
            refine st_s rfl rfl rfl rfl rfl ?_
            refine st_s rfl rfl rfl rfl rfl ?_
            refine st_s rfl rfl rfl rfl rfl ?_
            refine st_s rfl rfl rfl rfl rfl ?_
            refine st_s rfl rfl rfl rfl rfl ?_
            refine st_s rfl rfl rfl rfl rfl ?_
            refine st_s rfl rfl rfl rfl rfl ?_
            refine st_s rfl rfl rfl rfl rfl ?_
            refine st_s rfl rfl rfl rfl rfl ?_
            refine st_s rfl rfl rfl rfl rfl ?_
            refine st_s rfl rfl rfl rfl rfl ?_
            refine st_s rfl rfl rfl rfl rfl ?_
            refine st_s rfl rfl rfl rfl rfl ?_
            refine st_s rfl rfl rfl rfl rfl ?_
            refine st_p (pkF rfl rfl) rfl ?_
            refine al_nil ?_
            refine nm ?_
            -- IF t51
            refine aw_no (rfl) ?_
            refine aw_exit ?_
            refine xs ?_
            refine xs ?_
            refine xb ?_
            refine nm ?_
            exact le_to [] rfl rfl rfl rfl rfl ⟨rfl, rfl, rfl, rfl, by rw [hc]; rfl, trivial⟩ ⟨by simp only [Blk.ren, ren_nts, List.map_cons, List.map_nil]; rfl, trivial⟩
      · have hha := hasN_at (p := p) (s := s) hr
        cases hg : hasN l p s with
        | true =>
          obtain ⟨x, hx, he⟩ := hha.1 hg
          rw [addN_same (.inl hg)]
          simp only [eqN, Bool.and_eq_true, decide_eq_true_eq] at he
          obtain ⟨q1, q2⟩ := he
          generalize cntN l p s = k at hx hcl ⊢
          have hlt : k < l.length := (List.getElem?_eq_some_iff.1 hx).1
          have hxb : (nts l)[0 + ((k : Nat) : Int).toNat]? = some (.agg [.int .i64 x.pos, .int .i64 x.shard, .int .i64 x.bit]) := by rw [Nat.zero_add, Int.toNat_natCast]; exact nts_get hx
          refine aw_seq ?_
          refine aw_seq ?_
          refine aw_region ?_
          refine st_p (mv rfl) rfl ?_
          refine st_p (mv rfl) rfl ?_
          refine st_p (op_leno Try.underlying45 rfl) rfl ?_
          refine st_p (OpP.conv (op_lt rfl rfl) (yes (by first | assumption | omega))) rfl ?_
          refine st_p (mv rfl) rfl ?_
          refine st_pg rfl rfl rfl (mv rfl) rfl ?_
          refine st_pg rfl rfl rfl (mv rfl) rfl ?_
          refine st_pg rfl rfl rfl (op_indexAddr Try.underlying45 z50 rfl rfl rfl (by omega) (by omega)) rfl ?_
          refine st_pg rfl rfl rfl (op_fieldAddr Try.underlying50 rfl z3 (by decide) rfl) rfl ?_
          refine st_pg rfl rfl rfl (op_load1 Try.underlying3 rfl rfl rfl (by assumption) rfl) rfl ?_
          refine st_pg rfl rfl rfl (mv rfl) rfl ?_
          refine st_pg rfl rfl rfl (OpP.conv (op_eq rfl rfl) (yes (by first | assumption | omega))) rfl ?_
          refine st_p (pkT rfl rfl) rfl ?_
          refine st_p (mv rfl) rfl ?_
          refine st_pg rfl rfl rfl (mv rfl) rfl ?_
          refine st_pg rfl rfl rfl (mv rfl) rfl ?_
          refine st_pg rfl rfl rfl (op_indexAddr Try.underlying45 z50 rfl rfl rfl (by omega) (by omega)) rfl ?_
          refine st_pg rfl rfl rfl (op_fieldAddr Try.underlying50 rfl z3 (by decide) rfl) rfl ?_
          refine st_pg rfl rfl rfl (op_load1 Try.underlying3 rfl rfl rfl (by assumption) rfl) rfl ?_
          refine st_pg rfl rfl rfl (mv rfl) rfl ?_
          refine st_pg rfl rfl rfl (OpP.conv (op_eq rfl rfl) (yes (by first | assumption | omega))) rfl ?_
          refine st_p (pkT rfl rfl) rfl ?_
          refine al_nil ?_
          refine nm ?_
          -- IF t75
          refine aw_yes (rfl) ?_
          refine aw_seq ?_
          refine aw_region ?_
          refine st_p (mv rfl) rfl ?_
          refine st_p (mva rfl) rfl ?_
          refine al_nil ?_
          refine nm ?_
          refine aw_ret ?_
          refine rs ?_
          exact ret_a ⟨[(8, .own 0 0 l.length)], [(0, .cells 3 (nts l))], 1⟩ (le_to [] rfl rfl rfl rfl rfl ⟨rfl, trivial⟩ ⟨by simp only [Blk.ren, ren_nts, List.map_cons, List.map_nil]; rfl, trivial⟩) (res1 Try.results71) (.inr ⟨rfl, by simp only [List.all_cons, List.all_nil, nts_nosl, Bool.and_true]⟩) ⟨rfl, rfl, rfl⟩
        | false =>
          rw [addN_more hg hb]
          have hno : ∀ x, l[cntN l p s]? = some x → ¬ (x.pos = p ∧ x.shard = s) := fun x hx h => by
            have : hasN l p s = true := hha.2 ⟨x, hx, by simp [eqN, h.1, h.2]⟩
            rw [hg] at this; cases this
          generalize hm : insN l (cntN l p s) ⟨p, s, b⟩ = m
          generalize cntN l p s = k at hno hcl hm ⊢
          have hmn : nts m = (nts l).take k ++ [ntA ⟨p, s, b⟩] ++ (nts l).drop k := by rw [← hm]; unfold insN nts; simp
          have hml : m.length = l.length + 1 := by
            rw [← hm]; unfold insN
            simp only [List.length_append, List.length_cons, List.length_take, List.length_drop]
            omega
          have hfin : ([] : List AV) ++ ((nts l).drop (0 + Int.toNat 0)).take (((k : Nat) : Int).toNat - Int.toNat 0) ++ [ntA ⟨p, s, b⟩] ++ ((nts l).drop (0 + ((k : Nat) : Int).toNat)).take (((l.length : Nat) : Int).toNat - ((k : Nat) : Int).toNat) = nts m := by
            rw [hmn]
            simp only [Int.toNat_natCast, Int.toNat_zero, Nat.add_zero, Nat.zero_add, Nat.sub_zero, List.drop_zero, List.nil_append]
            rw [List.take_of_length_le (l := List.drop k (nts l)) (by rw [List.length_drop]; omega)]
          have hz1 : ∀ z ∈ ((nts l).drop (0 + Int.toNat 0)).take (((k : Nat) : Int).toNat - Int.toNat 0), z.cells.length = 3 := fun z hz => hzl z (List.mem_of_mem_drop (List.mem_of_mem_take hz))
          have hz2 : ∀ z ∈ ((nts l).drop (0 + ((k : Nat) : Int).toNat)).take (((l.length : Nat) : Int).toNat - ((k : Nat) : Int).toNat), z.cells.length = 3 := fun z hz => hzl z (List.mem_of_mem_drop (List.mem_of_mem_take hz))
          by_cases hlt : k < l.length
          · obtain ⟨x, hx⟩ : ∃ x, l[k]? = some x := ⟨_, List.getElem?_eq_getElem hlt⟩
            have hxb : (nts l)[0 + ((k : Nat) : Int).toNat]? = some (.agg [.int .i64 x.pos, .int .i64 x.shard, .int .i64 x.bit]) := by rw [Nat.zero_add, Int.toNat_natCast]; exact nts_get hx
            by_cases q1 : x.pos = p
            · have q2 : ¬ x.shard = s := fun e => hno x hx ⟨q1, e⟩
              refine aw_seq ?_
              refine aw_seq ?_
              refine aw_region ?_
              refine st_p (mv rfl) rfl ?_
              refine st_p (mv rfl) rfl ?_
              refine st_p (op_leno Try.underlying45 rfl) rfl ?_
              refine st_p (OpP.conv (op_lt rfl rfl) (yes (by first | assumption | omega))) rfl ?_
              refine st_p (mv rfl) rfl ?_
              refine st_pg rfl rfl rfl (mv rfl) rfl ?_
              refine st_pg rfl rfl rfl (mv rfl) rfl ?_
              refine st_pg rfl rfl rfl (op_indexAddr Try.underlying45 z50 rfl rfl rfl (by omega) (by omega)) rfl ?_
              refine st_pg rfl rfl rfl (op_fieldAddr Try.underlying50 rfl z3 (by decide) rfl) rfl ?_
              refine st_pg rfl rfl rfl (op_load1 Try.underlying3 rfl rfl rfl (by assumption) rfl) rfl ?_
              refine st_pg rfl rfl rfl (mv rfl) rfl ?_
              refine st_pg rfl rfl rfl (OpP.conv (op_eq rfl rfl) (yes (by first | assumption | omega))) rfl ?_
              refine st_p (pkT rfl rfl) rfl ?_
              refine st_p (mv rfl) rfl ?_
              refine st_pg rfl rfl rfl (mv rfl) rfl ?_
              refine st_pg rfl rfl rfl (mv rfl) rfl ?_
              refine st_pg rfl rfl rfl (op_indexAddr Try.underlying45 z50 rfl rfl rfl (by omega) (by omega)) rfl ?_
              refine st_pg rfl rfl rfl (op_fieldAddr Try.underlying50 rfl z3 (by decide) rfl) rfl ?_
              refine st_pg rfl rfl rfl (op_load1 Try.underlying3 rfl rfl rfl (by assumption) rfl) rfl ?_
              refine st_pg rfl rfl rfl (mv rfl) rfl ?_
              refine st_pg rfl rfl rfl (OpP.conv (op_eq rfl rfl) (no (by first | assumption | omega))) rfl ?_
              refine st_p (pkT rfl rfl) rfl ?_
              refine al_nil ?_
              refine nm ?_
              -- IF t75
              refine aw_no (rfl) ?_
              refine aw_skip ?_
              refine nm ?_
              refine aw_seq ?_
              refine aw_ghost 3 ?_
              refine dr_go ?_
              refine dr_fq 0 0 [] rfl (fun H => op_bsl0 1 Try.underlying45 i50 o50 (by decide)) ?_
              refine dr_f 0 0 [9] rfl (fun H => mv rfl) ?_
              refine dr_f 0 0 [10] rfl (fun H => mv rfl) ?_
              refine dr_q 0 0 [78, 79] rfl (op_slice Try.underlying45 z50 rfl rfl (by exact rfl) (by exact ⟨_, rfl⟩) (by first | omega | (simp only [bl_len, List.length_map, List.length_append, List.length_take, List.length_drop]; omega)) (by first | omega | (simp only [bl_len, List.length_map, List.length_append, List.length_take, List.length_drop]; omega)) (by first | omega | (simp only [bl_len, List.length_map, List.length_append, List.length_take, List.length_drop]; omega))) ?_
              refine dr_e 0 [77, 80] rfl (op_app Try.underlying45 Try.underlying45 (.inl ⟨_, rfl⟩) i50 o50 rfl rfl rfl (by first | rfl | omega | (simp; done) | (simp; omega)) ((SrcA.own rfl (by first | omega | (simp; try omega))).ok rfl (by first | assumption | intro z hz; simp only [List.mem_singleton, List.drop_zero, List.take_succ_cons, List.take_zero, List.mem_cons, List.not_mem_nil, or_false, List.mem_map] at hz; first | (subst hz; rfl) | (obtain ⟨_, _, rfl⟩ := hz; rfl) | (rcases hz with rfl | rfl <;> rfl))) (by first | omega | (simp; try omega)) rfl) ?_
              refine dr_f 0 1 [1] rfl (fun H => mv rfl) ?_
              refine dr_f 0 1 [2] rfl (fun H => mv rfl) ?_
              refine dr_f 0 1 [3] rfl (fun H => mv rfl) ?_
              refine dr_f 0 1 [82, 83, 84] rfl (fun H => op_build Try.underlying50 a50 rfl rfl (by intro f hf; simp only [List.mem_cons, List.not_mem_nil, or_false] at hf; rcases hf with rfl | rfl | rfl <;> exact ⟨_, by first | exact z3⟩) (pcons rfl rfl z3 rfl (pcons rfl rfl z3 rfl (pcons rfl rfl z3 rfl .nil))) rfl) ?_
              refine dr_fq 0 1 [85] rfl (fun H => op_bslF Try.underlying45 i50 o50 (by decide) rfl rfl rfl (by first | rfl | simp [AV.plain, plains, bl_plain]) (by decide)) ?_
              refine dr_e 1 [81, 86] rfl (op_app Try.underlying45 Try.underlying45 (.inl ⟨_, rfl⟩) i50 o50 rfl rfl rfl (by first | rfl | omega | (simp; done) | (simp; omega)) ((SrcA.sl (.inr trivial)).ok rfl (by first | assumption | intro z hz; simp only [List.mem_singleton, List.drop_zero, List.take_succ_cons, List.take_zero, List.mem_cons, List.not_mem_nil, or_false, List.mem_map] at hz; first | (subst hz; rfl) | (obtain ⟨_, _, rfl⟩ := hz; rfl) | (rcases hz with rfl | rfl <;> rfl))) (by first | omega | (simp; try omega)) rfl) ?_
              refine dr_f 0 2 [9] rfl (fun H => mv rfl) ?_
              refine dr_f 0 2 [10] rfl (fun H => mv rfl) ?_
              refine dr_q 0 2 [88, 89] rfl (op_slice Try.underlying45 z50 rfl rfl (by exact ⟨_, rfl⟩) (by exact rfl) (by first | omega | (simp only [bl_len, List.length_map, List.length_append, List.length_take, List.length_drop]; omega)) (by first | omega | (simp only [bl_len, List.length_map, List.length_append, List.length_take, List.length_drop]; omega)) (by first | omega | (simp only [bl_len, List.length_map, List.length_append, List.length_take, List.length_drop]; omega))) ?_
              refine dr_e 2 [87, 90] rfl (op_app Try.underlying45 Try.underlying45 (.inl ⟨_, rfl⟩) i50 o50 rfl rfl rfl (by first | rfl | omega | (simp; done) | (simp; omega)) ((SrcA.own rfl (by first | omega | (simp; try omega))).ok rfl (by first | assumption | intro z hz; simp only [List.mem_singleton, List.drop_zero, List.take_succ_cons, List.take_zero, List.mem_cons, List.not_mem_nil, or_false, List.mem_map] at hz; first | (subst hz; rfl) | (obtain ⟨_, _, rfl⟩ := hz; rfl) | (rcases hz with rfl | rfl <;> rfl))) (by first | omega | (simp; try omega)) rfl) ?_
              refine dr_f 3 3 [91] rfl (fun H => mva rfl) ?_
              refine dr_end [(13, 0), (13, 1)] (by kernel_rfl) (by kernel_rfl) (by kernel_rfl) (by kernel_rfl) ⟨(by first | exact ⟨_, rfl, OpP.q (op_sliceL Try.underlying45 z50 rfl (by exact ⟨_, rfl⟩) (by exact rfl) (by first | omega | (simp only [bl_len, List.length_map, List.length_append, List.length_take, List.length_drop]; omega)) (by first | omega | (simp only [bl_len, List.length_map, List.length_append, List.length_take, List.length_drop]; omega)) (by first | omega | (simp only [bl_len, List.length_map, List.length_append, List.length_take, List.length_drop]; omega)))⟩ | exact ⟨_, rfl, OpP.q (op_slice Try.underlying45 z50 rfl rfl (by exact ⟨_, rfl⟩) (by exact rfl) (by first | omega | (simp only [bl_len, List.length_map, List.length_append, List.length_take, List.length_drop]; omega)) (by first | omega | (simp only [bl_len, List.length_map, List.length_append, List.length_take, List.length_drop]; omega)) (by first | omega | (simp only [bl_len, List.length_map, List.length_append, List.length_take, List.length_drop]; omega)))⟩ | exact ⟨_, rfl, OpP.q (op_sliceC Try.underlying45 z50 rfl rfl (by exact ⟨_, rfl⟩) (by exact rfl) (by first | omega | (simp only [bl_len, List.length_map, List.length_append, List.length_take, List.length_drop]; omega)) (by first | omega | (simp only [bl_len, List.length_map, List.length_append, List.length_take, List.length_drop]; omega)) (by omega) (by first | omega | (simp only [bl_len, List.length_map, List.length_append, List.length_take, List.length_drop]; omega)))⟩), (by first | exact ⟨_, rfl, OpP.q (op_sliceL Try.underlying45 z50 rfl (by exact ⟨_, rfl⟩) (by exact rfl) (by first | omega | (simp only [bl_len, List.length_map, List.length_append, List.length_take, List.length_drop]; omega)) (by first | omega | (simp only [bl_len, List.length_map, List.length_append, List.length_take, List.length_drop]; omega)) (by first | omega | (simp only [bl_len, List.length_map, List.length_append, List.length_take, List.length_drop]; omega)))⟩ | exact ⟨_, rfl, OpP.q (op_slice Try.underlying45 z50 rfl rfl (by exact ⟨_, rfl⟩) (by exact rfl) (by first | omega | (simp only [bl_len, List.length_map, List.length_append, List.length_take, List.length_drop]; omega)) (by first | omega | (simp only [bl_len, List.length_map, List.length_append, List.length_take, List.length_drop]; omega)) (by first | omega | (simp only [bl_len, List.length_map, List.length_append, List.length_take, List.length_drop]; omega)))⟩ | exact ⟨_, rfl, OpP.q (op_sliceC Try.underlying45 z50 rfl rfl (by exact ⟨_, rfl⟩) (by exact rfl) (by first | omega | (simp only [bl_len, List.length_map, List.length_append, List.length_take, List.length_drop]; omega)) (by first | omega | (simp only [bl_len, List.length_map, List.length_append, List.length_take, List.length_drop]; omega)) (by omega) (by first | omega | (simp only [bl_len, List.length_map, List.length_append, List.length_take, List.length_drop]; omega)))⟩), trivial⟩ ?_
              refine nm ?_
              refine aw_ret ?_
              refine ret_a ⟨[(8, .own 0 0 m.length)], [(0, .cells 3 (nts m))], 1⟩ (le_to [(0, 4)] rfl rfl rfl rfl rfl ⟨?_, trivial⟩ ⟨?_, trivial⟩) (res1 Try.results71) (.inr ⟨rfl, by simp only [List.all_cons, List.all_nil, nts_nosl, Bool.and_true]⟩) ⟨rfl, rfl, rfl⟩
              · exact (congrArg (fun q : List AV => AV.own 4 0 q.length) hfin).trans (by rw [nts_len]; rfl)
              · rw [show Blk.ren _ (.cells 3 (nts m)) = .cells 3 (nts m) from by simp only [Blk.ren, ren_nts]]
                exact congrArg (fun q : List AV => some (Blk.cells 3 q)) hfin
            · skip
              refine aw_seq ?_
              refine aw_seq ?_
              refine aw_region ?_
              refine st_p (mv rfl) rfl ?_
              refine st_p (mv rfl) rfl ?_
              refine st_p (op_leno Try.underlying45 rfl) rfl ?_
              refine st_p (OpP.conv (op_lt rfl rfl) (yes (by first | assumption | omega))) rfl ?_
              refine st_p (mv rfl) rfl ?_
              refine st_pg rfl rfl rfl (mv rfl) rfl ?_
              refine st_pg rfl rfl rfl (mv rfl) rfl ?_
              refine st_pg rfl rfl rfl (op_indexAddr Try.underlying45 z50 rfl rfl rfl (by omega) (by omega)) rfl ?_
              refine st_pg rfl rfl rfl (op_fieldAddr Try.underlying50 rfl z3 (by decide) rfl) rfl ?_
              refine st_pg rfl rfl rfl (op_load1 Try.underlying3 rfl rfl rfl (by assumption) rfl) rfl ?_
              refine st_pg rfl rfl rfl (mv rfl) rfl ?_
              refine st_pg rfl rfl rfl (OpP.conv (op_eq rfl rfl) (no (by first | assumption | omega))) rfl ?_
              refine st_p (pkT rfl rfl) rfl ?_
              refine st_p (mv rfl) rfl ?_
              refine st_s rfl rfl rfl rfl rfl ?_
              refine st_s rfl rfl rfl rfl rfl ?_
              refine st_s rfl rfl rfl rfl rfl ?_
              refine st_s rfl rfl rfl rfl rfl ?_
              refine st_s rfl rfl rfl rfl rfl ?_
              refine st_s rfl rfl rfl rfl rfl ?_
              refine st_s rfl rfl rfl rfl rfl ?_
              refine st_p (pkF rfl rfl) rfl ?_
              refine al_nil ?_
              refine nm ?_
              -- IF t75
              refine aw_no (rfl) ?_
              refine aw_skip ?_
              refine nm ?_
              refine aw_seq ?_
              refine aw_ghost 3 ?_
              refine dr_go ?_
              refine dr_fq 0 0 [] rfl (fun H => op_bsl0 1 Try.underlying45 i50 o50 (by decide)) ?_
              refine dr_f 0 0 [9] rfl (fun H => mv rfl) ?_
              refine dr_f 0 0 [10] rfl (fun H => mv rfl) ?_
              refine dr_q 0 0 [78, 79] rfl (op_slice Try.underlying45 z50 rfl rfl (by exact rfl) (by exact ⟨_, rfl⟩) (by first | omega | (simp only [bl_len, List.length_map, List.length_append, List.length_take, List.length_drop]; omega)) (by first | omega | (simp only [bl_len, List.length_map, List.length_append, List.length_take, List.length_drop]; omega)) (by first | omega | (simp only [bl_len, List.length_map, List.length_append, List.length_take, List.length_drop]; omega))) ?_
              refine dr_e 0 [77, 80] rfl (op_app Try.underlying45 Try.underlying45 (.inl ⟨_, rfl⟩) i50 o50 rfl rfl rfl (by first | rfl | omega | (simp; done) | (simp; omega)) ((SrcA.own rfl (by first | omega | (simp; try omega))).ok rfl (by first | assumption | intro z hz; simp only [List.mem_singleton, List.drop_zero, List.take_succ_cons, List.take_zero, List.mem_cons, List.not_mem_nil, or_false, List.mem_map] at hz; first | (subst hz; rfl) | (obtain ⟨_, _, rfl⟩ := hz; rfl) | (rcases hz with rfl | rfl <;> rfl))) (by first | omega | (simp; try omega)) rfl) ?_
              refine dr_f 0 1 [1] rfl (fun H => mv rfl) ?_
              refine dr_f 0 1 [2] rfl (fun H => mv rfl) ?_
              refine dr_f 0 1 [3] rfl (fun H => mv rfl) ?_
              refine dr_f 0 1 [82, 83, 84] rfl (fun H => op_build Try.underlying50 a50 rfl rfl (by intro f hf; simp only [List.mem_cons, List.not_mem_nil, or_false] at hf; rcases hf with rfl | rfl | rfl <;> exact ⟨_, by first | exact z3⟩) (pcons rfl rfl z3 rfl (pcons rfl rfl z3 rfl (pcons rfl rfl z3 rfl .nil))) rfl) ?_
              refine dr_fq 0 1 [85] rfl (fun H => op_bslF Try.underlying45 i50 o50 (by decide) rfl rfl rfl (by first | rfl | simp [AV.plain, plains, bl_plain]) (by decide)) ?_
              refine dr_e 1 [81, 86] rfl (op_app Try.underlying45 Try.underlying45 (.inl ⟨_, rfl⟩) i50 o50 rfl rfl rfl (by first | rfl | omega | (simp; done) | (simp; omega)) ((SrcA.sl (.inr trivial)).ok rfl (by first | assumption | intro z hz; simp only [List.mem_singleton, List.drop_zero, List.take_succ_cons, List.take_zero, List.mem_cons, List.not_mem_nil, or_false, List.mem_map] at hz; first | (subst hz; rfl) | (obtain ⟨_, _, rfl⟩ := hz; rfl) | (rcases hz with rfl | rfl <;> rfl))) (by first | omega | (simp; try omega)) rfl) ?_
              refine dr_f 0 2 [9] rfl (fun H => mv rfl) ?_
              refine dr_f 0 2 [10] rfl (fun H => mv rfl) ?_
              refine dr_q 0 2 [88, 89] rfl (op_slice Try.underlying45 z50 rfl rfl (by exact ⟨_, rfl⟩) (by exact rfl) (by first | omega | (simp only [bl_len, List.length_map, List.length_append, List.length_take, List.length_drop]; omega)) (by first | omega | (simp only [bl_len, List.length_map, List.length_append, List.length_take, List.length_drop]; omega)) (by first | omega | (simp only [bl_len, List.length_map, List.length_append, List.length_take, List.length_drop]; omega))) ?_
              refine dr_e 2 [87, 90] rfl (op_app Try.underlying45 Try.underlying45 (.inl ⟨_, rfl⟩) i50 o50 rfl rfl rfl (by first | rfl | omega | (simp; done) | (simp; omega)) ((SrcA.own rfl (by first | omega | (simp; try omega))).ok rfl (by first | assumption | intro z hz; simp only [List.mem_singleton, List.drop_zero, List.take_succ_cons, List.take_zero, List.mem_cons, List.not_mem_nil, or_false, List.mem_map] at hz; first | (subst hz; rfl) | (obtain ⟨_, _, rfl⟩ := hz; rfl) | (rcases hz with rfl | rfl <;> rfl))) (by first | omega | (simp; try omega)) rfl) ?_
              refine dr_f 3 3 [91] rfl (fun H => mva rfl) ?_
              refine dr_end [(13, 0), (13, 1)] (by kernel_rfl) (by kernel_rfl) (by kernel_rfl) (by kernel_rfl) ⟨(by first | exact ⟨_, rfl, OpP.q (op_sliceL Try.underlying45 z50 rfl (by exact ⟨_, rfl⟩) (by exact rfl) (by first | omega | (simp only [bl_len, List.length_map, List.length_append, List.length_take, List.length_drop]; omega)) (by first | omega | (simp only [bl_len, List.length_map, List.length_append, List.length_take, List.length_drop]; omega)) (by first | omega | (simp only [bl_len, List.length_map, List.length_append, List.length_take, List.length_drop]; omega)))⟩ | exact ⟨_, rfl, OpP.q (op_slice Try.underlying45 z50 rfl rfl (by exact ⟨_, rfl⟩) (by exact rfl) (by first | omega | (simp only [bl_len, List.length_map, List.length_append, List.length_take, List.length_drop]; omega)) (by first | omega | (simp only [bl_len, List.length_map, List.length_append, List.length_take, List.length_drop]; omega)) (by first | omega | (simp only [bl_len, List.length_map, List.length_append, List.length_take, List.length_drop]; omega)))⟩ | exact ⟨_, rfl, OpP.q (op_sliceC Try.underlying45 z50 rfl rfl (by exact ⟨_, rfl⟩) (by exact rfl) (by first | omega | (simp only [bl_len, List.length_map, List.length_append, List.length_take, List.length_drop]; omega)) (by first | omega | (simp only [bl_len, List.length_map, List.length_append, List.length_take, List.length_drop]; omega)) (by omega) (by first | omega | (simp only [bl_len, List.length_map, List.length_append, List.length_take, List.length_drop]; omega)))⟩), (by first | exact ⟨_, rfl, OpP.q (op_sliceL Try.underlying45 z50 rfl (by exact ⟨_, rfl⟩) (by exact rfl) (by first | omega | (simp only [bl_len, List.length_map, List.length_append, List.length_take, List.length_drop]; omega)) (by first | omega | (simp only [bl_len, List.length_map, List.length_append, List.length_take, List.length_drop]; omega)) (by first | omega | (simp only [bl_len, List.length_map, List.length_append, List.length_take, List.length_drop]; omega)))⟩ | exact ⟨_, rfl, OpP.q (op_slice Try.underlying45 z50 rfl rfl (by exact ⟨_, rfl⟩) (by exact rfl) (by first | omega | (simp only [bl_len, List.length_map, List.length_append, List.length_take, List.length_drop]; omega)) (by first | omega | (simp only [bl_len, List.length_map, List.length_append, List.length_take, List.length_drop]; omega)) (by first | omega | (simp only [bl_len, List.length_map, List.length_append, List.length_take, List.length_drop]; omega)))⟩ | exact ⟨_, rfl, OpP.q (op_sliceC Try.underlying45 z50 rfl rfl (by exact ⟨_, rfl⟩) (by exact rfl) (by first | omega | (simp only [bl_len, List.length_map, List.length_append, List.length_take, List.length_drop]; omega)) (by first | omega | (simp only [bl_len, List.length_map, List.length_append, List.length_take, List.length_drop]; omega)) (by omega) (by first | omega | (simp only [bl_len, List.length_map, List.length_append, List.length_take, List.length_drop]; omega)))⟩), trivial⟩ ?_
              refine nm ?_
              refine aw_ret ?_
              refine ret_a ⟨[(8, .own 0 0 m.length)], [(0, .cells 3 (nts m))], 1⟩ (le_to [(0, 4)] rfl rfl rfl rfl rfl ⟨?_, trivial⟩ ⟨?_, trivial⟩) (res1 Try.results71) (.inr ⟨rfl, by simp only [List.all_cons, List.all_nil, nts_nosl, Bool.and_true]⟩) ⟨rfl, rfl, rfl⟩
              · exact (congrArg (fun q : List AV => AV.own 4 0 q.length) hfin).trans (by rw [nts_len]; rfl)
              · rw [show Blk.ren _ (.cells 3 (nts m)) = .cells 3 (nts m) from by simp only [Blk.ren, ren_nts]]
                exact congrArg (fun q : List AV => some (Blk.cells 3 q)) hfin
          · skip
            refine aw_seq ?_
            refine aw_seq ?_
            refine aw_region ?_
            refine st_p (mv rfl) rfl ?_
            refine st_p (mv rfl) rfl ?_
            refine st_p (op_leno Try.underlying45 rfl) rfl ?_
            refine st_p (OpP.conv (op_lt rfl rfl) (no (by first | assumption | omega))) rfl ?_
            refine st_p (mv rfl) rfl ?_
            refine st_s rfl rfl rfl rfl rfl ?_
            refine st_s rfl rfl rfl rfl rfl ?_
            refine st_s rfl rfl rfl rfl rfl ?_
            refine st_s rfl rfl rfl rfl rfl ?_
            refine st_s rfl rfl rfl rfl rfl ?_
            refine st_s rfl rfl rfl rfl rfl ?_
            refine st_s rfl rfl rfl rfl rfl ?_
            refine st_p (pkF rfl rfl) rfl ?_
            refine st_p (mv rfl) rfl ?_
            refine st_s rfl rfl rfl rfl rfl ?_
            refine st_s rfl rfl rfl rfl rfl ?_
            refine st_s rfl rfl rfl rfl rfl ?_
            refine st_s rfl rfl rfl rfl rfl ?_
            refine st_s rfl rfl rfl rfl rfl ?_
            refine st_s rfl rfl rfl rfl rfl ?_
            refine st_s rfl rfl rfl rfl rfl ?_
            refine st_p (pkF rfl rfl) rfl ?_
            refine al_nil ?_
            refine nm ?_
            -- IF t75
            refine aw_no (rfl) ?_
            refine aw_skip ?_
            refine nm ?_
            refine aw_seq ?_
            refine aw_ghost 3 ?_
            refine dr_go ?_
            refine dr_fq 0 0 [] rfl (fun H => op_bsl0 1 Try.underlying45 i50 o50 (by decide)) ?_
            refine dr_f 0 0 [9] rfl (fun H => mv rfl) ?_
            refine dr_f 0 0 [10] rfl (fun H => mv rfl) ?_
            refine dr_q 0 0 [78, 79] rfl (op_slice Try.underlying45 z50 rfl rfl (by exact rfl) (by exact ⟨_, rfl⟩) (by first | omega | (simp only [bl_len, List.length_map, List.length_append, List.length_take, List.length_drop]; omega)) (by first | omega | (simp only [bl_len, List.length_map, List.length_append, List.length_take, List.length_drop]; omega)) (by first | omega | (simp only [bl_len, List.length_map, List.length_append, List.length_take, List.length_drop]; omega))) ?_
            refine dr_e 0 [77, 80] rfl (op_app Try.underlying45 Try.underlying45 (.inl ⟨_, rfl⟩) i50 o50 rfl rfl rfl (by first | rfl | omega | (simp; done) | (simp; omega)) ((SrcA.own rfl (by first | omega | (simp; try omega))).ok rfl (by first | assumption | intro z hz; simp only [List.mem_singleton, List.drop_zero, List.take_succ_cons, List.take_zero, List.mem_cons, List.not_mem_nil, or_false, List.mem_map] at hz; first | (subst hz; rfl) | (obtain ⟨_, _, rfl⟩ := hz; rfl) | (rcases hz with rfl | rfl <;> rfl))) (by first | omega | (simp; try omega)) rfl) ?_
            refine dr_f 0 1 [1] rfl (fun H => mv rfl) ?_
            refine dr_f 0 1 [2] rfl (fun H => mv rfl) ?_
            refine dr_f 0 1 [3] rfl (fun H => mv rfl) ?_
            refine dr_f 0 1 [82, 83, 84] rfl (fun H => op_build Try.underlying50 a50 rfl rfl (by intro f hf; simp only [List.mem_cons, List.not_mem_nil, or_false] at hf; rcases hf with rfl | rfl | rfl <;> exact ⟨_, by first | exact z3⟩) (pcons rfl rfl z3 rfl (pcons rfl rfl z3 rfl (pcons rfl rfl z3 rfl .nil))) rfl) ?_
            refine dr_fq 0 1 [85] rfl (fun H => op_bslF Try.underlying45 i50 o50 (by decide) rfl rfl rfl (by first | rfl | simp [AV.plain, plains, bl_plain]) (by decide)) ?_
            refine dr_e 1 [81, 86] rfl (op_app Try.underlying45 Try.underlying45 (.inl ⟨_, rfl⟩) i50 o50 rfl rfl rfl (by first | rfl | omega | (simp; done) | (simp; omega)) ((SrcA.sl (.inr trivial)).ok rfl (by first | assumption | intro z hz; simp only [List.mem_singleton, List.drop_zero, List.take_succ_cons, List.take_zero, List.mem_cons, List.not_mem_nil, or_false, List.mem_map] at hz; first | (subst hz; rfl) | (obtain ⟨_, _, rfl⟩ := hz; rfl) | (rcases hz with rfl | rfl <;> rfl))) (by first | omega | (simp; try omega)) rfl) ?_
            refine dr_f 0 2 [9] rfl (fun H => mv rfl) ?_
            refine dr_f 0 2 [10] rfl (fun H => mv rfl) ?_
            refine dr_q 0 2 [88, 89] rfl (op_slice Try.underlying45 z50 rfl rfl (by exact ⟨_, rfl⟩) (by exact rfl) (by first | omega | (simp only [bl_len, List.length_map, List.length_append, List.length_take, List.length_drop]; omega)) (by first | omega | (simp only [bl_len, List.length_map, List.length_append, List.length_take, List.length_drop]; omega)) (by first | omega | (simp only [bl_len, List.length_map, List.length_append, List.length_take, List.length_drop]; omega))) ?_
            refine dr_e 2 [87, 90] rfl (op_app Try.underlying45 Try.underlying45 (.inl ⟨_, rfl⟩) i50 o50 rfl rfl rfl (by first | rfl | omega | (simp; done) | (simp; omega)) ((SrcA.own rfl (by first | omega | (simp; try omega))).ok rfl (by first | assumption | intro z hz; simp only [List.mem_singleton, List.drop_zero, List.take_succ_cons, List.take_zero, List.mem_cons, List.not_mem_nil, or_false, List.mem_map] at hz; first | (subst hz; rfl) | (obtain ⟨_, _, rfl⟩ := hz; rfl) | (rcases hz with rfl | rfl <;> rfl))) (by first | omega | (simp; try omega)) rfl) ?_
            refine dr_f 3 3 [91] rfl (fun H => mva rfl) ?_
            refine dr_end [(13, 0), (13, 1)] (by kernel_rfl) (by kernel_rfl) (by kernel_rfl) (by kernel_rfl) ⟨(by first | exact ⟨_, rfl, OpP.q (op_sliceL Try.underlying45 z50 rfl (by exact ⟨_, rfl⟩) (by exact rfl) (by first | omega | (simp only [bl_len, List.length_map, List.length_append, List.length_take, List.length_drop]; omega)) (by first | omega | (simp only [bl_len, List.length_map, List.length_append, List.length_take, List.length_drop]; omega)) (by first | omega | (simp only [bl_len, List.length_map, List.length_append, List.length_take, List.length_drop]; omega)))⟩ | exact ⟨_, rfl, OpP.q (op_slice Try.underlying45 z50 rfl rfl (by exact ⟨_, rfl⟩) (by exact rfl) (by first | omega | (simp only [bl_len, List.length_map, List.length_append, List.length_take, List.length_drop]; omega)) (by first | omega | (simp only [bl_len, List.length_map, List.length_append, List.length_take, List.length_drop]; omega)) (by first | omega | (simp only [bl_len, List.length_map, List.length_append, List.length_take, List.length_drop]; omega)))⟩ | exact ⟨_, rfl, OpP.q (op_sliceC Try.underlying45 z50 rfl rfl (by exact ⟨_, rfl⟩) (by exact rfl) (by first | omega | (simp only [bl_len, List.length_map, List.length_append, List.length_take, List.length_drop]; omega)) (by first | omega | (simp only [bl_len, List.length_map, List.length_append, List.length_take, List.length_drop]; omega)) (by omega) (by first | omega | (simp only [bl_len, List.length_map, List.length_append, List.length_take, List.length_drop]; omega)))⟩), (by first | exact ⟨_, rfl, OpP.q (op_sliceL Try.underlying45 z50 rfl (by exact ⟨_, rfl⟩) (by exact rfl) (by first | omega | (simp only [bl_len, List.length_map, List.length_append, List.length_take, List.length_drop]; omega)) (by first | omega | (simp only [bl_len, List.length_map, List.length_append, List.length_take, List.length_drop]; omega)) (by first | omega | (simp only [bl_len, List.length_map, List.length_append, List.length_take, List.length_drop]; omega)))⟩ | exact ⟨_, rfl, OpP.q (op_slice Try.underlying45 z50 rfl rfl (by exact ⟨_, rfl⟩) (by exact rfl) (by first | omega | (simp only [bl_len, List.length_map, List.length_append, List.length_take, List.length_drop]; omega)) (by first | omega | (simp only [bl_len, List.length_map, List.length_append, List.length_take, List.length_drop]; omega)) (by first | omega | (simp only [bl_len, List.length_map, List.length_append, List.length_take, List.length_drop]; omega)))⟩ | exact ⟨_, rfl, OpP.q (op_sliceC Try.underlying45 z50 rfl rfl (by exact ⟨_, rfl⟩) (by exact rfl) (by first | omega | (simp only [bl_len, List.length_map, List.length_append, List.length_take, List.length_drop]; omega)) (by first | omega | (simp only [bl_len, List.length_map, List.length_append, List.length_take, List.length_drop]; omega)) (by omega) (by first | omega | (simp only [bl_len, List.length_map, List.length_append, List.length_take, List.length_drop]; omega)))⟩), trivial⟩ ?_
            refine nm ?_
            refine aw_ret ?_
            refine ret_a ⟨[(8, .own 0 0 m.length)], [(0, .cells 3 (nts m))], 1⟩ (le_to [(0, 4)] rfl rfl rfl rfl rfl ⟨?_, trivial⟩ ⟨?_, trivial⟩) (res1 Try.results71) (.inr ⟨rfl, by simp only [List.all_cons, List.all_nil, nts_nosl, Bool.and_true]⟩) ⟨rfl, rfl, rfl⟩
            · exact (congrArg (fun q : List AV => AV.own 4 0 q.length) hfin).trans (by rw [nts_len]; rfl)
            · rw [show Blk.ren _ (.cells 3 (nts m)) = .cells 3 (nts m) from by simp only [Blk.ren, ren_nts]]
              exact congrArg (fun q : List AV => some (Blk.cells 3 q)) hfin
    · have h2 : b = 2 := Decidable.byContradiction fun h2 => hb ⟨h1, h2⟩
      refine ac_fn Try.func71 rfl rfl rfl rfl (fun w0 S0 r0 => ?_)
      refine aw_seq ?_
      refine aw_region ?_
      refine st_p (mva rfl) rfl ?_
      refine al_nil ?_
      refine nm ?_
      refine aw_seq ?_
      refine aw_region ?_
      refine st_o (bsl Try.underlying45 i50 o50 (by decide) rfl rfl rfl (by decide)) rfl ?_
      refine st_p (mv rfl) rfl ?_
      refine st_o (op_app Try.underlying45 Try.underlying45 (.inl ⟨_, rfl⟩) i50 o50 rfl rfl rfl (by first | rfl | omega | (simp; done) | (simp; omega)) ((SrcA.sl (.inr trivial)).ok rfl (by first | assumption | intro z hz; simp only [List.mem_singleton, List.drop_zero, List.take_succ_cons, List.take_zero, List.mem_cons, List.not_mem_nil, or_false, List.mem_map] at hz; first | (subst hz; rfl) | (obtain ⟨_, _, rfl⟩ := hz; rfl) | (rcases hz with rfl | rfl <;> rfl))) (by first | omega | (simp; try omega)) rfl) rfl ?_
      refine st_p (mva rfl) rfl ?_
      refine al_nil ?_
      refine nm ?_
      refine aw_seq ?_
      refine aw_seq ?_
      refine aw_region ?_
      refine st_p (mv rfl) rfl ?_
      refine st_p (OpP.conv (op_ne rfl rfl) (yes (by first | assumption | omega))) rfl ?_
      refine st_p (mv rfl) rfl ?_
      refine st_pg rfl rfl rfl (mv rfl) rfl ?_
      refine st_pg rfl rfl rfl (OpP.conv (op_ne rfl rfl) (no (by first | assumption | omega))) rfl ?_
      refine st_p (pkT rfl rfl) rfl ?_
      refine al_nil ?_
      refine nm ?_
      -- IF t19
      refine aw_no (rfl) ?_
      refine aw_skip ?_
      refine nm ?_
      refine aw_seq ?_
      refine aw_region ?_
      refine st_p (mva rfl) rfl ?_
      refine al_nil ?_
      refine nm ?_
      refine aw_seq ?_
      refine aw_block ?_
      -- LOOP
      refine aw_cutB (⟨[(1, .int .i64 p), (2, .int .i64 s), (3, .int .i64 b), (9, .own 0 0 l.length), (10, .int .i64 (cntN l p s))], [(0, .cells 3 (nts l))], 1⟩) ?_ ?_
      · skip
        refine aw_loop (fun k : {k : Nat // k ≤ l.length ∧ ∀ (j : Nat) (x : NT), j < k → l[j]? = some x → ltN x p s = true} => ⟨[(1, .int .i64 p), (2, .int .i64 s), (3, .int .i64 b), (9, .own 0 0 l.length), (10, .int .i64 k.1)], [(0, .cells 3 (nts l))], 1⟩) (fun k => l.length - k.1) ⟨0, Nat.zero_le _, fun j x hj => absurd hj (Nat.not_lt_zero _)⟩ ?_ ?_
        · exact le_to [(0, 1)] rfl rfl rfl rfl rfl ⟨rfl, rfl, rfl, congrArg (AV.own 1 0) hnl, rfl, trivial⟩ ⟨by simp only [Blk.ren, ren_nts, List.map_cons, List.map_nil]; rfl, trivial⟩
        · rintro ⟨k, hk, ha⟩
          dsimp only
          have hst : ∀ x, l[k]? = some x → ltN x p s = true → ∀ (j : Nat) (y : NT), j < k + 1 → l[j]? = some y → ltN y p s = true := fun x hx he j y hj hy => by
            rcases Nat.lt_succ_iff_lt_or_eq.1 hj with h | rfl
            · exact ha j y h hy
            · rw [hx] at hy; obtain rfl := Option.some.inj hy; exact he
          by_cases hlt : k < l.length
          · obtain ⟨x, hx⟩ : ∃ x, l[k]? = some x := ⟨_, List.getElem?_eq_getElem hlt⟩
            have hxb : (nts l)[0 + ((k : Nat) : Int).toNat]? = some (.agg [.int .i64 x.pos, .int .i64 x.shard, .int .i64 x.bit]) := by rw [Nat.zero_add, Int.toNat_natCast]; exact nts_get hx
            by_cases q1 : x.pos < p
            · skip
              refine aw_seq ?_
              refine aw_seq ?_
              refine aw_region ?_
              refine st_p (mv rfl) rfl ?_
              refine st_p (mv rfl) rfl ?_
              refine st_p (op_leno Try.underlying45 rfl) rfl ?_
              refine st_p (OpP.conv (op_lt rfl rfl) (yes (by first | assumption | omega))) rfl ?_
              refine st_p (mv rfl) rfl ?_
              refine st_pg rfl rfl rfl (mv rfl) rfl ?_
              refine st_pg rfl rfl rfl (mv rfl) rfl ?_
              refine st_pg rfl rfl rfl (op_indexAddr Try.underlying45 z50 rfl rfl rfl (by omega) (by omega)) rfl ?_
              refine st_pg rfl rfl rfl (op_fieldAddr Try.underlying50 rfl z3 (by decide) rfl) rfl ?_
              refine st_pg rfl rfl rfl (op_load1 Try.underlying3 rfl rfl rfl (by assumption) rfl) rfl ?_
              refine st_pg rfl rfl rfl (mv rfl) rfl ?_
              refine st_pg rfl rfl rfl (OpP.conv (op_lt rfl rfl) (yes (by first | assumption | omega))) rfl ?_
              refine st_pg rfl rfl rfl (mv rfl) rfl ?_
              refine st_s rfl rfl rfl rfl rfl ?_
              refine st_s rfl rfl rfl rfl rfl ?_
              refine st_s rfl rfl rfl rfl rfl ?_
              refine st_s rfl rfl rfl rfl rfl ?_
              refine st_s rfl rfl rfl rfl rfl ?_
              refine st_s rfl rfl rfl rfl rfl ?_
              refine st_s rfl rfl rfl rfl rfl ?_
              refine st_s rfl rfl rfl rfl rfl ?_
              refine st_s rfl rfl rfl rfl rfl ?_
              refine st_s rfl rfl rfl rfl rfl ?_
              refine st_s rfl rfl rfl rfl rfl ?_
              refine st_s rfl rfl rfl rfl rfl ?_
              refine st_s rfl rfl rfl rfl rfl ?_
              refine st_s rfl rfl rfl rfl rfl ?_
              refine st_s rfl rfl rfl rfl rfl ?_
              refine st_s rfl rfl rfl rfl rfl ?_
              refine st_pg rfl rfl rfl (pkT rfl rfl) rfl ?_
              refine st_p (pkT rfl rfl) rfl ?_
              refine al_nil ?_
              refine nm ?_
              -- IF t51
              refine aw_yes (rfl) ?_
              refine aw_skip ?_
              refine nm ?_
              refine aw_block ?_
              refine aw_region ?_
              refine st_p (mv rfl) rfl ?_
              refine st_p (op_addi rfl rfl (by omega)) rfl ?_
              refine st_p (mva rfl) rfl ?_
              refine al_nil ?_
              refine nmb ?_
              refine nm ?_
              exact ⟨⟨k + 1, hlt, hst x hx (by simp [ltN, q1])⟩, by dsimp only; omega, le_to [] rfl rfl rfl rfl rfl ⟨rfl, rfl, rfl, rfl, rfl, trivial⟩ ⟨by simp only [Blk.ren, ren_nts, List.map_cons, List.map_nil]; rfl, trivial⟩⟩
            · by_cases q2 : x.pos = p
              · by_cases q3 : x.shard < s
                · skip
                  refine aw_seq ?_
                  refine aw_seq ?_
                  refine aw_region ?_
                  refine st_p (mv rfl) rfl ?_
                  refine st_p (mv rfl) rfl ?_
                  refine st_p (op_leno Try.underlying45 rfl) rfl ?_
                  refine st_p (OpP.conv (op_lt rfl rfl) (yes (by first | assumption | omega))) rfl ?_
                  refine st_p (mv rfl) rfl ?_
                  refine st_pg rfl rfl rfl (mv rfl) rfl ?_
                  refine st_pg rfl rfl rfl (mv rfl) rfl ?_
                  refine st_pg rfl rfl rfl (op_indexAddr Try.underlying45 z50 rfl rfl rfl (by omega) (by omega)) rfl ?_
                  refine st_pg rfl rfl rfl (op_fieldAddr Try.underlying50 rfl z3 (by decide) rfl) rfl ?_
                  refine st_pg rfl rfl rfl (op_load1 Try.underlying3 rfl rfl rfl (by assumption) rfl) rfl ?_
                  refine st_pg rfl rfl rfl (mv rfl) rfl ?_
                  refine st_pg rfl rfl rfl (OpP.conv (op_lt rfl rfl) (no (by first | assumption | omega))) rfl ?_
                  refine st_pg rfl rfl rfl (mv rfl) rfl ?_
                  refine st_pg rfl rfl rfl (mv rfl) rfl ?_
                  refine st_pg rfl rfl rfl (mv rfl) rfl ?_
                  refine st_pg rfl rfl rfl (op_indexAddr Try.underlying45 z50 rfl rfl rfl (by omega) (by omega)) rfl ?_
                  refine st_pg rfl rfl rfl (op_fieldAddr Try.underlying50 rfl z3 (by decide) rfl) rfl ?_
                  refine st_pg rfl rfl rfl (op_load1 Try.underlying3 rfl rfl rfl (by assumption) rfl) rfl ?_
                  refine st_pg rfl rfl rfl (mv rfl) rfl ?_
                  refine st_pg rfl rfl rfl (OpP.conv (op_eq rfl rfl) (yes (by first | assumption | omega))) rfl ?_
                  refine st_pg rfl rfl rfl (mv rfl) rfl ?_
                  refine st_pg rfl rfl rfl (mv rfl) rfl ?_
                  refine st_pg rfl rfl rfl (mv rfl) rfl ?_
                  refine st_pg rfl rfl rfl (op_indexAddr Try.underlying45 z50 rfl rfl rfl (by omega) (by omega)) rfl ?_
                  refine st_pg rfl rfl rfl (op_fieldAddr Try.underlying50 rfl z3 (by decide) rfl) rfl ?_
                  refine st_pg rfl rfl rfl (op_load1 Try.underlying3 rfl rfl rfl (by assumption) rfl) rfl ?_
                  refine st_pg rfl rfl rfl (mv rfl) rfl ?_
                  refine st_pg rfl rfl rfl (OpP.conv (op_lt rfl rfl) (yes (by first | assumption | omega))) rfl ?_
                  refine st_pg rfl rfl rfl (pkT rfl rfl) rfl ?_
                  refine st_pg rfl rfl rfl (pkF rfl rfl) rfl ?_
                  refine st_p (pkT rfl rfl) rfl ?_
                  refine al_nil ?_
                  refine nm ?_
                  -- IF t51
                  refine aw_yes (rfl) ?_
                  refine aw_skip ?_
                  refine nm ?_
                  refine aw_block ?_
                  refine aw_region ?_
                  refine st_p (mv rfl) rfl ?_
                  refine st_p (op_addi rfl rfl (by omega)) rfl ?_
                  refine st_p (mva rfl) rfl ?_
                  refine al_nil ?_
                  refine nmb ?_
                  refine nm ?_
                  exact ⟨⟨k + 1, hlt, hst x hx (by simp [ltN, q2, q3])⟩, by dsimp only; omega, le_to [] rfl rfl rfl rfl rfl ⟨rfl, rfl, rfl, rfl, rfl, trivial⟩ ⟨by simp only [Blk.ren, ren_nts, List.map_cons, List.map_nil]; rfl, trivial⟩⟩
                · have hc := cntN_at ha (.inr ⟨x, hx, by simp [ltN, q2, q3]⟩) hk
                  refine aw_seq ?_
                  refine aw_seq ?_
                  refine aw_region ?_
                  refine st_p (mv rfl) rfl ?_
                  refine st_p (mv rfl) rfl ?_
                  refine st_p (op_leno Try.underlying45 rfl) rfl ?_
                  refine st_p (OpP.conv (op_lt rfl rfl) (yes (by first | assumption | omega))) rfl ?_
                  refine st_p (mv rfl) rfl ?_
                  refine st_pg rfl rfl rfl (mv rfl) rfl ?_
                  refine st_pg rfl rfl rfl (mv rfl) rfl ?_
                  refine st_pg rfl rfl rfl (op_indexAddr Try.underlying45 z50 rfl rfl rfl (by omega) (by omega)) rfl ?_
                  refine st_pg rfl rfl rfl (op_fieldAddr Try.underlying50 rfl z3 (by decide) rfl) rfl ?_
                  refine st_pg rfl rfl rfl (op_load1 Try.underlying3 rfl rfl rfl (by assumption) rfl) rfl ?_
                  refine st_pg rfl rfl rfl (mv rfl) rfl ?_
                  refine st_pg rfl rfl rfl (OpP.conv (op_lt rfl rfl) (no (by first | assumption | omega))) rfl ?_
                  refine st_pg rfl rfl rfl (mv rfl) rfl ?_
                  refine st_pg rfl rfl rfl (mv rfl) rfl ?_
                  refine st_pg rfl rfl rfl (mv rfl) rfl ?_
                  refine st_pg rfl rfl rfl (op_indexAddr Try.underlying45 z50 rfl rfl rfl (by omega) (by omega)) rfl ?_
                  refine st_pg rfl rfl rfl (op_fieldAddr Try.underlying50 rfl z3 (by decide) rfl) rfl ?_
                  refine st_pg rfl rfl rfl (op_load1 Try.underlying3 rfl rfl rfl (by assumption) rfl) rfl ?_
                  refine st_pg rfl rfl rfl (mv rfl) rfl ?_
                  refine st_pg rfl rfl rfl (OpP.conv (op_eq rfl rfl) (yes (by first | assumption | omega))) rfl ?_
                  refine st_pg rfl rfl rfl (mv rfl) rfl ?_
                  refine st_pg rfl rfl rfl (mv rfl) rfl ?_
                  refine st_pg rfl rfl rfl (mv rfl) rfl ?_
                  refine st_pg rfl rfl rfl (op_indexAddr Try.underlying45 z50 rfl rfl rfl (by omega) (by omega)) rfl ?_
                  refine st_pg rfl rfl rfl (op_fieldAddr Try.underlying50 rfl z3 (by decide) rfl) rfl ?_
                  refine st_pg rfl rfl rfl (op_load1 Try.underlying3 rfl rfl rfl (by assumption) rfl) rfl ?_
                  refine st_pg rfl rfl rfl (mv rfl) rfl ?_
                  refine st_pg rfl rfl rfl (OpP.conv (op_lt rfl rfl) (no (by first | assumption | omega))) rfl ?_
                  refine st_pg rfl rfl rfl (pkT rfl rfl) rfl ?_
                  refine st_pg rfl rfl rfl (pkF rfl rfl) rfl ?_
                  refine st_p (pkT rfl rfl) rfl ?_
                  refine al_nil ?_
                  refine nm ?_
                  -- IF t51
                  refine aw_no (rfl) ?_
                  refine aw_exit ?_
                  refine xs ?_
                  refine xs ?_
                  refine xb ?_
                  refine nm ?_
                  exact le_to [] rfl rfl rfl rfl rfl ⟨rfl, rfl, rfl, rfl, by rw [hc]; rfl, trivial⟩ ⟨by simp only [Blk.ren, ren_nts, List.map_cons, List.map_nil]; rfl, trivial⟩
              · have hc := cntN_at ha (.inr ⟨x, hx, by simp [ltN, q1, q2]⟩) hk
                refine aw_seq ?_
                refine aw_seq ?_
                refine aw_region ?_
                refine st_p (mv rfl) rfl ?_
                refine st_p (mv rfl) rfl ?_
                refine st_p (op_leno Try.underlying45 rfl) rfl ?_
                refine st_p (OpP.conv (op_lt rfl rfl) (yes (by first | assumption | omega))) rfl ?_
                refine st_p (mv rfl) rfl ?_
                refine st_pg rfl rfl rfl (mv rfl) rfl ?_
                refine st_pg rfl rfl rfl (mv rfl) rfl ?_
                refine st_pg rfl rfl rfl (op_indexAddr Try.underlying45 z50 rfl rfl rfl (by omega) (by omega)) rfl ?_
                refine st_pg rfl rfl rfl (op_fieldAddr Try.underlying50 rfl z3 (by decide) rfl) rfl ?_
                refine st_pg rfl rfl rfl (op_load1 Try.underlying3 rfl rfl rfl (by assumption) rfl) rfl ?_
                refine st_pg rfl rfl rfl (mv rfl) rfl ?_
                refine st_pg rfl rfl rfl (OpP.conv (op_lt rfl rfl) (no (by first | assumption | omega))) rfl ?_
                refine st_pg rfl rfl rfl (mv rfl) rfl ?_
                refine st_pg rfl rfl rfl (mv rfl) rfl ?_
                refine st_pg rfl rfl rfl (mv rfl) rfl ?_
                refine st_pg rfl rfl rfl (op_indexAddr Try.underlying45 z50 rfl rfl rfl (by omega) (by omega)) rfl ?_
                refine st_pg rfl rfl rfl (op_fieldAddr Try.underlying50 rfl z3 (by decide) rfl) rfl ?_
                refine st_pg rfl rfl rfl (op_load1 Try.underlying3 rfl rfl rfl (by assumption) rfl) rfl ?_
                refine st_pg rfl rfl rfl (mv rfl) rfl ?_
                refine st_pg rfl rfl rfl (OpP.conv (op_eq rfl rfl) (no (by first | assumption | omega))) rfl ?_
                refine st_pg rfl rfl rfl (mv rfl) rfl ?_
                refine st_s rfl rfl rfl rfl rfl ?_
                refine st_s rfl rfl rfl rfl rfl ?_
                refine st_s rfl rfl rfl rfl rfl ?_
                refine st_s rfl rfl rfl rfl rfl ?_
                refine st_s rfl rfl rfl rfl rfl ?_
                refine st_s rfl rfl rfl rfl rfl ?_
                refine st_s rfl rfl rfl rfl rfl ?_
                refine st_pg rfl rfl rfl (pkF rfl rfl) rfl ?_
                refine st_pg rfl rfl rfl (pkF rfl rfl) rfl ?_
                refine st_p (pkT rfl rfl) rfl ?_
                refine al_nil ?_
                refine nm ?_
                -- IF t51
                refine aw_no (rfl) ?_
                refine aw_exit ?_
                refine xs ?_
                refine xs ?_
                refine xb ?_
                refine nm ?_
                exact le_to [] rfl rfl rfl rfl rfl ⟨rfl, rfl, rfl, rfl, by rw [hc]; rfl, trivial⟩ ⟨by simp only [Blk.ren, ren_nts, List.map_cons, List.map_nil]; rfl, trivial⟩
          · have hc := cntN_at ha (.inl (by omega)) hk
            refine aw_seq ?_
            refine aw_seq ?_
            refine aw_region ?_
            refine st_p (mv rfl) rfl ?_
            refine st_p (mv rfl) rfl ?_
            refine st_p (op_leno Try.underlying45 rfl) rfl ?_
            refine st_p (OpP.conv (op_lt rfl rfl) (no (by first | assumption | omega))) rfl ?_
            refine st_p (mv rfl) rfl ?_
            refine st_s rfl rfl rfl rfl rfl ?_
            refine st_s rfl rfl rfl rfl rfl ?_
            refine st_s rfl rfl rfl rfl rfl ?_
            refine st_s rfl rfl rfl rfl rfl ?_
            refine st_s rfl rfl rfl rfl rfl ?_
            refine st_s rfl rfl rfl rfl rfl ?_
            refine st_s rfl rfl rfl rfl rfl ?_
            refine st_s rfl rfl rfl rfl rfl ?_
            refine st_s rfl rfl rfl rfl rfl ?_
            refine st_s rfl rfl rfl rfl rfl ?_
            refine st_s rfl rfl rfl rfl rfl ?_
            refine st_s rfl rfl rfl rfl rfl ?_
            refine st_s rfl rfl rfl rfl rfl ?_
            refine st_s rfl rfl rfl rfl rfl ?_
            refine st_s rfl rfl rfl rfl rfl ?_
            refine st_s rfl rfl rfl rfl rfl ?_
            refine st_s rfl rfl rfl rfl rfl ?_
            refine st_s rfl rfl rfl rfl rfl ?_
            refine st_s rfl rfl rfl rfl rfl ?_
            refine st_s rfl rfl rfl rfl rfl ?_
            refine st_s rfl rfl rfl rfl rfl ?_
            refine st_s rfl rfl rfl rfl rfl ?_
            refine st_s rfl rfl rfl rfl rfl ?_
            refine st_s rfl rfl rfl rfl rfl ?_
            refine st_s rfl rfl rfl rfl rfl ?_
            refine st_p (pkF rfl rfl) rfl ?_
            refine al_nil ?_
            refine nm ?_
            -- IF t51
            refine aw_no (rfl) ?_
            refine aw_exit ?_
            refine xs ?_
            refine xs ?_
            refine xb ?_
            refine nm ?_
            exact le_to [] rfl rfl rfl rfl rfl ⟨rfl, rfl, rfl, rfl, by rw [hc]; rfl, trivial⟩ ⟨by simp only [Blk.ren, ren_nts, List.map_cons, List.map_nil]; rfl, trivial⟩
      · have hha := hasN_at (p := p) (s := s) hr
        cases hg : hasN l p s with
        | true =>
          obtain ⟨x, hx, he⟩ := hha.1 hg
          rw [addN_same (.inl hg)]
          simp only [eqN, Bool.and_eq_true, decide_eq_true_eq] at he
          obtain ⟨q1, q2⟩ := he
          generalize cntN l p s = k at hx hcl ⊢
          have hlt : k < l.length := (List.getElem?_eq_some_iff.1 hx).1
          have hxb : (nts l)[0 + ((k : Nat) : Int).toNat]? = some (.agg [.int .i64 x.pos, .int .i64 x.shard, .int .i64 x.bit]) := by rw [Nat.zero_add, Int.toNat_natCast]; exact nts_get hx
          refine aw_seq ?_
          refine aw_seq ?_
          refine aw_region ?_
          refine st_p (mv rfl) rfl ?_
          refine st_p (mv rfl) rfl ?_
          refine st_p (op_leno Try.underlying45 rfl) rfl ?_
          refine st_p (OpP.conv (op_lt rfl rfl) (yes (by first | assumption | omega))) rfl ?_
          refine st_p (mv rfl) rfl ?_
          refine st_pg rfl rfl rfl (mv rfl) rfl ?_
          refine st_pg rfl rfl rfl (mv rfl) rfl ?_
          refine st_pg rfl rfl rfl (op_indexAddr Try.underlying45 z50 rfl rfl rfl (by omega) (by omega)) rfl ?_
          refine st_pg rfl rfl rfl (op_fieldAddr Try.underlying50 rfl z3 (by decide) rfl) rfl ?_
          refine st_pg rfl rfl rfl (op_load1 Try.underlying3 rfl rfl rfl (by assumption) rfl) rfl ?_
          refine st_pg rfl rfl rfl (mv rfl) rfl ?_
          refine st_pg rfl rfl rfl (OpP.conv (op_eq rfl rfl) (yes (by first | assumption | omega))) rfl ?_
          refine st_p (pkT rfl rfl) rfl ?_
          refine st_p (mv rfl) rfl ?_
          refine st_pg rfl rfl rfl (mv rfl) rfl ?_
          refine st_pg rfl rfl rfl (mv rfl) rfl ?_
          refine st_pg rfl rfl rfl (op_indexAddr Try.underlying45 z50 rfl rfl rfl (by omega) (by omega)) rfl ?_
          refine st_pg rfl rfl rfl (op_fieldAddr Try.underlying50 rfl z3 (by decide) rfl) rfl ?_
          refine st_pg rfl rfl rfl (op_load1 Try.underlying3 rfl rfl rfl (by assumption) rfl) rfl ?_
          refine st_pg rfl rfl rfl (mv rfl) rfl ?_
          refine st_pg rfl rfl rfl (OpP.conv (op_eq rfl rfl) (yes (by first | assumption | omega))) rfl ?_
          refine st_p (pkT rfl rfl) rfl ?_
          refine al_nil ?_
          refine nm ?_
          -- IF t75
          refine aw_yes (rfl) ?_
          refine aw_seq ?_
          refine aw_region ?_
          refine st_p (mv rfl) rfl ?_
          refine st_p (mva rfl) rfl ?_
          refine al_nil ?_
          refine nm ?_
          refine aw_ret ?_
          refine rs ?_
          exact ret_a ⟨[(8, .own 0 0 l.length)], [(0, .cells 3 (nts l))], 1⟩ (le_to [] rfl rfl rfl rfl rfl ⟨rfl, trivial⟩ ⟨by simp only [Blk.ren, ren_nts, List.map_cons, List.map_nil]; rfl, trivial⟩) (res1 Try.results71) (.inr ⟨rfl, by simp only [List.all_cons, List.all_nil, nts_nosl, Bool.and_true]⟩) ⟨rfl, rfl, rfl⟩
        | false =>
          rw [addN_more hg hb]
          have hno : ∀ x, l[cntN l p s]? = some x → ¬ (x.pos = p ∧ x.shard = s) := fun x hx h => by
            have : hasN l p s = true := hha.2 ⟨x, hx, by simp [eqN, h.1, h.2]⟩
            rw [hg] at this; cases this
          generalize hm : insN l (cntN l p s) ⟨p, s, b⟩ = m
          generalize cntN l p s = k at hno hcl hm ⊢
          have hmn : nts m = (nts l).take k ++ [ntA ⟨p, s, b⟩] ++ (nts l).drop k := by rw [← hm]; unfold insN nts; simp
          have hml : m.length = l.length + 1 := by
            rw [← hm]; unfold insN
            simp only [List.length_append, List.length_cons, List.length_take, List.length_drop]
            omega
          have hfin : ([] : List AV) ++ ((nts l).drop (0 + Int.toNat 0)).take (((k : Nat) : Int).toNat - Int.toNat 0) ++ [ntA ⟨p, s, b⟩] ++ ((nts l).drop (0 + ((k : Nat) : Int).toNat)).take (((l.length : Nat) : Int).toNat - ((k : Nat) : Int).toNat) = nts m := by
            rw [hmn]
            simp only [Int.toNat_natCast, Int.toNat_zero, Nat.add_zero, Nat.zero_add, Nat.sub_zero, List.drop_zero, List.nil_append]
            rw [List.take_of_length_le (l := List.drop k (nts l)) (by rw [List.length_drop]; omega)]
          have hz1 : ∀ z ∈ ((nts l).drop (0 + Int.toNat 0)).take (((k : Nat) : Int).toNat - Int.toNat 0), z.cells.length = 3 := fun z hz => hzl z (List.mem_of_mem_drop (List.mem_of_mem_take hz))
          have hz2 : ∀ z ∈ ((nts l).drop (0 + ((k : Nat) : Int).toNat)).take (((l.length : Nat) : Int).toNat - ((k : Nat) : Int).toNat), z.cells.length = 3 := fun z hz => hzl z (List.mem_of_mem_drop (List.mem_of_mem_take hz))
          by_cases hlt : k < l.length
          · obtain ⟨x, hx⟩ : ∃ x, l[k]? = some x := ⟨_, List.getElem?_eq_getElem hlt⟩
            have hxb : (nts l)[0 + ((k : Nat) : Int).toNat]? = some (.agg [.int .i64 x.pos, .int .i64 x.shard, .int .i64 x.bit]) := by rw [Nat.zero_add, Int.toNat_natCast]; exact nts_get hx
            by_cases q1 : x.pos = p
            · have q2 : ¬ x.shard = s := fun e => hno x hx ⟨q1, e⟩
              refine aw_seq ?_
              refine aw_seq ?_
              refine aw_region ?_
              refine st_p (mv rfl) rfl ?_
              refine st_p (mv rfl) rfl ?_
              refine st_p (op_leno Try.underlying45 rfl) rfl ?_
              refine st_p (OpP.conv (op_lt rfl rfl) (yes (by first | assumption | omega))) rfl ?_
              refine st_p (mv rfl) rfl ?_
              refine st_pg rfl rfl rfl (mv rfl) rfl ?_
              refine st_pg rfl rfl rfl (mv rfl) rfl ?_
              refine st_pg rfl rfl rfl (op_indexAddr Try.underlying45 z50 rfl rfl rfl (by omega) (by omega)) rfl ?_
              refine st_pg rfl rfl rfl (op_fieldAddr Try.underlying50 rfl z3 (by decide) rfl) rfl ?_
              refine st_pg rfl rfl rfl (op_load1 Try.underlying3 rfl rfl rfl (by assumption) rfl) rfl ?_
              refine st_pg rfl rfl rfl (mv rfl) rfl ?_
              refine st_pg rfl rfl rfl (OpP.conv (op_eq rfl rfl) (yes (by first | assumption | omega))) rfl ?_
              refine st_p (pkT rfl rfl) rfl ?_
              refine st_p (mv rfl) rfl ?_
              refine st_pg rfl rfl rfl (mv rfl) rfl ?_
              refine st_pg rfl rfl rfl (mv rfl) rfl ?_
              refine st_pg rfl rfl rfl (op_indexAddr Try.underlying45 z50 rfl rfl rfl (by omega) (by omega)) rfl ?_
              refine st_pg rfl rfl rfl (op_fieldAddr Try.underlying50 rfl z3 (by decide) rfl) rfl ?_
              refine st_pg rfl rfl rfl (op_load1 Try.underlying3 rfl rfl rfl (by assumption) rfl) rfl ?_
              refine st_pg rfl rfl rfl (mv rfl) rfl ?_
              refine st_pg rfl rfl rfl (OpP.conv (op_eq rfl rfl) (no (by first | assumption | omega))) rfl ?_
              refine st_p (pkT rfl rfl) rfl ?_
              refine al_nil ?_
              refine nm ?_
              -- IF t75
              refine aw_no (rfl) ?_
              refine aw_skip ?_
              refine nm ?_
              refine aw_seq ?_
              refine aw_ghost 3 ?_
              refine dr_go ?_
              refine dr_fq 0 0 [] rfl (fun H => op_bsl0 1 Try.underlying45 i50 o50 (by decide)) ?_
              refine dr_f 0 0 [9] rfl (fun H => mv rfl) ?_
              refine dr_f 0 0 [10] rfl (fun H => mv rfl) ?_
              refine dr_q 0 0 [78, 79] rfl (op_slice Try.underlying45 z50 rfl rfl (by exact rfl) (by exact ⟨_, rfl⟩) (by first | omega | (simp only [bl_len, List.length_map, List.length_append, List.length_take, List.length_drop]; omega)) (by first | omega | (simp only [bl_len, List.length_map, List.length_append, List.length_take, List.length_drop]; omega)) (by first | omega | (simp only [bl_len, List.length_map, List.length_append, List.length_take, List.length_drop]; omega))) ?_
              refine dr_e 0 [77, 80] rfl (op_app Try.underlying45 Try.underlying45 (.inl ⟨_, rfl⟩) i50 o50 rfl rfl rfl (by first | rfl | omega | (simp; done) | (simp; omega)) ((SrcA.own rfl (by first | omega | (simp; try omega))).ok rfl (by first | assumption | intro z hz; simp only [List.mem_singleton, List.drop_zero, List.take_succ_cons, List.take_zero, List.mem_cons, List.not_mem_nil, or_false, List.mem_map] at hz; first | (subst hz; rfl) | (obtain ⟨_, _, rfl⟩ := hz; rfl) | (rcases hz with rfl | rfl <;> rfl))) (by first | omega | (simp; try omega)) rfl) ?_
              refine dr_f 0 1 [1] rfl (fun H => mv rfl) ?_
              refine dr_f 0 1 [2] rfl (fun H => mv rfl) ?_
              refine dr_f 0 1 [3] rfl (fun H => mv rfl) ?_
              refine dr_f 0 1 [82, 83, 84] rfl (fun H => op_build Try.underlying50 a50 rfl rfl (by intro f hf; simp only [List.mem_cons, List.not_mem_nil, or_false] at hf; rcases hf with rfl | rfl | rfl <;> exact ⟨_, by first | exact z3⟩) (pcons rfl rfl z3 rfl (pcons rfl rfl z3 rfl (pcons rfl rfl z3 rfl .nil))) rfl) ?_
              refine dr_fq 0 1 [85] rfl (fun H => op_bslF Try.underlying45 i50 o50 (by decide) rfl rfl rfl (by first | rfl | simp [AV.plain, plains, bl_plain]) (by decide)) ?_
              refine dr_e 1 [81, 86] rfl (op_app Try.underlying45 Try.underlying45 (.inl ⟨_, rfl⟩) i50 o50 rfl rfl rfl (by first | rfl | omega | (simp; done) | (simp; omega)) ((SrcA.sl (.inr trivial)).ok rfl (by first | assumption | intro z hz; simp only [List.mem_singleton, List.drop_zero, List.take_succ_cons, List.take_zero, List.mem_cons, List.not_mem_nil, or_false, List.mem_map] at hz; first | (subst hz; rfl) | (obtain ⟨_, _, rfl⟩ := hz; rfl) | (rcases hz with rfl | rfl <;> rfl))) (by first | omega | (simp; try omega)) rfl) ?_
              refine dr_f 0 2 [9] rfl (fun H => mv rfl) ?_
              refine dr_f 0 2 [10] rfl (fun H => mv rfl) ?_
              refine dr_q 0 2 [88, 89] rfl (op_slice Try.underlying45 z50 rfl rfl (by exact ⟨_, rfl⟩) (by exact rfl) (by first | omega | (simp only [bl_len, List.length_map, List.length_append, List.length_take, List.length_drop]; omega)) (by first | omega | (simp only [bl_len, List.length_map, List.length_append, List.length_take, List.length_drop]; omega)) (by first | omega | (simp only [bl_len, List.length_map, List.length_append, List.length_take, List.length_drop]; omega))) ?_
              refine dr_e 2 [87, 90] rfl (op_app Try.underlying45 Try.underlying45 (.inl ⟨_, rfl⟩) i50 o50 rfl rfl rfl (by first | rfl | omega | (simp; done) | (simp; omega)) ((SrcA.own rfl (by first | omega | (simp; try omega))).ok rfl (by first | assumption | intro z hz; simp only [List.mem_singleton, List.drop_zero, List.take_succ_cons, List.take_zero, List.mem_cons, List.not_mem_nil, or_false, List.mem_map] at hz; first | (subst hz; rfl) | (obtain ⟨_, _, rfl⟩ := hz; rfl) | (rcases hz with rfl | rfl <;> rfl))) (by first | omega | (simp; try omega)) rfl) ?_
              refine dr_f 3 3 [91] rfl (fun H => mva rfl) ?_
              refine dr_end [(13, 0), (13, 1)] (by kernel_rfl) (by kernel_rfl) (by kernel_rfl) (by kernel_rfl) ⟨(by first | exact ⟨_, rfl, OpP.q (op_sliceL Try.underlying45 z50 rfl (by exact ⟨_, rfl⟩) (by exact rfl) (by first | omega | (simp only [bl_len, List.length_map, List.length_append, List.length_take, List.length_drop]; omega)) (by first | omega | (simp only [bl_len, List.length_map, List.length_append, List.length_take, List.length_drop]; omega)) (by first | omega | (simp only [bl_len, List.length_map, List.length_append, List.length_take, List.length_drop]; omega)))⟩ | exact ⟨_, rfl, OpP.q (op_slice Try.underlying45 z50 rfl rfl (by exact ⟨_, rfl⟩) (by exact rfl) (by first | omega | (simp only [bl_len, List.length_map, List.length_append, List.length_take, List.length_drop]; omega)) (by first | omega | (simp only [bl_len, List.length_map, List.length_append, List.length_take, List.length_drop]; omega)) (by first | omega | (simp only [bl_len, List.length_map, List.length_append, List.length_take, List.length_drop]; omega)))⟩ | exact ⟨_, rfl, OpP.q (op_sliceC Try.underlying45 z50 rfl rfl (by exact ⟨_, rfl⟩) (by exact rfl) (by first | omega | (simp only [bl_len, List.length_map, List.length_append, List.length_take, List.length_drop]; omega)) (by first | omega | (simp only [bl_len, List.length_map, List.length_append, List.length_take, List.length_drop]; omega)) (by omega) (by first | omega | (simp only [bl_len, List.length_map, List.length_append, List.length_take, List.length_drop]; omega)))⟩), (by first | exact ⟨_, rfl, OpP.q (op_sliceL Try.underlying45 z50 rfl (by exact ⟨_, rfl⟩) (by exact rfl) (by first | omega | (simp only [bl_len, List.length_map, List.length_append, List.length_take, List.length_drop]; omega)) (by first | omega | (simp only [bl_len, List.length_map, List.length_append, List.length_take, List.length_drop]; omega)) (by first | omega | (simp only [bl_len, List.length_map, List.length_append, List.length_take, List.length_drop]; omega)))⟩ | exact ⟨_, rfl, OpP.q (op_slice Try.underlying45 z50 rfl rfl (by exact ⟨_, rfl⟩) (by exact rfl) (by first | omega | (simp only [bl_len, List.length_map, List.length_append, List.length_take, List.length_drop]; omega)) (by first | omega | (simp only [bl_len, List.length_map, List.length_append, List.length_take, List.length_drop]; omega)) (by first | omega | (simp only [bl_len, List.length_map, List.length_append, List.length_take, List.length_drop]; omega)))⟩ | exact ⟨_, rfl, OpP.q (op_sliceC Try.underlying45 z50 rfl rfl (by exact ⟨_, rfl⟩) (by exact rfl) (by first | omega | (simp only [bl_len, List.length_map, List.length_append, List.length_take, List.length_drop]; omega)) (by first | omega | (simp only [bl_len, List.length_map, List.length_append, List.length_take, List.length_drop]; omega)) (by omega) (by first | omega | (simp only [bl_len, List.length_map, List.length_append, List.length_take, List.length_drop]; omega)))⟩), trivial⟩ ?_
              refine nm ?_
              refine aw_ret ?_
              refine ret_a ⟨[(8, .own 0 0 m.length)], [(0, .cells 3 (nts m))], 1⟩ (le_to [(0, 4)] rfl rfl rfl rfl rfl ⟨?_, trivial⟩ ⟨?_, trivial⟩) (res1 Try.results71) (.inr ⟨rfl, by simp only [List.all_cons, List.all_nil, nts_nosl, Bool.and_true]⟩) ⟨rfl, rfl, rfl⟩
              · exact (congrArg (fun q : List AV => AV.own 4 0 q.length) hfin).trans (by rw [nts_len]; rfl)
              · rw [show Blk.ren _ (.cells 3 (nts m)) = .cells 3 (nts m) from by simp only [Blk.ren, ren_nts]]
                exact congrArg (fun q : List AV => some (Blk.cells 3 q)) hfin
            · skip
              refine aw_seq ?_
              refine aw_seq ?_
              refine aw_region ?_
              refine st_p (mv rfl) rfl ?_
              refine st_p (mv rfl) rfl ?_
              refine st_p (op_leno Try.underlying45 rfl) rfl ?_
              refine st_p (OpP.conv (op_lt rfl rfl) (yes (by first | assumption | omega))) rfl ?_
              refine st_p (mv rfl) rfl ?_
              refine st_pg rfl rfl rfl (mv rfl) rfl ?_
              refine st_pg rfl rfl rfl (mv rfl) rfl ?_
              refine st_pg rfl rfl rfl (op_indexAddr Try.underlying45 z50 rfl rfl rfl (by omega) (by omega)) rfl ?_
              refine st_pg rfl rfl rfl (op_fieldAddr Try.underlying50 rfl z3 (by decide) rfl) rfl ?_
              refine st_pg rfl rfl rfl (op_load1 Try.underlying3 rfl rfl rfl (by assumption) rfl) rfl ?_
              refine st_pg rfl rfl rfl (mv rfl) rfl ?_
              refine st_pg rfl rfl rfl (OpP.conv (op_eq rfl rfl) (no (by first | assumption | omega))) rfl ?_
              refine st_p (pkT rfl rfl) rfl ?_
              refine st_p (mv rfl) rfl ?_
              refine st_s rfl rfl rfl rfl rfl ?_
              refine st_s rfl rfl rfl rfl rfl ?_
              refine st_s rfl rfl rfl rfl rfl ?_
              refine st_s rfl rfl rfl rfl rfl ?_
              refine st_s rfl rfl rfl rfl rfl ?_
              refine st_s rfl rfl rfl rfl rfl ?_
              refine st_s rfl rfl rfl rfl rfl ?_
              refine st_p (pkF rfl rfl) rfl ?_
              refine al_nil ?_
              refine nm ?_
              -- IF t75
              refine aw_no (rfl) ?_
              refine aw_skip ?_
              refine nm ?_
              refine aw_seq ?_
              refine aw_ghost 3 ?_
              refine dr_go ?_
              refine dr_fq 0 0 [] rfl (fun H => op_bsl0 1 Try.underlying45 i50 o50 (by decide)) ?_
              refine dr_f 0 0 [9] rfl (fun H => mv rfl) ?_
              refine dr_f 0 0 [10] rfl (fun H => mv rfl) ?_
              refine dr_q 0 0 [78, 79] rfl (op_slice Try.underlying45 z50 rfl rfl (by exact rfl) (by exact ⟨_, rfl⟩) (by first | omega | (simp only [bl_len, List.length_map, List.length_append, List.length_take, List.length_drop]; omega)) (by first | omega | (simp only [bl_len, List.length_map, List.length_append, List.length_take, List.length_drop]; omega)) (by first | omega | (simp only [bl_len, List.length_map, List.length_append, List.length_take, List.length_drop]; omega))) ?_
              refine dr_e 0 [77, 80] rfl (op_app Try.underlying45 Try.underlying45 (.inl ⟨_, rfl⟩) i50 o50 rfl rfl rfl (by first | rfl | omega | (simp; done) | (simp; omega)) ((SrcA.own rfl (by first | omega | (simp; try omega))).ok rfl (by first | assumption | intro z hz; simp only [List.mem_singleton, List.drop_zero, List.take_succ_cons, List.take_zero, List.mem_cons, List.not_mem_nil, or_false, List.mem_map] at hz; first | (subst hz; rfl) | (obtain ⟨_, _, rfl⟩ := hz; rfl) | (rcases hz with rfl | rfl <;> rfl))) (by first | omega | (simp; try omega)) rfl) ?_
              refine dr_f 0 1 [1] rfl (fun H => mv rfl) ?_
              refine dr_f 0 1 [2] rfl (fun H => mv rfl) ?_
              refine dr_f 0 1 [3] rfl (fun H => mv rfl) ?_
              refine dr_f 0 1 [82, 83, 84] rfl (fun H => op_build Try.underlying50 a50 rfl rfl (by intro f hf; simp only [List.mem_cons, List.not_mem_nil, or_false] at hf; rcases hf with rfl | rfl | rfl <;> exact ⟨_, by first | exact z3⟩) (pcons rfl rfl z3 rfl (pcons rfl rfl z3 rfl (pcons rfl rfl z3 rfl .nil))) rfl) ?_
              refine dr_fq 0 1 [85] rfl (fun H => op_bslF Try.underlying45 i50 o50 (by decide) rfl rfl rfl (by first | rfl | simp [AV.plain, plains, bl_plain]) (by decide)) ?_
              refine dr_e 1 [81, 86] rfl (op_app Try.underlying45 Try.underlying45 (.inl ⟨_, rfl⟩) i50 o50 rfl rfl rfl (by first | rfl | omega | (simp; done) | (simp; omega)) ((SrcA.sl (.inr trivial)).ok rfl (by first | assumption | intro z hz; simp only [List.mem_singleton, List.drop_zero, List.take_succ_cons, List.take_zero, List.mem_cons, List.not_mem_nil, or_false, List.mem_map] at hz; first | (subst hz; rfl) | (obtain ⟨_, _, rfl⟩ := hz; rfl) | (rcases hz with rfl | rfl <;> rfl))) (by first | omega | (simp; try omega)) rfl) ?_
              refine dr_f 0 2 [9] rfl (fun H => mv rfl) ?_
              refine dr_f 0 2 [10] rfl (fun H => mv rfl) ?_
              refine dr_q 0 2 [88, 89] rfl (op_slice Try.underlying45 z50 rfl rfl (by exact ⟨_, rfl⟩) (by exact rfl) (by first | omega | (simp only [bl_len, List.length_map, List.length_append, List.length_take, List.length_drop]; omega)) (by first | omega | (simp only [bl_len, List.length_map, List.length_append, List.length_take, List.length_drop]; omega)) (by first | omega | (simp only [bl_len, List.length_map, List.length_append, List.length_take, List.length_drop]; omega))) ?_
              refine dr_e 2 [87, 90] rfl (op_app Try.underlying45 Try.underlying45 (.inl ⟨_, rfl⟩) i50 o50 rfl rfl rfl (by first | rfl | omega | (simp; done) | (simp; omega)) ((SrcA.own rfl (by first | omega | (simp; try omega))).ok rfl (by first | assumption | intro z hz; simp only [List.mem_singleton, List.drop_zero, List.take_succ_cons, List.take_zero, List.mem_cons, List.not_mem_nil, or_false, List.mem_map] at hz; first | (subst hz; rfl) | (obtain ⟨_, _, rfl⟩ := hz; rfl) | (rcases hz with rfl | rfl <;> rfl))) (by first | omega | (simp; try omega)) rfl) ?_
              refine dr_f 3 3 [91] rfl (fun H => mva rfl) ?_
              refine dr_end [(13, 0), (13, 1)] (by kernel_rfl) (by kernel_rfl) (by kernel_rfl) (by kernel_rfl) ⟨(by first | exact ⟨_, rfl, OpP.q (op_sliceL Try.underlying45 z50 rfl (by exact ⟨_, rfl⟩) (by exact rfl) (by first | omega | (simp only [bl_len, List.length_map, List.length_append, List.length_take, List.length_drop]; omega)) (by first | omega | (simp only [bl_len, List.length_map, List.length_append, List.length_take, List.length_drop]; omega)) (by first | omega | (simp only [bl_len, List.length_map, List.length_append, List.length_take, List.length_drop]; omega)))⟩ | exact ⟨_, rfl, OpP.q (op_slice Try.underlying45 z50 rfl rfl (by exact ⟨_, rfl⟩) (by exact rfl) (by first | omega | (simp only [bl_len, List.length_map, List.length_append, List.length_take, List.length_drop]; omega)) (by first | omega | (simp only [bl_len, List.length_map, List.length_append, List.length_take, List.length_drop]; omega)) (by first | omega | (simp only [bl_len, List.length_map, List.length_append, List.length_take, List.length_drop]; omega)))⟩ | exact ⟨_, rfl, OpP.q (op_sliceC Try.underlying45 z50 rfl rfl (by exact ⟨_, rfl⟩) (by exact rfl) (by first | omega | (simp only [bl_len, List.length_map, List.length_append, List.length_take, List.length_drop]; omega)) (by first | omega | (simp only [bl_len, List.length_map, List.length_append, List.length_take, List.length_drop]; omega)) (by omega) (by first | omega | (simp only [bl_len, List.length_map, List.length_append, List.length_take, List.length_drop]; omega)))⟩), (by first | exact ⟨_, rfl, OpP.q (op_sliceL Try.underlying45 z50 rfl (by exact ⟨_, rfl⟩) (by exact rfl) (by first | omega | (simp only [bl_len, List.length_map, List.length_append, List.length_take, List.length_drop]; omega)) (by first | omega | (simp only [bl_len, List.length_map, List.length_append, List.length_take, List.length_drop]; omega)) (by first | omega | (simp only [bl_len, List.length_map, List.length_append, List.length_take, List.length_drop]; omega)))⟩ | exact ⟨_, rfl, OpP.q (op_slice Try.underlying45 z50 rfl rfl (by exact ⟨_, rfl⟩) (by exact rfl) (by first | omega | (simp only [bl_len, List.length_map, List.length_append, List.length_take, List.length_drop]; omega)) (by first | omega | (simp only [bl_len, List.length_map, List.length_append, List.length_take, List.length_drop]; omega)) (by first | omega | (simp only [bl_len, List.length_map, List.length_append, List.length_take, List.length_drop]; omega)))⟩ | exact ⟨_, rfl, OpP.q (op_sliceC Try.underlying45 z50 rfl rfl (by exact ⟨_, rfl⟩) (by exact rfl) (by first | omega | (simp only [bl_len, List.length_map, List.length_append, List.length_take, List.length_drop]; omega)) (by first | omega | (simp only [bl_len, List.length_map, List.length_append, List.length_take, List.length_drop]; omega)) (by omega) (by first | omega | (simp only [bl_len, List.length_map, List.length_append, List.length_take, List.length_drop]; omega)))⟩), trivial⟩ ?_
              refine nm ?_
              refine aw_ret ?_
              refine ret_a ⟨[(8, .own 0 0 m.length)], [(0, .cells 3 (nts m))], 1⟩ (le_to [(0, 4)] rfl rfl rfl rfl rfl ⟨?_, trivial⟩ ⟨?_, trivial⟩) (res1 Try.results71) (.inr ⟨rfl, by simp only [List.all_cons, List.all_nil, nts_nosl, Bool.and_true]⟩) ⟨rfl, rfl, rfl⟩
              · exact (congrArg (fun q : List AV => AV.own 4 0 q.length) hfin).trans (by rw [nts_len]; rfl)
              · rw [show Blk.ren _ (.cells 3 (nts m)) = .cells 3 (nts m) from by simp only [Blk.ren, ren_nts]]
                exact congrArg (fun q : List AV => some (Blk.cells 3 q)) hfin
          · skip
            refine aw_seq ?_
            refine aw_seq ?_
            refine aw_region ?_
            refine st_p (mv rfl) rfl ?_
            refine st_p (mv rfl) rfl ?_
            refine st_p (op_leno Try.underlying45 rfl) rfl ?_
            refine st_p (OpP.conv (op_lt rfl rfl) (no (by first | assumption | omega))) rfl ?_
            refine st_p (mv rfl) rfl ?_
            refine st_s rfl rfl rfl rfl rfl ?_
            refine st_s rfl rfl rfl rfl rfl ?_
            refine st_s rfl rfl rfl rfl rfl ?_
            refine st_s rfl rfl rfl rfl rfl ?_
            refine st_s rfl rfl rfl rfl rfl ?_
            refine st_s rfl rfl rfl rfl rfl ?_
            refine st_s rfl rfl rfl rfl rfl ?_
            refine st_p (pkF rfl rfl) rfl ?_
            refine st_p (mv rfl) rfl ?_
            refine st_s rfl rfl rfl rfl rfl ?_
            refine st_s rfl rfl rfl rfl rfl ?_
            refine st_s rfl rfl rfl rfl rfl ?_
            refine st_s rfl rfl rfl rfl rfl ?_
            refine st_s rfl rfl rfl rfl rfl ?_
            refine st_s rfl rfl rfl rfl rfl ?_
            refine st_s rfl rfl rfl rfl rfl ?_
            refine st_p (pkF rfl rfl) rfl ?_
            refine al_nil ?_
            refine nm ?_
            -- IF t75
            refine aw_no (rfl) ?_
            refine aw_skip ?_
            refine nm ?_
            refine aw_seq ?_
            refine aw_ghost 3 ?_
            refine dr_go ?_
            refine dr_fq 0 0 [] rfl (fun H => op_bsl0 1 Try.underlying45 i50 o50 (by decide)) ?_
            refine dr_f 0 0 [9] rfl (fun H => mv rfl) ?_
            refine dr_f 0 0 [10] rfl (fun H => mv rfl) ?_
            refine dr_q 0 0 [78, 79] rfl (op_slice Try.underlying45 z50 rfl rfl (by exact rfl) (by exact ⟨_, rfl⟩) (by first | omega | (simp only [bl_len, List.length_map, List.length_append, List.length_take, List.length_drop]; omega)) (by first | omega | (simp only [bl_len, List.length_map, List.length_append, List.length_take, List.length_drop]; omega)) (by first | omega | (simp only [bl_len, List.length_map, List.length_append, List.length_take, List.length_drop]; omega))) ?_
            refine dr_e 0 [77, 80] rfl (op_app Try.underlying45 Try.underlying45 (.inl ⟨_, rfl⟩) i50 o50 rfl rfl rfl (by first | rfl | omega | (simp; done) | (simp; omega)) ((SrcA.own rfl (by first | omega | (simp; try omega))).ok rfl (by first | assumption | intro z hz; simp only [List.mem_singleton, List.drop_zero, List.take_succ_cons, List.take_zero, List.mem_cons, List.not_mem_nil, or_false, List.mem_map] at hz; first | (subst hz; rfl) | (obtain ⟨_, _, rfl⟩ := hz; rfl) | (rcases hz with rfl | rfl <;> rfl))) (by first | omega | (simp; try omega)) rfl) ?_
            refine dr_f 0 1 [1] rfl (fun H => mv rfl) ?_
            refine dr_f 0 1 [2] rfl (fun H => mv rfl) ?_
            refine dr_f 0 1 [3] rfl (fun H => mv rfl) ?_
            refine dr_f 0 1 [82, 83, 84] rfl (fun H => op_build Try.underlying50 a50 rfl rfl (by intro f hf; simp only [List.mem_cons, List.not_mem_nil, or_false] at hf; rcases hf with rfl | rfl | rfl <;> exact ⟨_, by first | exact z3⟩) (pcons rfl rfl z3 rfl (pcons rfl rfl z3 rfl (pcons rfl rfl z3 rfl .nil))) rfl) ?_
            refine dr_fq 0 1 [85] rfl (fun H => op_bslF Try.underlying45 i50 o50 (by decide) rfl rfl rfl (by first | rfl | simp [AV.plain, plains, bl_plain]) (by decide)) ?_
            refine dr_e 1 [81, 86] rfl (op_app Try.underlying45 Try.underlying45 (.inl ⟨_, rfl⟩) i50 o50 rfl rfl rfl (by first | rfl | omega | (simp; done) | (simp; omega)) ((SrcA.sl (.inr trivial)).ok rfl (by first | assumption | intro z hz; simp only [List.mem_singleton, List.drop_zero, List.take_succ_cons, List.take_zero, List.mem_cons, List.not_mem_nil, or_false, List.mem_map] at hz; first | (subst hz; rfl) | (obtain ⟨_, _, rfl⟩ := hz; rfl) | (rcases hz with rfl | rfl <;> rfl))) (by first | omega | (simp; try omega)) rfl) ?_
            refine dr_f 0 2 [9] rfl (fun H => mv rfl) ?_
            refine dr_f 0 2 [10] rfl (fun H => mv rfl) ?_
            refine dr_q 0 2 [88, 89] rfl (op_slice Try.underlying45 z50 rfl rfl (by exact ⟨_, rfl⟩) (by exact rfl) (by first | omega | (simp only [bl_len, List.length_map, List.length_append, List.length_take, List.length_drop]; omega)) (by first | omega | (simp only [bl_len, List.length_map, List.length_append, List.length_take, List.length_drop]; omega)) (by first | omega | (simp only [bl_len, List.length_map, List.length_append, List.length_take, List.length_drop]; omega))) ?_
            refine dr_e 2 [87, 90] rfl (op_app Try.underlying45 Try.underlying45 (.inl ⟨_, rfl⟩) i50 o50 rfl rfl rfl (by first | rfl | omega | (simp; done) | (simp; omega)) ((SrcA.own rfl (by first | omega | (simp; try omega))).ok rfl (by first | assumption | intro z hz; simp only [List.mem_singleton, List.drop_zero, List.take_succ_cons, List.take_zero, List.mem_cons, List.not_mem_nil, or_false, List.mem_map] at hz; first | (subst hz; rfl) | (obtain ⟨_, _, rfl⟩ := hz; rfl) | (rcases hz with rfl | rfl <;> rfl))) (by first | omega | (simp; try omega)) rfl) ?_
            refine dr_f 3 3 [91] rfl (fun H => mva rfl) ?_
            refine dr_end [(13, 0), (13, 1)] (by kernel_rfl) (by kernel_rfl) (by kernel_rfl) (by kernel_rfl) ⟨(by first | exact ⟨_, rfl, OpP.q (op_sliceL Try.underlying45 z50 rfl (by exact ⟨_, rfl⟩) (by exact rfl) (by first | omega | (simp only [bl_len, List.length_map, List.length_append, List.length_take, List.length_drop]; omega)) (by first | omega | (simp only [bl_len, List.length_map, List.length_append, List.length_take, List.length_drop]; omega)) (by first | omega | (simp only [bl_len, List.length_map, List.length_append, List.length_take, List.length_drop]; omega)))⟩ | exact ⟨_, rfl, OpP.q (op_slice Try.underlying45 z50 rfl rfl (by exact ⟨_, rfl⟩) (by exact rfl) (by first | omega | (simp only [bl_len, List.length_map, List.length_append, List.length_take, List.length_drop]; omega)) (by first | omega | (simp only [bl_len, List.length_map, List.length_append, List.length_take, List.length_drop]; omega)) (by first | omega | (simp only [bl_len, List.length_map, List.length_append, List.length_take, List.length_drop]; omega)))⟩ | exact ⟨_, rfl, OpP.q (op_sliceC Try.underlying45 z50 rfl rfl (by exact ⟨_, rfl⟩) (by exact rfl) (by first | omega | (simp only [bl_len, List.length_map, List.length_append, List.length_take, List.length_drop]; omega)) (by first | omega | (simp only [bl_len, List.length_map, List.length_append, List.length_take, List.length_drop]; omega)) (by omega) (by first | omega | (simp only [bl_len, List.length_map, List.length_append, List.length_take, List.length_drop]; omega)))⟩), (by first | exact ⟨_, rfl, OpP.q (op_sliceL Try.underlying45 z50 rfl (by exact ⟨_, rfl⟩) (by exact rfl) (by first | omega | (simp only [bl_len, List.length_map, List.length_append, List.length_take, List.length_drop]; omega)) (by first | omega | (simp only [bl_len, List.length_map, List.length_append, List.length_take, List.length_drop]; omega)) (by first | omega | (simp only [bl_len, List.length_map, List.length_append, List.length_take, List.length_drop]; omega)))⟩ | exact ⟨_, rfl, OpP.q (op_slice Try.underlying45 z50 rfl rfl (by exact ⟨_, rfl⟩) (by exact rfl) (by first | omega | (simp only [bl_len, List.length_map, List.length_append, List.length_take, List.length_drop]; omega)) (by first | omega | (simp only [bl_len, List.length_map, List.length_append, List.length_take, List.length_drop]; omega)) (by first | omega | (simp only [bl_len, List.length_map, List.length_append, List.length_take, List.length_drop]; omega)))⟩ | exact ⟨_, rfl, OpP.q (op_sliceC Try.underlying45 z50 rfl rfl (by exact ⟨_, rfl⟩) (by exact rfl) (by first | omega | (simp only [bl_len, List.length_map, List.length_append, List.length_take, List.length_drop]; omega)) (by first | omega | (simp only [bl_len, List.length_map, List.length_append, List.length_take, List.length_drop]; omega)) (by omega) (by first | omega | (simp only [bl_len, List.length_map, List.length_append, List.length_take, List.length_drop]; omega)))⟩), trivial⟩ ?_
            refine nm ?_
            refine aw_ret ?_
            refine ret_a ⟨[(8, .own 0 0 m.length)], [(0, .cells 3 (nts m))], 1⟩ (le_to [(0, 4)] rfl rfl rfl rfl rfl ⟨?_, trivial⟩ ⟨?_, trivial⟩) (res1 Try.results71) (.inr ⟨rfl, by simp only [List.all_cons, List.all_nil, nts_nosl, Bool.and_true]⟩) ⟨rfl, rfl, rfl⟩
            · exact (congrArg (fun q : List AV => AV.own 4 0 q.length) hfin).trans (by rw [nts_len]; rfl)
            · rw [show Blk.ren _ (.cells 3 (nts m)) = .cells 3 (nts m) from by simp only [Blk.ren, ren_nts]]
              exact congrArg (fun q : List AV => some (Blk.cells 3 q)) hfin
end Go.Proofs.Ytpggknkhldecaaa.Abs
end
section
/-
  Notes for both, out of a row of numbers.
-/
namespace Go.Proofs.Ytpggknkhldecaaa.Abs

def bV (l : List NT) : AV := if l = [] then .nils else .sl 3 (nts l)
theorem bV_ne {l : List NT} (h : l ≠ []) : bV l = .sl 3 (nts l) := if_neg h

set_option maxRecDepth 100000 in
set_option maxHeartbeats 8000000 in
theorem law_both (x0 : List (Int × Int × Int)) (h0 : x0.length ≤ 40) (g0 : ∀ x ∈ x0, (Lit.int .u8 x.1).wf = true ∧ (Lit.int .u8 x.2.1).wf = true ∧ (Lit.int .u8 x.2.2).wf = true) :
    AC Try.prog 25 [.sl 3 (x0.map triA)] [] 0 true (fun v h nx => v = .tup [.sl 3 (nts (noteL x0)), .sl 3 (nts (noteL x0))] ∧ h = [] ∧ nx = 0) := by
  have hxl : (x0.map triA).length = x0.length := List.length_map _
  refine ac_fn Try.func25 rfl rfl rfl rfl (fun w0 S0 r0 => ?_)
  refine aw_seq ?_
  refine aw_region ?_
  refine st_p (mva rfl) rfl ?_
  refine st_p (mva rfl) rfl ?_
  refine al_nil ?_
  refine nm ?_
  refine aw_seq ?_
  refine aw_region ?_
  refine st_p (mva rfl) rfl ?_
  refine al_nil ?_
  refine nm ?_
  refine aw_seq ?_
  refine aw_region ?_
  refine st_p (mva rfl) rfl ?_
  refine al_nil ?_
  refine nm ?_
  refine aw_seq ?_
  refine aw_seq ?_
  refine aw_region ?_
  refine st_p (mva rfl) rfl ?_
  refine al_nil ?_
  refine nm ?_
  refine aw_block ?_
  -- LOOP
  refine aw_cutB (⟨[(4, .sl 3 (nts (noteL x0))), (5, .sl 3 (nts (noteL x0)))], [], 0⟩) ?_ ?_
  · skip
    refine aw_loop (fun p : {p : Nat × List NT // p.1 ≤ x0.length ∧ p.2 = noteL (x0.take p.1) ∧ RisN p.2 ∧ OkN p.2 ∧ p.2.length ≤ p.1} => ⟨[(0, .sl 3 (x0.map triA)), (4, bV p.1.2), (5, .sl 3 (nts p.1.2)), (6, .int .i64 p.1.1)], [], 0⟩) (fun p => x0.length - p.1.1) ⟨(0, []), Nat.zero_le _, rfl, risN_nil, okN_nil, Nat.le_refl _⟩ ?_ ?_
    · exact (le_nilT 5 3 rfl).trans (le_to [] rfl rfl rfl rfl rfl ⟨rfl, rfl, rfl, rfl, trivial⟩ trivial)
    · rintro ⟨⟨i, l⟩, hi, hl, hr, ho, hn⟩
      dsimp only at hi hl hr ho hn ⊢
      by_cases hlt : i < x0.length
      · obtain ⟨⟨a, b, c⟩, hx⟩ : ∃ x, x0[i]? = some x := ⟨_, List.getElem?_eq_getElem hlt⟩
        obtain ⟨ga, gb, gc⟩ := g0 _ (List.mem_of_getElem? hx)
        have hxb : (x0.map triA)[((i : Nat) : Int).toNat]? = some (.agg [.int .u8 a, .int .u8 b, .int .u8 c]) := by rw [Int.toNat_natCast, List.getElem?_map, hx]; rfl
        have hst := noteL_step hx
        rw [← hl] at hst
        unfold noteS at hst
        dsimp only at hst ga gb gc
        obtain ⟨P, hP, hP9⟩ := u8_rem (m := 9) ga (by decide) (by decide)
        obtain ⟨Q, hQ, hQ3⟩ := u8_rem (m := 3) gb (by decide) (by decide)
        obtain ⟨B, hB, hB4⟩ := u8_rem (m := 4) gc (by decide) (by decide)
        have hP : IntKind.i64.wrap (a.tmod 9) = (P : Int) := hP
        have hQ : IntKind.i64.wrap (b.tmod 3) = (Q : Int) := hQ
        have hB : IntKind.i64.wrap (c.tmod 4) = (B : Int) := hB
        rw [hP, hQ, hB] at hst
        have hr2 := addN_rises (p := (P : Int)) (s := (Q : Int)) (b := (B : Int)) hr
        have ho2 := addN_ok (p := (P : Int)) (s := (Q : Int)) (b := (B : Int)) ho
        have hn2 := addN_len l (P : Int) (Q : Int) (B : Int)
        have href : AC Try.prog 71 [.sl 3 (nts l), .int .i64 (IntKind.i64.wrap (a.tmod 9)), .int .i64 (IntKind.i64.wrap (b.tmod 3)), .int .i64 (IntKind.i64.wrap (c.tmod 4))] [] 0 false (fun v h nx => v = .own 0 0 (addN l (P : Int) (Q : Int) (B : Int)).length ∧ h = [(0, .cells 3 (nts (addN l (P : Int) (Q : Int) (B : Int))))] ∧ nx = 1) := by rw [hP, hQ, hB]; exact ref_AddNote l _ _ _ (by omega) hr
        by_cases hne : l = []
        · subst hne
          rw [show bV [] = AV.nils from rfl]
          by_cases hb12 : (B : Int) ≠ 1 ∧ (B : Int) ≠ 2
          · have hadd : AC Try.prog 35 [.nils, .int .i64 (IntKind.i64.wrap (a.tmod 9)), .int .i64 (IntKind.i64.wrap (b.tmod 3)), .int .i64 (IntKind.i64.wrap (c.tmod 4))] [] 0 false (fun v h nx => v = .nils ∧ h = [] ∧ nx = 0) := by rw [hP, hQ, hB]; exact bits_Add0_no _ _ _ hb12
            have em : addN [] (P : Int) (Q : Int) (B : Int) = [] := by rw [addN_nil, if_pos hb12]
            rw [em] at hst hr2 ho2 href
            refine aw_seq ?_
            refine aw_seq ?_
            refine aw_region ?_
            refine st_p (mv rfl) rfl ?_
            refine st_p (mv rfl) rfl ?_
            refine st_p (op_len Try.underlying43 rfl) rfl ?_
            refine st_p (OpP.conv (op_lt rfl rfl) (yes (by first | assumption | omega))) rfl ?_
            refine al_nil ?_
            refine nm ?_
            -- IF t10
            refine aw_yes (rfl) ?_
            refine aw_skip ?_
            refine nm ?_
            refine aw_seq ?_
            refine aw_block ?_
            refine aw_seq ?_
            refine dr_go ?_
            refine dr_f 0 0 [4] rfl (fun H => mv rfl) ?_
            refine dr_f 0 0 [0] rfl (fun H => mv rfl) ?_
            refine dr_f 0 0 [6] rfl (fun H => mv rfl) ?_
            refine dr_q 0 0 [14, 15] rfl (op_indexAddrL Try.underlying43 z61 rfl rfl (by omega) (by first | assumption | rfl)) ?_
            refine dr_q 0 0 [16] rfl (op_indexAddrAL Try.underlying61 z5 rfl rfl (by omega) (by omega)) ?_
            refine dr_q 0 0 [17] rfl (op_load1L Try.underlying5 rfl rfl rfl) ?_
            refine dr_f 0 0 [18] rfl (fun H => op_rem rfl rfl (by omega)) ?_
            refine dr_f 0 0 [19] rfl (fun H => op_conv (by rw [Try.underlying5]; rfl) Try.underlying3 rfl) ?_
            refine dr_f 0 0 [0] rfl (fun H => mv rfl) ?_
            refine dr_f 0 0 [6] rfl (fun H => mv rfl) ?_
            refine dr_q 0 0 [21, 22] rfl (op_indexAddrL Try.underlying43 z61 rfl rfl (by omega) (by first | assumption | rfl)) ?_
            refine dr_q 0 0 [23] rfl (op_indexAddrAL Try.underlying61 z5 rfl rfl (by omega) (by omega)) ?_
            refine dr_q 0 0 [24] rfl (op_load1L Try.underlying5 rfl rfl rfl) ?_
            refine dr_f 0 0 [25] rfl (fun H => op_rem rfl rfl (by omega)) ?_
            refine dr_f 0 0 [26] rfl (fun H => op_conv (by rw [Try.underlying5]; rfl) Try.underlying3 rfl) ?_
            refine dr_f 0 0 [0] rfl (fun H => mv rfl) ?_
            refine dr_f 0 0 [6] rfl (fun H => mv rfl) ?_
            refine dr_q 0 0 [28, 29] rfl (op_indexAddrL Try.underlying43 z61 rfl rfl (by omega) (by first | assumption | rfl)) ?_
            refine dr_q 0 0 [30] rfl (op_indexAddrAL Try.underlying61 z5 rfl rfl (by omega) (by omega)) ?_
            refine dr_q 0 0 [31] rfl (op_load1L Try.underlying5 rfl rfl rfl) ?_
            refine dr_f 0 0 [32] rfl (fun H => op_rem rfl rfl (by omega)) ?_
            refine dr_f 0 0 [33] rfl (fun H => op_conv (by rw [Try.underlying5]; rfl) Try.underlying3 rfl) ?_
            -- STOP: call diwan/bits.Add(t13, t20, t27, t34) -> 35
            refine dr_fq 0 0 [13, 20, 27, 34] rfl (fun H => op_callq (hadd) Try.func35 ⟨rfl, rfl⟩ rfl rfl (fun nx => (.cons (.same (by rfl)) (.cons (.same (by rfl)) (.cons (.same (by rfl)) (.cons (.same (by rfl)) .nil))))) (by rintro _ _ _ ⟨rfl, rfl, rfl⟩; exact .same rfl)) ?_
            refine dr_f 0 0 [35] rfl (fun H => mva rfl) ?_
            refine dr_end [] (by kernel_rfl) (by kernel_rfl) (by kernel_rfl) (by kernel_rfl) trivial ?_
            refine nm ?_
            refine dr_go ?_
            refine dr_f 0 0 [5] rfl (fun H => mv rfl) ?_
            refine dr_f 0 0 [0] rfl (fun H => mv rfl) ?_
            refine dr_f 0 0 [6] rfl (fun H => mv rfl) ?_
            refine dr_q 0 0 [37, 38] rfl (op_indexAddrL Try.underlying43 z61 rfl rfl (by omega) (by first | assumption | rfl)) ?_
            refine dr_q 0 0 [39] rfl (op_indexAddrAL Try.underlying61 z5 rfl rfl (by omega) (by omega)) ?_
            refine dr_q 0 0 [40] rfl (op_load1L Try.underlying5 rfl rfl rfl) ?_
            refine dr_f 0 0 [41] rfl (fun H => op_rem rfl rfl (by omega)) ?_
            refine dr_f 0 0 [42] rfl (fun H => op_conv (by rw [Try.underlying5]; rfl) Try.underlying3 rfl) ?_
            refine dr_f 0 0 [0] rfl (fun H => mv rfl) ?_
            refine dr_f 0 0 [6] rfl (fun H => mv rfl) ?_
            refine dr_q 0 0 [44, 45] rfl (op_indexAddrL Try.underlying43 z61 rfl rfl (by omega) (by first | assumption | rfl)) ?_
            refine dr_q 0 0 [46] rfl (op_indexAddrAL Try.underlying61 z5 rfl rfl (by omega) (by omega)) ?_
            refine dr_q 0 0 [47] rfl (op_load1L Try.underlying5 rfl rfl rfl) ?_
            refine dr_f 0 0 [48] rfl (fun H => op_rem rfl rfl (by omega)) ?_
            refine dr_f 0 0 [49] rfl (fun H => op_conv (by rw [Try.underlying5]; rfl) Try.underlying3 rfl) ?_
            refine dr_f 0 0 [0] rfl (fun H => mv rfl) ?_
            refine dr_f 0 0 [6] rfl (fun H => mv rfl) ?_
            refine dr_q 0 0 [51, 52] rfl (op_indexAddrL Try.underlying43 z61 rfl rfl (by omega) (by first | assumption | rfl)) ?_
            refine dr_q 0 0 [53] rfl (op_indexAddrAL Try.underlying61 z5 rfl rfl (by omega) (by omega)) ?_
            refine dr_q 0 0 [54] rfl (op_load1L Try.underlying5 rfl rfl rfl) ?_
            refine dr_f 0 0 [55] rfl (fun H => op_rem rfl rfl (by omega)) ?_
            refine dr_f 0 0 [56] rfl (fun H => op_conv (by rw [Try.underlying5]; rfl) Try.underlying3 rfl) ?_
            -- STOP: call diwan/diwanref13.AddNote(t36, t43, t50, t57) -> 58
            refine dr_fq 0 0 [36, 43, 50, 57] rfl (fun H => op_callq (href) Try.func71 ⟨rfl, rfl⟩ rfl rfl (fun nx => (.cons (.same (by rfl)) (.cons (.same (by rfl)) (.cons (.same (by rfl)) (.cons (.same (by rfl)) .nil))))) (by rintro _ _ _ ⟨rfl, rfl, rfl⟩; exact (.whole rfl rfl rfl))) ?_
            refine dr_f 0 0 [58] rfl (fun H => mva rfl) ?_
            refine dr_end [] (by kernel_rfl) (by kernel_rfl) (by kernel_rfl) (by kernel_rfl) trivial ?_
            refine nmb ?_
            refine nm ?_
            refine aw_region ?_
            refine st_p (mv rfl) rfl ?_
            refine st_p (op_addi rfl rfl (by omega)) rfl ?_
            refine st_p (mva rfl) rfl ?_
            refine al_nil ?_
            refine nm ?_
            exact ⟨⟨(i + 1, []), by dsimp only; exact ⟨hlt, hst.symm, hr2, ho2, Nat.zero_le _⟩⟩, by dsimp only; omega, le_to [] rfl rfl rfl rfl rfl ⟨rfl, rfl, rfl, rfl, trivial⟩ trivial⟩
          · have em : addN [] (P : Int) (Q : Int) (B : Int) = [⟨(P : Int), (Q : Int), (B : Int)⟩] := by rw [addN_nil, if_neg hb12]
            have hadd : AC Try.prog 35 [.nils, .int .i64 (IntKind.i64.wrap (a.tmod 9)), .int .i64 (IntKind.i64.wrap (b.tmod 3)), .int .i64 (IntKind.i64.wrap (c.tmod 4))] [] 0 false (fun v h nx => v = .own 0 0 1 ∧ h = [(0, .cells 3 (nts [⟨(P : Int), (Q : Int), (B : Int)⟩]))] ∧ nx = 1) := by rw [hP, hQ, hB]; exact bits_Add0 _ _ _ hb12
            have hm : ([⟨(P : Int), (Q : Int), (B : Int)⟩] : List NT) ≠ [] := by simp
            rw [em] at hst hr2 ho2 href
            have hml := nts_len [⟨(P : Int), (Q : Int), (B : Int)⟩]
            have hmp := nts_plain [⟨(P : Int), (Q : Int), (B : Int)⟩]
            refine aw_seq ?_
            refine aw_seq ?_
            refine aw_region ?_
            refine st_p (mv rfl) rfl ?_
            refine st_p (mv rfl) rfl ?_
            refine st_p (op_len Try.underlying43 rfl) rfl ?_
            refine st_p (OpP.conv (op_lt rfl rfl) (yes (by first | assumption | omega))) rfl ?_
            refine al_nil ?_
            refine nm ?_
            -- IF t10
            refine aw_yes (rfl) ?_
            refine aw_skip ?_
            refine nm ?_
            refine aw_seq ?_
            refine aw_block ?_
            refine aw_seq ?_
            refine dr_go ?_
            refine dr_f 0 0 [4] rfl (fun H => mv rfl) ?_
            refine dr_f 0 0 [0] rfl (fun H => mv rfl) ?_
            refine dr_f 0 0 [6] rfl (fun H => mv rfl) ?_
            refine dr_q 0 0 [14, 15] rfl (op_indexAddrL Try.underlying43 z61 rfl rfl (by omega) (by first | assumption | rfl)) ?_
            refine dr_q 0 0 [16] rfl (op_indexAddrAL Try.underlying61 z5 rfl rfl (by omega) (by omega)) ?_
            refine dr_q 0 0 [17] rfl (op_load1L Try.underlying5 rfl rfl rfl) ?_
            refine dr_f 0 0 [18] rfl (fun H => op_rem rfl rfl (by omega)) ?_
            refine dr_f 0 0 [19] rfl (fun H => op_conv (by rw [Try.underlying5]; rfl) Try.underlying3 rfl) ?_
            refine dr_f 0 0 [0] rfl (fun H => mv rfl) ?_
            refine dr_f 0 0 [6] rfl (fun H => mv rfl) ?_
            refine dr_q 0 0 [21, 22] rfl (op_indexAddrL Try.underlying43 z61 rfl rfl (by omega) (by first | assumption | rfl)) ?_
            refine dr_q 0 0 [23] rfl (op_indexAddrAL Try.underlying61 z5 rfl rfl (by omega) (by omega)) ?_
            refine dr_q 0 0 [24] rfl (op_load1L Try.underlying5 rfl rfl rfl) ?_
            refine dr_f 0 0 [25] rfl (fun H => op_rem rfl rfl (by omega)) ?_
            refine dr_f 0 0 [26] rfl (fun H => op_conv (by rw [Try.underlying5]; rfl) Try.underlying3 rfl) ?_
            refine dr_f 0 0 [0] rfl (fun H => mv rfl) ?_
            refine dr_f 0 0 [6] rfl (fun H => mv rfl) ?_
            refine dr_q 0 0 [28, 29] rfl (op_indexAddrL Try.underlying43 z61 rfl rfl (by omega) (by first | assumption | rfl)) ?_
            refine dr_q 0 0 [30] rfl (op_indexAddrAL Try.underlying61 z5 rfl rfl (by omega) (by omega)) ?_
            refine dr_q 0 0 [31] rfl (op_load1L Try.underlying5 rfl rfl rfl) ?_
            refine dr_f 0 0 [32] rfl (fun H => op_rem rfl rfl (by omega)) ?_
            refine dr_f 0 0 [33] rfl (fun H => op_conv (by rw [Try.underlying5]; rfl) Try.underlying3 rfl) ?_
            -- STOP: call diwan/bits.Add(t13, t20, t27, t34) -> 35
            refine dr_fq 0 0 [13, 20, 27, 34] rfl (fun H => op_callq (hadd) Try.func35 ⟨rfl, rfl⟩ rfl rfl (fun nx => (.cons (.same (by rfl)) (.cons (.same (by rfl)) (.cons (.same (by rfl)) (.cons (.same (by rfl)) .nil))))) (by rintro _ _ _ ⟨rfl, rfl, rfl⟩; exact (.whole rfl rfl hmp))) ?_
            refine dr_f 0 0 [35] rfl (fun H => mva rfl) ?_
            refine dr_end [] (by kernel_rfl) (by kernel_rfl) (by kernel_rfl) (by kernel_rfl) trivial ?_
            refine nm ?_
            refine dr_go ?_
            refine dr_f 0 0 [5] rfl (fun H => mv rfl) ?_
            refine dr_f 0 0 [0] rfl (fun H => mv rfl) ?_
            refine dr_f 0 0 [6] rfl (fun H => mv rfl) ?_
            refine dr_q 0 0 [37, 38] rfl (op_indexAddrL Try.underlying43 z61 rfl rfl (by omega) (by first | assumption | rfl)) ?_
            refine dr_q 0 0 [39] rfl (op_indexAddrAL Try.underlying61 z5 rfl rfl (by omega) (by omega)) ?_
            refine dr_q 0 0 [40] rfl (op_load1L Try.underlying5 rfl rfl rfl) ?_
            refine dr_f 0 0 [41] rfl (fun H => op_rem rfl rfl (by omega)) ?_
            refine dr_f 0 0 [42] rfl (fun H => op_conv (by rw [Try.underlying5]; rfl) Try.underlying3 rfl) ?_
            refine dr_f 0 0 [0] rfl (fun H => mv rfl) ?_
            refine dr_f 0 0 [6] rfl (fun H => mv rfl) ?_
            refine dr_q 0 0 [44, 45] rfl (op_indexAddrL Try.underlying43 z61 rfl rfl (by omega) (by first | assumption | rfl)) ?_
            refine dr_q 0 0 [46] rfl (op_indexAddrAL Try.underlying61 z5 rfl rfl (by omega) (by omega)) ?_
            refine dr_q 0 0 [47] rfl (op_load1L Try.underlying5 rfl rfl rfl) ?_
            refine dr_f 0 0 [48] rfl (fun H => op_rem rfl rfl (by omega)) ?_
            refine dr_f 0 0 [49] rfl (fun H => op_conv (by rw [Try.underlying5]; rfl) Try.underlying3 rfl) ?_
            refine dr_f 0 0 [0] rfl (fun H => mv rfl) ?_
            refine dr_f 0 0 [6] rfl (fun H => mv rfl) ?_
            refine dr_q 0 0 [51, 52] rfl (op_indexAddrL Try.underlying43 z61 rfl rfl (by omega) (by first | assumption | rfl)) ?_
            refine dr_q 0 0 [53] rfl (op_indexAddrAL Try.underlying61 z5 rfl rfl (by omega) (by omega)) ?_
            refine dr_q 0 0 [54] rfl (op_load1L Try.underlying5 rfl rfl rfl) ?_
            refine dr_f 0 0 [55] rfl (fun H => op_rem rfl rfl (by omega)) ?_
            refine dr_f 0 0 [56] rfl (fun H => op_conv (by rw [Try.underlying5]; rfl) Try.underlying3 rfl) ?_
            -- STOP: call diwan/diwanref13.AddNote(t36, t43, t50, t57) -> 58
            refine dr_fq 0 0 [36, 43, 50, 57] rfl (fun H => op_callq (href) Try.func71 ⟨rfl, rfl⟩ rfl rfl (fun nx => (.cons (.same (by rfl)) (.cons (.same (by rfl)) (.cons (.same (by rfl)) (.cons (.same (by rfl)) .nil))))) (by rintro _ _ _ ⟨rfl, rfl, rfl⟩; exact (.whole rfl hml.symm hmp))) ?_
            refine dr_f 0 0 [58] rfl (fun H => mva rfl) ?_
            refine dr_end [] (by kernel_rfl) (by kernel_rfl) (by kernel_rfl) (by kernel_rfl) trivial ?_
            refine nmb ?_
            refine nm ?_
            refine aw_region ?_
            refine st_p (mv rfl) rfl ?_
            refine st_p (op_addi rfl rfl (by omega)) rfl ?_
            refine st_p (mva rfl) rfl ?_
            refine al_nil ?_
            refine nm ?_
            refine ⟨⟨(i + 1, [⟨(P : Int), (Q : Int), (B : Int)⟩]), by dsimp only; exact ⟨hlt, hst.symm, hr2, ho2, by first | omega | simp⟩⟩, by dsimp only; omega, ?_⟩
            dsimp only
            rw [bV_ne hm]
            exact le_to [] rfl rfl rfl rfl rfl ⟨rfl, rfl, rfl, rfl, trivial⟩ trivial
        · have h0l : 0 < l.length := List.length_pos_iff.2 hne
          have hm := addN_ne (p := (P : Int)) (s := (Q : Int)) (b := (B : Int)) hne
          have hadd : AC Try.prog 35 [.sl 3 (nts l), .int .i64 (IntKind.i64.wrap (a.tmod 9)), .int .i64 (IntKind.i64.wrap (b.tmod 3)), .int .i64 (IntKind.i64.wrap (c.tmod 4))] [] 0 false (fun v h nx => v = .own 0 0 (addN l (P : Int) (Q : Int) (B : Int)).length ∧ h = [(0, .cells 3 (nts (addN l (P : Int) (Q : Int) (B : Int))))] ∧ nx = 1) := by rw [hP, hQ, hB]; exact bits_Add l _ _ _ (by omega) h0l hr
          rw [bV_ne hne]
          have hnl := nts_len l
          generalize addN l (P : Int) (Q : Int) (B : Int) = m at hadd href hst hr2 ho2 hn2 hm
          have hml := nts_len m
          have hmp := nts_plain m
          refine aw_seq ?_
          refine aw_seq ?_
          refine aw_region ?_
          refine st_p (mv rfl) rfl ?_
          refine st_p (mv rfl) rfl ?_
          refine st_p (op_len Try.underlying43 rfl) rfl ?_
          refine st_p (OpP.conv (op_lt rfl rfl) (yes (by first | assumption | omega))) rfl ?_
          refine al_nil ?_
          refine nm ?_
          -- IF t10
          refine aw_yes (rfl) ?_
          refine aw_skip ?_
          refine nm ?_
          refine aw_seq ?_
          refine aw_block ?_
          refine aw_seq ?_
          refine dr_go ?_
          refine dr_f 0 0 [4] rfl (fun H => mv rfl) ?_
          refine dr_f 0 0 [0] rfl (fun H => mv rfl) ?_
          refine dr_f 0 0 [6] rfl (fun H => mv rfl) ?_
          refine dr_q 0 0 [14, 15] rfl (op_indexAddrL Try.underlying43 z61 rfl rfl (by omega) (by first | assumption | rfl)) ?_
          refine dr_q 0 0 [16] rfl (op_indexAddrAL Try.underlying61 z5 rfl rfl (by omega) (by omega)) ?_
          refine dr_q 0 0 [17] rfl (op_load1L Try.underlying5 rfl rfl rfl) ?_
          refine dr_f 0 0 [18] rfl (fun H => op_rem rfl rfl (by omega)) ?_
          refine dr_f 0 0 [19] rfl (fun H => op_conv (by rw [Try.underlying5]; rfl) Try.underlying3 rfl) ?_
          refine dr_f 0 0 [0] rfl (fun H => mv rfl) ?_
          refine dr_f 0 0 [6] rfl (fun H => mv rfl) ?_
          refine dr_q 0 0 [21, 22] rfl (op_indexAddrL Try.underlying43 z61 rfl rfl (by omega) (by first | assumption | rfl)) ?_
          refine dr_q 0 0 [23] rfl (op_indexAddrAL Try.underlying61 z5 rfl rfl (by omega) (by omega)) ?_
          refine dr_q 0 0 [24] rfl (op_load1L Try.underlying5 rfl rfl rfl) ?_
          refine dr_f 0 0 [25] rfl (fun H => op_rem rfl rfl (by omega)) ?_
          refine dr_f 0 0 [26] rfl (fun H => op_conv (by rw [Try.underlying5]; rfl) Try.underlying3 rfl) ?_
          refine dr_f 0 0 [0] rfl (fun H => mv rfl) ?_
          refine dr_f 0 0 [6] rfl (fun H => mv rfl) ?_
          refine dr_q 0 0 [28, 29] rfl (op_indexAddrL Try.underlying43 z61 rfl rfl (by omega) (by first | assumption | rfl)) ?_
          refine dr_q 0 0 [30] rfl (op_indexAddrAL Try.underlying61 z5 rfl rfl (by omega) (by omega)) ?_
          refine dr_q 0 0 [31] rfl (op_load1L Try.underlying5 rfl rfl rfl) ?_
          refine dr_f 0 0 [32] rfl (fun H => op_rem rfl rfl (by omega)) ?_
          refine dr_f 0 0 [33] rfl (fun H => op_conv (by rw [Try.underlying5]; rfl) Try.underlying3 rfl) ?_
          -- STOP: call diwan/bits.Add(t13, t20, t27, t34) -> 35
          refine dr_fq 0 0 [13, 20, 27, 34] rfl (fun H => op_callq (hadd) Try.func35 ⟨rfl, rfl⟩ rfl rfl (fun nx => (.cons (.same (by rfl)) (.cons (.same (by rfl)) (.cons (.same (by rfl)) (.cons (.same (by rfl)) .nil))))) (by rintro _ _ _ ⟨rfl, rfl, rfl⟩; exact (.whole rfl hml.symm hmp))) ?_
          refine dr_f 0 0 [35] rfl (fun H => mva rfl) ?_
          refine dr_end [] (by kernel_rfl) (by kernel_rfl) (by kernel_rfl) (by kernel_rfl) trivial ?_
          refine nm ?_
          refine dr_go ?_
          refine dr_f 0 0 [5] rfl (fun H => mv rfl) ?_
          refine dr_f 0 0 [0] rfl (fun H => mv rfl) ?_
          refine dr_f 0 0 [6] rfl (fun H => mv rfl) ?_
          refine dr_q 0 0 [37, 38] rfl (op_indexAddrL Try.underlying43 z61 rfl rfl (by omega) (by first | assumption | rfl)) ?_
          refine dr_q 0 0 [39] rfl (op_indexAddrAL Try.underlying61 z5 rfl rfl (by omega) (by omega)) ?_
          refine dr_q 0 0 [40] rfl (op_load1L Try.underlying5 rfl rfl rfl) ?_
          refine dr_f 0 0 [41] rfl (fun H => op_rem rfl rfl (by omega)) ?_
          refine dr_f 0 0 [42] rfl (fun H => op_conv (by rw [Try.underlying5]; rfl) Try.underlying3 rfl) ?_
          refine dr_f 0 0 [0] rfl (fun H => mv rfl) ?_
          refine dr_f 0 0 [6] rfl (fun H => mv rfl) ?_
          refine dr_q 0 0 [44, 45] rfl (op_indexAddrL Try.underlying43 z61 rfl rfl (by omega) (by first | assumption | rfl)) ?_
          refine dr_q 0 0 [46] rfl (op_indexAddrAL Try.underlying61 z5 rfl rfl (by omega) (by omega)) ?_
          refine dr_q 0 0 [47] rfl (op_load1L Try.underlying5 rfl rfl rfl) ?_
          refine dr_f 0 0 [48] rfl (fun H => op_rem rfl rfl (by omega)) ?_
          refine dr_f 0 0 [49] rfl (fun H => op_conv (by rw [Try.underlying5]; rfl) Try.underlying3 rfl) ?_
          refine dr_f 0 0 [0] rfl (fun H => mv rfl) ?_
          refine dr_f 0 0 [6] rfl (fun H => mv rfl) ?_
          refine dr_q 0 0 [51, 52] rfl (op_indexAddrL Try.underlying43 z61 rfl rfl (by omega) (by first | assumption | rfl)) ?_
          refine dr_q 0 0 [53] rfl (op_indexAddrAL Try.underlying61 z5 rfl rfl (by omega) (by omega)) ?_
          refine dr_q 0 0 [54] rfl (op_load1L Try.underlying5 rfl rfl rfl) ?_
          refine dr_f 0 0 [55] rfl (fun H => op_rem rfl rfl (by omega)) ?_
          refine dr_f 0 0 [56] rfl (fun H => op_conv (by rw [Try.underlying5]; rfl) Try.underlying3 rfl) ?_
          -- STOP: call diwan/diwanref13.AddNote(t36, t43, t50, t57) -> 58
          refine dr_fq 0 0 [36, 43, 50, 57] rfl (fun H => op_callq (href) Try.func71 ⟨rfl, rfl⟩ rfl rfl (fun nx => (.cons (.same (by rfl)) (.cons (.same (by rfl)) (.cons (.same (by rfl)) (.cons (.same (by rfl)) .nil))))) (by rintro _ _ _ ⟨rfl, rfl, rfl⟩; exact (.whole rfl hml.symm hmp))) ?_
          refine dr_f 0 0 [58] rfl (fun H => mva rfl) ?_
          refine dr_end [] (by kernel_rfl) (by kernel_rfl) (by kernel_rfl) (by kernel_rfl) trivial ?_
          refine nmb ?_
          refine nm ?_
          refine aw_region ?_
          refine st_p (mv rfl) rfl ?_
          refine st_p (op_addi rfl rfl (by omega)) rfl ?_
          refine st_p (mva rfl) rfl ?_
          refine al_nil ?_
          refine nm ?_
          refine ⟨⟨(i + 1, m), by dsimp only; exact ⟨hlt, hst.symm, hr2, ho2, by first | omega | simp⟩⟩, by dsimp only; omega, ?_⟩
          dsimp only
          rw [bV_ne hm]
          exact le_to [] rfl rfl rfl rfl rfl ⟨rfl, rfl, rfl, rfl, trivial⟩ trivial
      · have hin : i = x0.length := by omega
        subst hin
        rw [List.take_length] at hl
        rw [← hl]
        by_cases hne : l = []
        · subst hne
          rw [show bV [] = AV.nils from rfl]
          refine aw_seq ?_
          refine aw_seq ?_
          refine aw_region ?_
          refine st_p (mv rfl) rfl ?_
          refine st_p (mv rfl) rfl ?_
          refine st_p (op_len Try.underlying43 rfl) rfl ?_
          refine st_p (OpP.conv (op_lt rfl rfl) (no (by first | assumption | omega))) rfl ?_
          refine al_nil ?_
          refine nm ?_
          -- IF t10
          refine aw_no (rfl) ?_
          refine aw_exit ?_
          refine xs ?_
          refine xs ?_
          refine xb ?_
          refine nm ?_
          exact (le_nilT 4 3 rfl).trans (le_to [] rfl rfl rfl rfl rfl ⟨rfl, rfl, trivial⟩ trivial)
        · rw [bV_ne hne]
          refine aw_seq ?_
          refine aw_seq ?_
          refine aw_region ?_
          refine st_p (mv rfl) rfl ?_
          refine st_p (mv rfl) rfl ?_
          refine st_p (op_len Try.underlying43 rfl) rfl ?_
          refine st_p (OpP.conv (op_lt rfl rfl) (no (by first | assumption | omega))) rfl ?_
          refine al_nil ?_
          refine nm ?_
          -- IF t10
          refine aw_no (rfl) ?_
          refine aw_exit ?_
          refine xs ?_
          refine xs ?_
          refine xb ?_
          refine nm ?_
          exact le_to [] rfl rfl rfl rfl rfl ⟨rfl, rfl, trivial⟩ trivial
  · generalize noteL x0 = L
    refine aw_seq ?_
    refine aw_region ?_
    refine st_p (mv rfl) rfl ?_
    refine st_p (mv rfl) rfl ?_
    refine st_p (mva rfl) rfl ?_
    refine st_p (mva rfl) rfl ?_
    refine al_nil ?_
    refine nm ?_
    refine aw_ret ?_
    exact ret_a ⟨[(2, .sl 3 (nts L)), (3, .sl 3 (nts L))], [], 0⟩ (le_to [] rfl rfl rfl rfl rfl ⟨rfl, rfl, trivial⟩ trivial) (res2 Try.results25) (.inl rfl) ⟨rfl, rfl, rfl⟩

end Go.Proofs.Ytpggknkhldecaaa.Abs
end
section
/-
  The machine, with calls of slices.Insert that are told: what is put in, whatever the room. It holds of any program in which such calls come to what they should.
-/
namespace Go.Proofs.Ytpggknkhldecaaa.Abs

section
variable {P : Program}

/-- A call of slices.Insert comes to what it should. -/
def InsC (P : Program) (f sz : Nat) : Prop := (∃ fn, P.funcs[f]? = some fn ∧ (fn.name == "runtime.NumGoroutine") = false ∧ fn.body.isNone = false) ∧
  ∀ (l : List AV) (x : AV) (i K : Nat) (al : Bool), i ≤ l.length → l.length ≤ 100000 → (∀ z ∈ l, z.cells.length = sz) → (∀ z ∈ [x], z.cells.length = sz) →
    (∀ σ : Nat → Nat, (∀ b, b < K + 2 → σ b = b) → (insA l i x).map (AV.ren σ) = insA l i x) → (al = true ∨ (Blk.cells sz (insA l i x)).nosl = true) →
    AC P f [.own 0 0 l.length, .int .i64 i, .own 1 0 1] [(0, .cells sz l), (1, .cells sz [x])] (K + 2) al
      (fun v h nx => v = .own (K + 2) 0 (l.length + 1) ∧ h = [(K + 2, .cells sz (insA l i x))] ∧ nx = K + 3)

theorem nm_ren {m : Nat} {σ : Nat → Nat} (hσ : ∀ b, b < m → σ b = b) (x : AV) : ∀ acc, nmA m x acc = [] → acc = [] ∧ x.ren σ = x := by
  have one : ∀ (b : Nat) (acc : List Nat), (match Nat.ble m b with | true => b :: acc | false => acc) = [] → acc = [] ∧ σ b = b := fun b acc h => by
    split at h
    · cases h
    · rename_i hb
      refine ⟨h, hσ b ?_⟩
      have : ¬ m ≤ b := fun hle => by rw [Nat.ble_eq_true_of_le hle] at hb; cases hb
      omega
  induction x using AV.rec (motive_2 := fun xs => ∀ acc, nmL m xs acc = [] → acc = [] ∧ rens σ xs = xs) with
  | ptr b i o => intro acc h; simp only [nmA] at h; obtain ⟨h1, h2⟩ := one b acc h; exact ⟨h1, by simp only [AV.ren, h2]⟩
  | own b i o => intro acc h; simp only [nmA] at h; obtain ⟨h1, h2⟩ := one b acc h; exact ⟨h1, by simp only [AV.ren, h2]⟩
  | omap b => intro acc h; simp only [nmA] at h; obtain ⟨h1, h2⟩ := one b acc h; exact ⟨h1, by simp only [AV.ren, h2]⟩
  | fn f xs ys ih1 ih2 => intro acc h; simp only [nmA] at h; obtain ⟨h1, h2⟩ := ih1 _ h; obtain ⟨h3, h4⟩ := ih2 _ h1; exact ⟨h3, by simp only [AV.ren, h2, h4]⟩
  | ifc t v ih => intro acc h; simp only [nmA] at h; obtain ⟨h1, h2⟩ := ih _ h; exact ⟨h1, by simp only [AV.ren, h2]⟩
  | agg xs ih => intro acc h; simp only [nmA] at h; obtain ⟨h1, h2⟩ := ih _ h; exact ⟨h1, by simp only [AV.ren, h2]⟩
  | tup xs ih => intro acc h; simp only [nmA] at h; obtain ⟨h1, h2⟩ := ih _ h; exact ⟨h1, by simp only [AV.ren, h2]⟩
  | nil => rename_i acc h; exact ⟨h, rfl⟩
  | cons x xs ih1 ih2 => rename_i acc h; simp only [nmL] at h; obtain ⟨h1, h2⟩ := ih2 _ h; obtain ⟨h3, h4⟩ := ih1 _ h1; exact ⟨h3, by simp only [rens, h2, h4]⟩
  | _ => intro acc h; exact ⟨h, rfl⟩

theorem nms_ren {m : Nat} {σ : Nat → Nat} (hσ : ∀ b, b < m → σ b = b) : ∀ (xs : List AV), nmL m xs [] = [] → xs.map (AV.ren σ) = xs := by
  have go : ∀ (xs : List AV) (acc : List Nat), nmL m xs acc = [] → acc = [] ∧ xs.map (AV.ren σ) = xs := by
    intro xs
    induction xs with
    | nil => intro acc h; exact ⟨h, rfl⟩
    | cons x xs ih =>
      intro acc h
      simp only [nmL] at h
      obtain ⟨h1, h2⟩ := ih _ h
      obtain ⟨h3, h4⟩ := nm_ren hσ x _ h1
      exact ⟨h3, by rw [List.map_cons, h2, h4]⟩
  exact fun xs h => (go xs [] h).2

theorem ren_nosl (σ : Nat → Nat) (x : AV) : (x.ren σ).nosl = x.nosl := by
  induction x using AV.rec (motive_2 := fun xs => nosls (rens σ xs) = nosls xs) with
  | fn f xs ys ih1 ih2 => simp only [AV.ren, AV.nosl, ih1, ih2]
  | ifc t v ih => simp only [AV.ren, AV.nosl, ih]
  | agg xs ih => simp only [AV.ren, AV.nosl, ih]
  | tup xs ih => simp only [AV.ren, AV.nosl, ih]
  | nil => rfl
  | cons x xs ih1 ih2 => simp only [rens, nosls, ih1, ih2]
  | _ => rfl

theorem insA_map (g : AV → AV) (l : List AV) (i : Nat) (x : AV) : (insA l i x).map g = insA (l.map g) i (g x) := by simp [insA, List.map_take, List.map_drop]
theorem argTm_oevs (args : List AV) : oevsS (argTm args) ((List.range args.length).map fun i => Operand.tmp i) = some args := by
  have go : ∀ (l : List AV) (k : Nat) (pre : List AV), args = pre ++ l → pre.length = k → oevsS (argTm args) ((List.range' k l.length).map fun i => Operand.tmp i) = some l := by
    intro l
    induction l with
    | nil => intro k pre _ _; rfl
    | cons x l ih =>
      intro k pre h1 h2
      have hk : tgetS (argTm args) k = some x := by
        have gen : ∀ (aa : List AV) (i j : Nat) (y : AV), aa[j]? = some y → tgetS (argTm aa i) (i + j) = some y := by
          intro aa
          induction aa with
          | nil => intro i j y hy; simp at hy
          | cons z aa ih2 =>
            intro i j y hy
            simp only [argTm, tgetS]
            cases j with
            | zero => simp only [List.getElem?_cons_zero, Option.some.injEq] at hy; subst hy; simp
            | succ j =>
              rw [if_neg (by omega), show i + (j + 1) = (i + 1) + j from by omega]
              exact ih2 (i + 1) j y (by simpa using hy)
        have := gen args 0 k x (by rw [h1, List.getElem?_append_right (by omega)]; simp [h2])
        simpa using this
      rw [List.length_cons, List.range'_succ, List.map_cons]
      simp only [oevsS, oevS]
      rw [hk, ih (k + 1) (pre ++ [x]) (by rw [h1]; simp) (by simp [h2])]
  have := go args 0 [] rfl rfl
  rwa [← List.range_eq_range'] at this

/-- How the names are called in the call: those of the two rows are its 0 and 1. -/
def insL (b b2 : Nat) : List (Nat × Nat) := [(0, b), (1, b2), (b, 0), (b2, 1)]
def insK (pl : Bool) (nx : Nat) : Nat := if pl then 0 else nx - 2
def insM (pl : Bool) (b b2 : Nat) : List (Nat × Nat) := if pl then [(0, b), (1, b2)] else insL b b2

def insOK (sz s s2 b n b2 nx : Nat) (i : Int) (h : Heap) (xs : List AV) (x : AV) (pl : Bool) (xs' : List AV) (x' : AV) : Bool :=
  Nat.beq s sz && Nat.beq s2 sz && Nat.beq n xs.length && Nat.blt b nx && Nat.blt b2 nx && !(Nat.beq b b2) && decide (0 ≤ i) && decide (i.toNat < n) && Nat.ble n 100000 && Nat.ble (insK pl nx + 2) nx
    && (insM pl b b2).all (fun p => p.1 < insK pl nx + 2)
    && xs'.all (fun z => Nat.beq z.cells.length sz) && Nat.beq x'.cells.length sz
    && avsEq (xs'.map (AV.ren (swp (insM pl b b2) (insK pl nx + 2) nx))) xs && avEq (x'.ren (swp (insM pl b b2) (insK pl nx + 2) nx)) x
    && (nmL (insK pl nx + 2) (insA xs' i.toNat x') []).isEmpty && h.all (fun p => Nat.blt p.1 nx)

def insCF (f sz : Nat) (cf : CF) : CF := fun g args h nx =>
  match Nat.beq g f with
  | false => cf g args h nx
  | true => match args with
    | [.own b 0 n, .int .i64 i, .own b2 0 1] => match hget h b, hget h b2 with
      | some (.cells s xs), some (.cells s2 [x]) =>
        forceL (xs.map (AV.ren (swp (insL b b2) nx nx))) fun xs' =>
          if insOK sz s s2 b n b2 nx i h xs x (plains (x :: xs)) xs' (x.ren (swp (insL b b2) nx nx)) then
            some (.own (insK (plains (x :: xs)) nx + 2 + nx) 0 (n + 1), rest h [b, b2] ++ [(insK (plains (x :: xs)) nx + 2 + nx, .cells sz (insA xs i.toNat x))], nx + (insK (plains (x :: xs)) nx + 3))
          else cf g args h nx
      | _, _ => cf g args h nx
    | _ => cf g args h nx

theorem insCF_ok {f sz : Nat} (hI : InsC P f sz) {cf : CF} (hcf : CFok P cf) : CFok P (insCF f sz cf) := by
  intro g args h nx r h' nx' he
  unfold insCF at he
  split at he
  · exact hcf _ _ _ _ _ _ _ he
  rename_i hg
  obtain rfl := Nat.eq_of_beq_eq_true hg
  split at he
  · rename_i b n i b2
    split at he
    · rename_i s xs s2 x q1 q2
      rw [forceL_eq] at he
      split at he
      · rename_i hok
        generalize plains (x :: xs) = pl at he hok
        generalize xs.map (AV.ren (swp (insL b b2) nx nx)) = xs' at he hok
        generalize x.ren (swp (insL b b2) nx nx) = x' at he hok
        simp only [Option.some.injEq, Prod.mk.injEq] at he
        obtain ⟨rfl, rfl, rfl⟩ := he
        unfold insOK at hok
        simp only [Bool.and_eq_true, Bool.not_eq_true', decide_eq_true_eq] at hok
        obtain ⟨⟨⟨⟨⟨⟨⟨⟨⟨⟨⟨⟨⟨⟨⟨⟨c1, c2⟩, c3⟩, c4⟩, c5⟩, c6⟩, c7⟩, c8⟩, c9⟩, c10⟩, c11⟩, c12⟩, c13⟩, c14⟩, c15⟩, c16⟩, c17⟩ := hok
        obtain rfl := Nat.eq_of_beq_eq_true c1
        obtain rfl := Nat.eq_of_beq_eq_true c2
        obtain rfl := Nat.eq_of_beq_eq_true c3
        have e14 := avsEq_ok _ _ c14
        have e15 := avEq_ok _ _ c15
        have hb : b < nx := by simpa using c4
        have hb2 : b2 < nx := by simpa using c5
        have hne : b ≠ b2 := fun e => by subst e; simp at c6
        have hK : insK pl nx + 2 ≤ nx := Nat.le_of_ble_eq_true c10
        have hlen : xs'.length = xs.length := by rw [← e14, List.length_map]
        obtain ⟨k, rfl⟩ : ∃ k : Nat, i = k := ⟨i.toNat, by omega⟩
        rw [Int.toNat_natCast] at *
        obtain ⟨⟨fn, f1, f2, f3⟩, hac⟩ := hI
        refine ⟨⟨fn, f1, f2, f3⟩, fun al hal => ?_⟩
        have hdom : h.all (fun p => p.1 < nx) = true := by
          rw [List.all_eq_true]
          intro y hy
          have := List.all_eq_true.1 c17 y hy
          simpa using this
        generalize hKK : insK pl nx = K at *
        generalize hM : insM pl b b2 = M at *
        have s0 : swp M (K + 2) nx 0 = b := by rw [← hM]; unfold insM insL; split <;> simp [swp]
        have s1 : swp M (K + 2) nx 1 = b2 := by rw [← hM]; unfold insM insL; split <;> simp [swp]
        have s2' : swp M (K + 2) nx (K + 2) = K + 2 + nx := by
          have : ∀ (M : List (Nat × Nat)), M.all (fun p => p.1 < K + 2) = true → swp M (K + 2) nx (K + 2) = K + 2 + nx := by
            intro M
            induction M with
            | nil => intro _; simp [swp]
            | cons p M ih =>
              intro hM
              rw [List.all_cons, Bool.and_eq_true, decide_eq_true_eq] at hM
              simp only [swp]
              rw [if_neg (by omega), ih hM.2]
          exact this M c11
        have l2 : M.all (fun p => p.2 < nx) = true := by
          rw [← hM]; unfold insM insL; split <;> simp [hb, hb2] <;> omega
        refine AC.of_op f1 ⟨f2, f3⟩ hdom (by omega) ?_ al hal
        have hnm : (nmL (K + 2) (insA xs' k x') []) = [] := List.isEmpty_iff.1 c16
        have hnosl : al = true ∨ (Blk.cells s2 (insA xs' k x')).nosl = true := by
          refine hal.imp id fun ⟨_, hh⟩ => ?_
          have h1 : (Blk.cells s2 (insA xs k x)).nosl = true := by
            rw [List.all_append, Bool.and_eq_true] at hh
            simpa using hh.2
          rw [← e14, ← e15, ← insA_map] at h1
          simp only [Blk.nosl] at h1 ⊢
          rw [List.all_eq_true] at h1 ⊢
          exact fun z hz => by rw [← ren_nosl]; exact h1 _ (List.mem_map_of_mem hz)
        have key := op_callg (P := P) (tm := argTm [.own b 0 xs.length, .int .i64 (k : Int), .own b2 0 1]) (h := h) (nx := nx) (fo := .func g) (xs := ((List.range 3).map fun i => Operand.tmp i).toArray) (ts := #[]) (first := []) (caps := []) M (K + 2) al
          [(0, .cells s2 xs'), (1, .cells s2 [x'])] [b, b2] (args := [.own b 0 xs.length, .int .i64 (k : Int), .own b2 0 1]) (largs := [.own 0 0 xs'.length, .int .i64 (k : Int), .own 1 0 1])
          (hac xs' x' k K al (by omega) (by rw [hlen]; exact Nat.le_of_ble_eq_true c9) (fun z hz => Nat.eq_of_beq_eq_true (List.all_eq_true.1 c12 z hz)) (fun z hz => by rw [List.mem_singleton.1 hz]; exact Nat.eq_of_beq_eq_true c13)
            (fun σ hσ => nms_ren hσ _ hnm) hnosl) f1 ⟨f2, f3⟩ rfl (by simpa using argTm_oevs [.own b 0 xs.length, .int .i64 (k : Int), .own b2 0 1]) c11 l2 hK ?_ ?_ ?_ rfl rfl rfl
        · simp only [AV.ren, s2', hlen, List.map_cons, List.map_nil, Blk.ren, insA_map, e14, e15] at key
          exact key
        · intro p hp
          rcases List.mem_cons.1 hp with rfl | hp
          · refine ⟨?_, by rw [s0]; simp⟩
            rw [s0, q1]
            simp only [hget, Blk.ren, if_true, Option.map_some, e14]
          · obtain rfl := List.mem_singleton.1 hp
            refine ⟨?_, by rw [s1]; simp⟩
            rw [s1, q2]
            simp [hget, Blk.ren, e15]
        · simp only [List.map_cons, List.map_nil, List.all_cons, List.all_nil, Bool.and_true, s0, s1]
          simp [hne, Ne.symm hne]
        · exact .cons (.same (by simp only [AV.ren, s0, hlen])) (.cons (.same rfl) (.cons (.same (by simp only [AV.ren, s1])) .nil))
      · exact hcf _ _ _ _ _ _ _ he
    · exact hcf _ _ _ _ _ _ _ he
  · exact hcf _ _ _ _ _ _ _ he

/-- Such calls, of some functions. -/
def insCFs : List (Nat × Nat) → CF → CF
  | [], cf => cf
  | (f, sz) :: t, cf => insCF f sz (insCFs t cf)

theorem insCFs_ok : ∀ {l : List (Nat × Nat)}, (∀ p ∈ l, InsC P p.1 p.2) → ∀ {cf : CF}, CFok P cf → CFok P (insCFs l cf)
  | [], _, _, hcf => hcf
  | (f, sz) :: t, h, _, hcf => insCF_ok (h _ List.mem_cons_self) (insCFs_ok (fun p hp => h p (List.mem_cons_of_mem _ hp)) hcf)

/-- The run, with such calls told. -/
def cfgI (ins : List (Nat × Nat)) (pl : Nat → Nat → Option PL) (pu : Nat → Bool) : Cfg := ⟨pl, fun cf => lendCF pu (insCFs ins cf)⟩

/-- A closed call that comes to yes. -/
theorem ac_yesI (hm : P.follows .mixedOrders = true) {ins : List (Nat × Nat)} (hi : ∀ p ∈ ins, InsC P p.1 p.2) {pl : Nat → Nat → Option PL} {pu : Nat → Bool} (n : Nat) {f : FuncId} {args : List AV}
    (he : okB (runF P (cfgI ins pl pu) n f args [] 0) = true) : AC P f args [] 0 false (fun r h nx => r = .bool true) := by
  unfold okB at he
  split at he
  · rename_i h' nx' hr
    refine ((runF_ok (T := cfgI ins pl pu) (fun cf hcf => lendCF_ok (insCFs_ok hi hcf)) hm n _ _ _ _ _ _ _ hr).2 false (.inr ⟨rfl, he⟩)).mono ?_
    rintro _ _ _ ⟨rfl, _, _⟩; rfl
  · cases he

end
end Go.Proofs.Ytpggknkhldecaaa.Abs
end
section
/-
  begun of diwanlaw21, run: it comes to yes.
-/
namespace Go.Proofs.Ytpggknkhldecaaa.Abs
namespace Runbegun21
/-- The plans of the regions whose order is open. -/
def planRows : List (Nat × List (Nat × PL)) := [
  (60, [(6, ⟨[(0, [0]), (0, [3]), (1, [16, 17]), (1, [18]), (0, [0]), (0, [3]), (0, [21]), (1, [20, 22]), (1, [23]), (0, [19, 24])], [([], 0, 0)], [0], [[0], [0], [0], [0], [0], [0], [0], [0], [0], [0]], [[0], [0], [0], [0], [0], [0], [0], [0], [0], [0]], [], 0⟩),
    (11, ⟨[(0, [4]), (0, [5]), (1, [35, 36]), (1, [37]), (0, [4]), (0, [5]), (0, [40]), (1, [39, 41]), (1, [42]), (0, [38, 43])], [([], 0, 0)], [0], [[0], [0], [0], [0], [0], [0], [0], [0], [0], [0]], [[0], [0], [0], [0], [0], [0], [0], [0], [0], [0]], [], 0⟩)]),
  (77, [(11, ⟨[(0, [9]), (0, [1]), (0, [7]), (0, [47, 48]), (1, [46, 49]), (0, [0]), (0, [1]), (1, [51, 52]), (2, [50, 53])], [([], 0, 0), ([8], 0, 1)], [0, 1], [[0, 1], [0, 1], [0, 1], [0, 1], [0, 1], [0, 1], [0, 1], [0, 1], [1]], [[0], [0], [0], [0], [0], [0], [0], [0], [0]], [], 1⟩),
    (15, ⟨[(0, [0]), (0, [1]), (0, [7]), (0, [70, 71]), (1, [69, 72]), (0, [0]), (0, [1]), (1, [74, 75]), (2, [73, 76])], [([], 0, 0), ([8], 0, 1)], [0, 1], [[0, 1], [0, 1], [0, 1], [0, 1], [0, 1], [0, 1], [0, 1], [0, 1], [1]], [[0], [0], [0], [0], [0], [0], [0], [0], [0]], [], 1⟩)]),
  (84, [(17, ⟨[(0, [1]), (0, [73]), (0, [74]), (0, [0]), (0, [1]), (0, [77]), (1, [76, 78]), (1, [79]), (0, [0]), (0, [11]), (1, [81, 82]), (1, [83]), (2, [80, 84]), (0, [85]), (0, [75, 86])], [([], 0, 0), ([12], 0, 1)], [0, 1], [[0, 1], [0, 1], [0, 1], [0, 1], [0, 1], [0, 1], [0, 1], [0, 1], [0, 1], [0, 1], [0, 1], [0, 1], [1], [1], [1]], [[0], [0], [0], [0], [0], [0], [0], [0], [0], [0], [0], [0], [0], [0, 1], [0, 1]], [], 1⟩)]),
  (94, [(5, ⟨[(0, [2]), (0, [0]), (0, [11]), (1, [25, 26]), (1, [27]), (1, [4]), (2, [24, 28, 29]), (0, [30])], [([], 0, 0), ([6], 0, 1)], [0, 1], [[0, 1], [0, 1], [0, 1], [0, 1], [0, 1], [0, 1], [1], [1]], [[0], [0], [0], [0], [0], [0], [0], [0, 1]], [], 1⟩),
    (8, ⟨[(0, [9]), (0, [9]), (0, [8]), (0, [36, 37]), (0, [38]), (0, [2]), (0, [0]), (0, [9]), (1, [41, 42]), (1, [43]), (1, [4]), (2, [40, 44, 45]), (0, [46]), (0, [39, 47]), (0, [35]), (0, [48])], [([], 0, 0), ([11], 0, 1)], [0, 1], [[0, 1], [0, 1], [0, 1], [0, 1], [0, 1], [0, 1], [0, 1], [0, 1], [0, 1], [0, 1], [0, 1], [1], [1], [1], [1], [1]], [[0, 1], [0], [0], [0], [0], [0], [0], [0], [0], [0], [0], [0], [0, 1], [0, 1], [0, 1], [0, 1]], [], 1⟩)]),
  (95, [(1, ⟨[(0, [2]), (1, [5]), (0, [3]), (1, [7]), (2, [6, 8]), (0, [2]), (1, [10]), (0, [3]), (1, [12]), (2, [11, 13]), (2, [9, 14]), (2, [15]), (0, [16])], [([], 0, 0), ([4], 0, 1), ([4, 9], 0, 2), ([4, 9, 10], 0, 3), ([4, 9, 10, 11], 0, 4)], [0, 1, 2, 3, 4], [[0, 1, 2, 3, 4], [0, 1, 2, 3, 4], [0, 1, 2, 3, 4], [0, 1, 2, 3, 4], [1, 2, 3, 4], [0, 1, 2, 3, 4], [0, 1, 2, 3, 4], [0, 1, 2, 3, 4], [0, 1, 2, 3, 4], [2, 3, 4], [3, 4], [4], [4]], [[0], [0], [0], [0], [0], [0, 1], [0, 1], [0, 1], [0, 1], [0, 1], [0, 1, 2], [0, 1, 2, 3], [0, 1, 2, 3, 4]], [(6, 0, 0), (8, 0, 0)], 4⟩)]),
  (102, [(4, ⟨[(0, [7]), (0, [1]), (0, [16, 17]), (0, [18]), (0, [0]), (0, [7]), (1, [20, 21]), (1, [22]), (0, [0]), (0, [7]), (0, [25]), (1, [24, 26]), (1, [27]), (2, [23, 28]), (0, [19, 29])], [([], 0, 0), ([13], 0, 1)], [0, 1], [[0, 1], [0, 1], [0, 1], [0, 1], [0, 1], [0, 1], [0, 1], [0, 1], [0, 1], [0, 1], [0, 1], [0, 1], [0, 1], [1], [1]], [[0], [0], [0], [0], [0], [0], [0], [0], [0], [0], [0], [0], [0], [0], [0, 1]], [], 1⟩),
    (6, ⟨[(0, [0]), (0, [7]), (0, [0]), (0, [7]), (0, [36]), (0, [0]), (0, [7]), (0, [39]), (1, [38, 40]), (1, [41]), (0, [0]), (0, [7]), (1, [43, 44]), (1, [45]), (1, [33, 34]), (2, [47, 42]), (1, [35, 37]), (2, [48, 46])], [([], 0, 0), ([15], 0, 1), ([15, 17], 0, 2)], [0, 1, 2], [[0, 1, 2], [0, 1, 2], [0, 1, 2], [0, 1, 2], [0, 1, 2], [0, 1, 2], [0, 1, 2], [0, 1, 2], [0, 1, 2], [0, 1, 2], [0, 1, 2], [0, 1, 2], [0, 1, 2], [0, 1, 2], [0, 1, 2], [1, 2], [1, 2], [2]], [[0], [0], [0, 1], [0, 1], [0, 1], [0], [0], [0], [0], [0], [0], [0], [0], [0], [0], [0], [0, 1], [0, 1]], [], 2⟩)]),
  (103, [(10, ⟨[(0, [0]), (0, [6]), (0, [0]), (0, [6]), (0, [10]), (0, [36, 37]), (0, [0]), (0, [6]), (0, [10]), (0, [40, 41]), (1, [39, 42]), (1, [43]), (0, [0]), (0, [6]), (1, [45, 46]), (1, [47]), (1, [33, 34]), (2, [49, 44]), (1, [35, 38]), (2, [50, 48])], [([], 0, 0), ([17], 0, 1), ([17, 19], 0, 2)], [0, 1, 2], [[0, 1, 2], [0, 1, 2], [0, 1, 2], [0, 1, 2], [0, 1, 2], [0, 1, 2], [0, 1, 2], [0, 1, 2], [0, 1, 2], [0, 1, 2], [0, 1, 2], [0, 1, 2], [0, 1, 2], [0, 1, 2], [0, 1, 2], [0, 1, 2], [0, 1, 2], [1, 2], [1, 2], [2]], [[0], [0], [0, 1], [0, 1], [0, 1], [0, 1], [0], [0], [0], [0], [0], [0], [0], [0], [0], [0], [0], [0], [0, 1], [0, 1]], [], 2⟩)]),
  (104, [(10, ⟨[(0, [0]), (0, [9]), (0, [0]), (0, [1]), (0, [10]), (0, [50, 51]), (0, [0]), (0, [1]), (0, [10]), (0, [54, 55]), (1, [53, 56]), (1, [57]), (0, [0]), (0, [9]), (1, [59, 60]), (1, [61]), (1, [47, 48]), (2, [63, 58]), (1, [49, 52]), (2, [64, 62])], [([], 0, 0), ([17], 0, 1), ([17, 19], 0, 2)], [0, 1, 2], [[0, 1, 2], [0, 1, 2], [0, 1, 2], [0, 1, 2], [0, 1, 2], [0, 1, 2], [0, 1, 2], [0, 1, 2], [0, 1, 2], [0, 1, 2], [0, 1, 2], [0, 1, 2], [0, 1, 2], [0, 1, 2], [0, 1, 2], [0, 1, 2], [0, 1, 2], [1, 2], [1, 2], [2]], [[0], [0], [0, 1], [0, 1], [0, 1], [0, 1], [0], [0], [0], [0], [0], [0], [0], [0], [0], [0], [0], [0], [0, 1], [0, 1]], [], 2⟩)]),
  (106, [(3, ⟨[(0, [0]), (0, [6]), (0, [0]), (0, [7]), (0, [0]), (0, [7]), (1, [18, 19]), (1, [20]), (0, [0]), (0, [6]), (1, [22, 23]), (1, [24]), (1, [14, 15]), (2, [26, 21]), (1, [16, 17]), (2, [27, 25])], [([], 0, 0), ([13], 0, 1), ([13, 15], 0, 2)], [0, 1, 2], [[0, 1, 2], [0, 1, 2], [0, 1, 2], [0, 1, 2], [0, 1, 2], [0, 1, 2], [0, 1, 2], [0, 1, 2], [0, 1, 2], [0, 1, 2], [0, 1, 2], [0, 1, 2], [0, 1, 2], [1, 2], [1, 2], [2]], [[0], [0], [0, 1], [0, 1], [0], [0], [0], [0], [0], [0], [0], [0], [0], [0], [0, 1], [0, 1]], [], 2⟩)]),
  (107, [(5, ⟨[(0, [7]), (0, [2]), (0, [17, 18]), (0, [19]), (0, [0]), (0, [7]), (1, [21, 22]), (1, [23]), (0, [0]), (0, [7]), (0, [26]), (1, [25, 27]), (1, [28]), (2, [24, 29]), (0, [30]), (0, [20, 31])], [([], 0, 0), ([13], 0, 1)], [0, 1], [[0, 1], [0, 1], [0, 1], [0, 1], [0, 1], [0, 1], [0, 1], [0, 1], [0, 1], [0, 1], [0, 1], [0, 1], [0, 1], [1], [1], [1]], [[0], [0], [0], [0], [0], [0], [0], [0], [0], [0], [0], [0], [0], [0], [0, 1], [0, 1]], [], 1⟩),
    (11, ⟨[(0, [0]), (0, [7]), (0, [0]), (0, [7]), (0, [45]), (0, [0]), (0, [7]), (0, [48]), (1, [47, 49]), (1, [50]), (0, [0]), (0, [7]), (1, [52, 53]), (1, [54]), (1, [42, 43]), (2, [56, 51]), (1, [44, 46]), (2, [57, 55])], [([], 0, 0), ([15], 0, 1), ([15, 17], 0, 2)], [0, 1, 2], [[0, 1, 2], [0, 1, 2], [0, 1, 2], [0, 1, 2], [0, 1, 2], [0, 1, 2], [0, 1, 2], [0, 1, 2], [0, 1, 2], [0, 1, 2], [0, 1, 2], [0, 1, 2], [0, 1, 2], [0, 1, 2], [0, 1, 2], [1, 2], [1, 2], [2]], [[0], [0], [0, 1], [0, 1], [0, 1], [0], [0], [0], [0], [0], [0], [0], [0], [0], [0], [0], [0, 1], [0, 1]], [], 2⟩),
    (16, ⟨[(0, [0]), (0, [9]), (1, [68, 69]), (1, [70]), (0, [0]), (0, [9]), (0, [73]), (1, [72, 74]), (1, [75]), (2, [71, 76]), (0, [77])], [([], 0, 0), ([9], 0, 1)], [0, 1], [[0, 1], [0, 1], [0, 1], [0, 1], [0, 1], [0, 1], [0, 1], [0, 1], [0, 1], [1], [1]], [[0], [0], [0], [0], [0], [0], [0], [0], [0], [0], [0, 1]], [], 1⟩),
    (17, ⟨[(0, [0]), (0, [9]), (0, [0]), (0, [9]), (0, [82]), (0, [0]), (0, [9]), (0, [85]), (1, [84, 86]), (1, [87]), (0, [0]), (0, [9]), (1, [89, 90]), (1, [91]), (1, [79, 80]), (2, [93, 88]), (1, [81, 83]), (2, [94, 92])], [([], 0, 0), ([15], 0, 1), ([15, 17], 0, 2)], [0, 1, 2], [[0, 1, 2], [0, 1, 2], [0, 1, 2], [0, 1, 2], [0, 1, 2], [0, 1, 2], [0, 1, 2], [0, 1, 2], [0, 1, 2], [0, 1, 2], [0, 1, 2], [0, 1, 2], [0, 1, 2], [0, 1, 2], [0, 1, 2], [1, 2], [1, 2], [2]], [[0], [0], [0, 1], [0, 1], [0, 1], [0], [0], [0], [0], [0], [0], [0], [0], [0], [0], [0], [0, 1], [0, 1]], [], 2⟩),
    (22, ⟨[(0, [0]), (0, [10]), (1, [106, 107]), (1, [108]), (0, [0]), (0, [10]), (0, [111]), (1, [110, 112]), (1, [113]), (2, [109, 114]), (0, [115])], [([], 0, 0), ([9], 0, 1)], [0, 1], [[0, 1], [0, 1], [0, 1], [0, 1], [0, 1], [0, 1], [0, 1], [0, 1], [0, 1], [1], [1]], [[0], [0], [0], [0], [0], [0], [0], [0], [0], [0], [0, 1]], [], 1⟩),
    (23, ⟨[(0, [0]), (0, [10]), (0, [0]), (0, [10]), (0, [120]), (0, [0]), (0, [10]), (0, [123]), (1, [122, 124]), (1, [125]), (0, [0]), (0, [10]), (1, [127, 128]), (1, [129]), (1, [117, 118]), (2, [131, 126]), (1, [119, 121]), (2, [132, 130])], [([], 0, 0), ([15], 0, 1), ([15, 17], 0, 2)], [0, 1, 2], [[0, 1, 2], [0, 1, 2], [0, 1, 2], [0, 1, 2], [0, 1, 2], [0, 1, 2], [0, 1, 2], [0, 1, 2], [0, 1, 2], [0, 1, 2], [0, 1, 2], [0, 1, 2], [0, 1, 2], [0, 1, 2], [0, 1, 2], [1, 2], [1, 2], [2]], [[0], [0], [0, 1], [0, 1], [0, 1], [0], [0], [0], [0], [0], [0], [0], [0], [0], [0], [0], [0, 1], [0, 1]], [], 2⟩)]),
  (109, [(1, ⟨[(0, [0]), (0, [1]), (0, [0]), (0, [3]), (0, [0]), (0, [3]), (1, [15, 16]), (1, [17]), (0, [0]), (0, [1]), (1, [19, 20]), (1, [21]), (1, [11, 12]), (2, [23, 18]), (1, [13, 14]), (2, [24, 22])], [([], 0, 0), ([13], 0, 1), ([13, 15], 0, 2)], [0, 1, 2], [[0, 1, 2], [0, 1, 2], [0, 1, 2], [0, 1, 2], [0, 1, 2], [0, 1, 2], [0, 1, 2], [0, 1, 2], [0, 1, 2], [0, 1, 2], [0, 1, 2], [0, 1, 2], [0, 1, 2], [1, 2], [1, 2], [2]], [[0], [0], [0, 1], [0, 1], [0], [0], [0], [0], [0], [0], [0], [0], [0], [0], [0, 1], [0, 1]], [], 2⟩),
    (3, ⟨[(0, [9]), (0, [10]), (0, [29, 30]), (0, [31]), (0, [0]), (0, [1]), (1, [33, 34]), (1, [35]), (0, [0]), (0, [9]), (1, [37, 38]), (1, [39]), (2, [36, 40]), (0, [41]), (0, [32, 42])], [([], 0, 0), ([12], 0, 1)], [0, 1], [[0, 1], [0, 1], [0, 1], [0, 1], [0, 1], [0, 1], [0, 1], [0, 1], [0, 1], [0, 1], [0, 1], [0, 1], [1], [1], [1]], [[0], [0], [0], [0], [0], [0], [0], [0], [0], [0], [0], [0], [0], [0, 1], [0, 1]], [], 1⟩),
    (5, ⟨[(0, [9]), (0, [10]), (0, [46, 47]), (0, [48]), (0, [0]), (0, [1]), (1, [50, 51]), (1, [52]), (0, [0]), (0, [10]), (1, [54, 55]), (1, [56]), (2, [53, 57]), (0, [49, 58])], [([], 0, 0), ([12], 0, 1)], [0, 1], [[0, 1], [0, 1], [0, 1], [0, 1], [0, 1], [0, 1], [0, 1], [0, 1], [0, 1], [0, 1], [0, 1], [0, 1], [1], [1]], [[0], [0], [0], [0], [0], [0], [0], [0], [0], [0], [0], [0], [0], [0, 1]], [], 1⟩),
    (8, ⟨[(0, [0]), (0, [9]), (0, [0]), (0, [10]), (0, [0]), (0, [10]), (1, [69, 70]), (1, [71]), (0, [0]), (0, [9]), (1, [73, 74]), (1, [75]), (1, [65, 66]), (2, [77, 72]), (1, [67, 68]), (2, [78, 76])], [([], 0, 0), ([13], 0, 1), ([13, 15], 0, 2)], [0, 1, 2], [[0, 1, 2], [0, 1, 2], [0, 1, 2], [0, 1, 2], [0, 1, 2], [0, 1, 2], [0, 1, 2], [0, 1, 2], [0, 1, 2], [0, 1, 2], [0, 1, 2], [0, 1, 2], [0, 1, 2], [1, 2], [1, 2], [2]], [[0], [0], [0, 1], [0, 1], [0], [0], [0], [0], [0], [0], [0], [0], [0], [0], [0, 1], [0, 1]], [], 2⟩)]),
  (110, [(1, ⟨[(0, [0]), (0, [1]), (0, [0]), (0, [3]), (0, [0]), (0, [3]), (1, [16, 17]), (1, [18]), (0, [0]), (0, [1]), (1, [20, 21]), (1, [22]), (1, [12, 13]), (2, [24, 19]), (1, [14, 15]), (2, [25, 23])], [([], 0, 0), ([13], 0, 1), ([13, 15], 0, 2)], [0, 1, 2], [[0, 1, 2], [0, 1, 2], [0, 1, 2], [0, 1, 2], [0, 1, 2], [0, 1, 2], [0, 1, 2], [0, 1, 2], [0, 1, 2], [0, 1, 2], [0, 1, 2], [0, 1, 2], [0, 1, 2], [1, 2], [1, 2], [2]], [[0], [0], [0, 1], [0, 1], [0], [0], [0], [0], [0], [0], [0], [0], [0], [0], [0, 1], [0, 1]], [], 2⟩),
    (3, ⟨[(0, [10]), (0, [11]), (0, [30, 31]), (0, [32]), (0, [0]), (0, [10]), (1, [34, 35]), (1, [36]), (0, [0]), (0, [1]), (1, [38, 39]), (1, [40]), (2, [37, 41]), (0, [33, 42])], [([], 0, 0), ([12], 0, 1)], [0, 1], [[0, 1], [0, 1], [0, 1], [0, 1], [0, 1], [0, 1], [0, 1], [0, 1], [0, 1], [0, 1], [0, 1], [0, 1], [1], [1]], [[0], [0], [0], [0], [0], [0], [0], [0], [0], [0], [0], [0], [0], [0, 1]], [], 1⟩),
    (5, ⟨[(0, [10]), (0, [11]), (0, [46, 47]), (0, [48]), (0, [0]), (0, [11]), (1, [50, 51]), (1, [52]), (0, [0]), (0, [1]), (1, [54, 55]), (1, [56]), (2, [53, 57]), (0, [58]), (0, [49, 59])], [([], 0, 0), ([12], 0, 1)], [0, 1], [[0, 1], [0, 1], [0, 1], [0, 1], [0, 1], [0, 1], [0, 1], [0, 1], [0, 1], [0, 1], [0, 1], [0, 1], [1], [1], [1]], [[0], [0], [0], [0], [0], [0], [0], [0], [0], [0], [0], [0], [0], [0, 1], [0, 1]], [], 1⟩),
    (8, ⟨[(0, [0]), (0, [11]), (0, [0]), (0, [1]), (0, [0]), (0, [1]), (1, [70, 71]), (1, [72]), (0, [0]), (0, [11]), (1, [74, 75]), (1, [76]), (1, [66, 67]), (2, [78, 73]), (1, [68, 69]), (2, [79, 77])], [([], 0, 0), ([13], 0, 1), ([13, 15], 0, 2)], [0, 1, 2], [[0, 1, 2], [0, 1, 2], [0, 1, 2], [0, 1, 2], [0, 1, 2], [0, 1, 2], [0, 1, 2], [0, 1, 2], [0, 1, 2], [0, 1, 2], [0, 1, 2], [0, 1, 2], [0, 1, 2], [1, 2], [1, 2], [2]], [[0], [0], [0, 1], [0, 1], [0], [0], [0], [0], [0], [0], [0], [0], [0], [0], [0, 1], [0, 1]], [], 2⟩),
    (10, ⟨[(0, [0]), (0, [10]), (0, [0]), (0, [11]), (0, [0]), (0, [11]), (1, [85, 86]), (1, [87]), (0, [0]), (0, [10]), (1, [89, 90]), (1, [91]), (1, [81, 82]), (2, [93, 88]), (1, [83, 84]), (2, [94, 92])], [([], 0, 0), ([13], 0, 1), ([13, 15], 0, 2)], [0, 1, 2], [[0, 1, 2], [0, 1, 2], [0, 1, 2], [0, 1, 2], [0, 1, 2], [0, 1, 2], [0, 1, 2], [0, 1, 2], [0, 1, 2], [0, 1, 2], [0, 1, 2], [0, 1, 2], [0, 1, 2], [1, 2], [1, 2], [2]], [[0], [0], [0, 1], [0, 1], [0], [0], [0], [0], [0], [0], [0], [0], [0], [0], [0, 1], [0, 1]], [], 2⟩),
    (13, ⟨[(0, [10]), (0, [11]), (0, [99, 100]), (0, [101]), (0, [0]), (0, [10]), (1, [103, 104]), (1, [105]), (0, [0]), (0, [1]), (1, [107, 108]), (1, [109]), (2, [106, 110]), (0, [102, 111])], [([], 0, 0), ([12], 0, 1)], [0, 1], [[0, 1], [0, 1], [0, 1], [0, 1], [0, 1], [0, 1], [0, 1], [0, 1], [0, 1], [0, 1], [0, 1], [0, 1], [1], [1]], [[0], [0], [0], [0], [0], [0], [0], [0], [0], [0], [0], [0], [0], [0, 1]], [], 1⟩),
    (15, ⟨[(0, [10]), (0, [11]), (0, [115, 116]), (0, [117]), (0, [0]), (0, [11]), (1, [119, 120]), (1, [121]), (0, [0]), (0, [1]), (1, [123, 124]), (1, [125]), (2, [122, 126]), (0, [127]), (0, [118, 128])], [([], 0, 0), ([12], 0, 1)], [0, 1], [[0, 1], [0, 1], [0, 1], [0, 1], [0, 1], [0, 1], [0, 1], [0, 1], [0, 1], [0, 1], [0, 1], [0, 1], [1], [1], [1]], [[0], [0], [0], [0], [0], [0], [0], [0], [0], [0], [0], [0], [0], [0, 1], [0, 1]], [], 1⟩),
    (18, ⟨[(0, [0]), (0, [10]), (0, [0]), (0, [11]), (0, [0]), (0, [11]), (1, [139, 140]), (1, [141]), (0, [0]), (0, [10]), (1, [143, 144]), (1, [145]), (1, [135, 136]), (2, [147, 142]), (1, [137, 138]), (2, [148, 146])], [([], 0, 0), ([13], 0, 1), ([13, 15], 0, 2)], [0, 1, 2], [[0, 1, 2], [0, 1, 2], [0, 1, 2], [0, 1, 2], [0, 1, 2], [0, 1, 2], [0, 1, 2], [0, 1, 2], [0, 1, 2], [0, 1, 2], [0, 1, 2], [0, 1, 2], [0, 1, 2], [1, 2], [1, 2], [2]], [[0], [0], [0, 1], [0, 1], [0], [0], [0], [0], [0], [0], [0], [0], [0], [0], [0, 1], [0, 1]], [], 2⟩),
    (21, ⟨[(0, [0]), (0, [11]), (0, [0]), (0, [1]), (0, [0]), (0, [1]), (1, [157, 158]), (1, [159]), (0, [0]), (0, [11]), (1, [161, 162]), (1, [163]), (1, [153, 154]), (2, [165, 160]), (1, [155, 156]), (2, [166, 164])], [([], 0, 0), ([13], 0, 1), ([13, 15], 0, 2)], [0, 1, 2], [[0, 1, 2], [0, 1, 2], [0, 1, 2], [0, 1, 2], [0, 1, 2], [0, 1, 2], [0, 1, 2], [0, 1, 2], [0, 1, 2], [0, 1, 2], [0, 1, 2], [0, 1, 2], [0, 1, 2], [1, 2], [1, 2], [2]], [[0], [0], [0, 1], [0, 1], [0], [0], [0], [0], [0], [0], [0], [0], [0], [0], [0, 1], [0, 1]], [], 2⟩)]),
  (116, [(3, ⟨[(0, [9]), (0, [17]), (0, [2]), (0, [18, 19]), (0, [20]), (0, [0]), (0, [3]), (0, [9]), (0, [23, 24]), (1, [22, 25]), (1, [26]), (0, [0]), (0, [3]), (0, [9]), (0, [29, 30]), (0, [31]), (1, [28, 32]), (1, [33]), (2, [27, 34]), (0, [21, 35])], [([], 0, 0), ([18], 0, 1)], [0, 1], [[0, 1], [0, 1], [0, 1], [0, 1], [0, 1], [0, 1], [0, 1], [0, 1], [0, 1], [0, 1], [0, 1], [0, 1], [0, 1], [0, 1], [0, 1], [0, 1], [0, 1], [0, 1], [1], [1]], [[0], [0], [0], [0], [0], [0], [0], [0], [0], [0], [0], [0], [0], [0], [0], [0], [0], [0], [0], [0, 1]], [], 1⟩),
    (5, ⟨[(0, [0]), (0, [3]), (0, [8]), (0, [40, 41]), (1, [39, 42]), (1, [43]), (0, [0]), (0, [3]), (0, [9]), (0, [46, 47]), (1, [45, 48]), (1, [49]), (2, [44, 50]), (0, [51])], [([], 0, 0), ([12], 0, 1)], [0, 1], [[0, 1], [0, 1], [0, 1], [0, 1], [0, 1], [0, 1], [0, 1], [0, 1], [0, 1], [0, 1], [0, 1], [0, 1], [1], [1]], [[0], [0], [0], [0], [0], [0], [0], [0], [0], [0], [0], [0], [0], [0, 1]], [], 1⟩),
    (6, ⟨[(0, [0]), (0, [3]), (0, [8]), (0, [54, 55]), (0, [0]), (0, [3]), (0, [9]), (0, [58, 59]), (0, [0]), (0, [3]), (0, [9]), (0, [62, 63]), (1, [61, 64]), (1, [65]), (0, [0]), (0, [3]), (0, [8]), (0, [68, 69]), (1, [67, 70]), (1, [71]), (1, [53, 56]), (2, [73, 66]), (1, [57, 60]), (2, [74, 72])], [([], 0, 0), ([21], 0, 1), ([21, 23], 0, 2)], [0, 1, 2], [[0, 1, 2], [0, 1, 2], [0, 1, 2], [0, 1, 2], [0, 1, 2], [0, 1, 2], [0, 1, 2], [0, 1, 2], [0, 1, 2], [0, 1, 2], [0, 1, 2], [0, 1, 2], [0, 1, 2], [0, 1, 2], [0, 1, 2], [0, 1, 2], [0, 1, 2], [0, 1, 2], [0, 1, 2], [0, 1, 2], [0, 1, 2], [1, 2], [1, 2], [2]], [[0], [0], [0], [0], [0, 1], [0, 1], [0, 1], [0, 1], [0], [0], [0], [0], [0], [0], [0], [0], [0], [0], [0], [0], [0], [0], [0, 1], [0, 1]], [], 2⟩)]),
  (118, [(1, ⟨[(0, [0]), (0, [3]), (1, [4]), (0, [0]), (0, [6]), (1, [7]), (0, [8]), (0, [5, 9]), (0, [3]), (2, [11, 10])], [([], 0, 0), ([9], 0, 1)], [0, 1], [[0, 1], [0, 1], [0, 1], [0, 1], [0, 1], [0, 1], [0, 1], [0, 1], [0, 1], [1]], [[0], [0], [0], [0], [0], [0], [0], [0], [0], [0]], [], 1⟩),
    (2, ⟨[(0, [0]), (0, [12]), (1, [13]), (0, [0]), (0, [15]), (1, [16]), (0, [17]), (0, [14, 18]), (0, [12]), (2, [20, 19])], [([], 0, 0), ([9], 0, 1)], [0, 1], [[0, 1], [0, 1], [0, 1], [0, 1], [0, 1], [0, 1], [0, 1], [0, 1], [0, 1], [1]], [[0], [0], [0], [0], [0], [0], [0], [0], [0], [0]], [], 1⟩),
    (3, ⟨[(0, [0]), (0, [21]), (1, [22]), (0, [0]), (0, [24]), (1, [25]), (0, [26]), (0, [23, 27]), (0, [21]), (2, [29, 28])], [([], 0, 0), ([9], 0, 1)], [0, 1], [[0, 1], [0, 1], [0, 1], [0, 1], [0, 1], [0, 1], [0, 1], [0, 1], [0, 1], [1]], [[0], [0], [0], [0], [0], [0], [0], [0], [0], [0]], [], 1⟩)]),
  (121, [(3, ⟨[(0, [0]), (0, [2]), (0, [0]), (0, [3]), (0, [0]), (0, [3]), (1, [18, 19]), (1, [20]), (0, [0]), (0, [2]), (1, [22, 23]), (1, [24]), (1, [14, 15]), (2, [26, 21]), (1, [16, 17]), (2, [27, 25])], [([], 0, 0), ([13], 0, 1), ([13, 15], 0, 2)], [0, 1, 2], [[0, 1, 2], [0, 1, 2], [0, 1, 2], [0, 1, 2], [0, 1, 2], [0, 1, 2], [0, 1, 2], [0, 1, 2], [0, 1, 2], [0, 1, 2], [0, 1, 2], [0, 1, 2], [0, 1, 2], [1, 2], [1, 2], [2]], [[0], [0], [0, 1], [0, 1], [0], [0], [0], [0], [0], [0], [0], [0], [0], [0], [0, 1], [0, 1]], [], 2⟩)]),
  (122, [(1, ⟨[(0, [0]), (0, [2]), (1, [10, 11]), (1, [12]), (0, [0]), (0, [1]), (1, [14, 15]), (1, [16]), (2, [13, 17])], [([], 0, 0), ([8], 0, 1)], [0, 1], [[0, 1], [0, 1], [0, 1], [0, 1], [0, 1], [0, 1], [0, 1], [0, 1], [1]], [[0], [0], [0], [0], [0], [0], [0], [0], [0]], [], 1⟩)])]
def pu : Nat → Bool := memF [16, 24, 28, 29, 31, 33, 35, 39, 58, 72, 73, 75, 85, 94, 95, 96, 97, 98, 108, 111, 112, 114]
def ins : List (Nat × Nat) := [(77, 3)]
theorem mixed : Try.prog.follows .mixedOrders = true := by kernel_rfl
theorem insOk : ∀ p ∈ ins, InsC Try.prog p.1 p.2 := by
  intro p hp
  simp only [ins, List.mem_cons, List.not_mem_nil, or_false] at hp
  rcases hp with rfl
  · exact ⟨⟨_, Try.func77, by decide, rfl⟩, insert_note⟩
end Runbegun21
theorem law_begun21 : AC Try.prog 24 [] [] 0 false (fun r _ _ => r = .bool true) := ac_yesI Runbegun21.mixed Runbegun21.insOk (pl := look2 Runbegun21.planRows) (pu := Runbegun21.pu) 300 (by kernel_rfl)
end Go.Proofs.Ytpggknkhldecaaa.Abs
end
section
/-
  Who has said what, in any row, what that comes to, and whose word is missing.
-/
namespace Go.Proofs.Ytpggknkhldecaaa.Abs

theorem pkTx_keym (l : List UInt8) (n most : Nat) : (∀ r ∈ (pkTx l n most).1.reads, r.key.length ≤ 8) ∧ ∀ r ∈ (pkTx l n most).1.writes, r.key.length ≤ 8 := by
  have h := pkTx_may l n most
  unfold mayTxB at h
  simp only [Bool.and_eq_true, decide_eq_true_eq] at h
  obtain ⟨_, _, _, _, _, h6, _, h8, _, _⟩ := h
  exact ⟨fun r hr => (mayB_len (rising_key h6 _ (List.mem_map_of_mem hr))).2, fun r hr => (mayB_len (rising_key h8 _ (List.mem_map_of_mem hr))).2⟩

theorem same_nils : AC Try.prog 27 [.nils, .nils] [] 0 false (fun v h nx => v = .bool true ∧ h = [] ∧ nx = 0) :=
  AC.args (aa := [.nils, .nils]) (bs := [.sl 1 (ints []), .sl 1 (ints [])]) rfl (fun S w ρ v i x y hx hy hv => by
    rcases i with _ | _ | i
    · obtain rfl := Option.some.inj hx; obtain rfl := Option.some.inj hy; exact vr_nils 1 hv
    · obtain rfl := Option.some.inj hx; obtain rfl := Option.some.inj hy; exact vr_nils 1 hv
    · cases hx) (ref_SameInts [] (Nat.zero_le _))

set_option maxRecDepth 100000 in
set_option maxHeartbeats 8000000 in
theorem law_BitsAll (x0 : List ((Int) × (Int) × (Int))) (x1 : List UInt8) (x2 : List (Int)) (x3 : Int)
    (g0 : (fun l : List ((Int) × (Int) × (Int)) => (∀ x ∈ l, (fun p : (Int) × (Int) × (Int) => (fun n : Int => (Lit.int .u8 n).wf = true) p.1 ∧ (fun n : Int => (Lit.int .u8 n).wf = true) p.2.1 ∧ (fun n : Int => (Lit.int .u8 n).wf = true) p.2.2) x) ∧ l.length ≤ reachBytes) x0)
    (g1 : (fun l : List UInt8 => l.length ≤ reachBytes) x1)
    (g2 : (fun l : List (Int) => (∀ x ∈ l, (fun n : Int => (Lit.int .i64 n).wf = true) x) ∧ l.length ≤ reachBytes) x2)
    (g3 : (fun n : Int => (Lit.int .u8 n).wf = true) x3) :
    AC Try.prog 4 [(fun l : List ((Int) × (Int) × (Int)) => AV.sl 3 (l.map (fun p : (Int) × (Int) × (Int) => AV.agg (((AV.int .u8) p.1).cells ++ ((AV.int .u8) p.2.1).cells ++ ((AV.int .u8) p.2.2).cells)))) x0, (fun l : List UInt8 => AV.sl 1 (bl l)) x1, (fun l : List (Int) => AV.sl 1 (l.map (AV.int .i64))) x2, (AV.int .u8) x3] [] 0 false (fun r _ _ => r = .bool true) := by
  have hb := law_begun21.yes
  have hbl1 : (bl x1).length = x1.length := bl_len x1
  have hil2 := ints_len x2
  have hzl : ∀ z ∈ ints x2, z.cells.length = 1 := fun z hz => by obtain ⟨x, _, rfl⟩ := List.mem_map.1 hz; rfl
  obtain ⟨g0, _⟩ := g0
  obtain ⟨_, _⟩ := g2
  dsimp only at g0 g1 ⊢
  show AC Try.prog 4 [.sl 3 (x0.map triA), .sl 1 (bl x1), .sl 1 (ints x2), .int .u8 x3] [] 0 false (fun r _ _ => r = .bool true)
  have hxl : (x0.map triA).length = x0.length := List.length_map _
  by_cases h0 : x0.length ≤ 40
  · by_cases h1 : x1.length ≤ 30
    · by_cases h2 : x2.length ≤ 6
      · skip
        refine ac_fn Try.func4 rfl rfl rfl rfl (fun w0 S0 r0 => ?_)
        refine aw_seq ?_
        refine aw_region ?_
        refine st_p (mva rfl) rfl ?_
        refine al_nil ?_
        refine nm ?_
        refine aw_seq ?_
        refine aw_seq ?_
        refine aw_region ?_
        -- STOP: call diwan/diwanlaw21.begun() -> 17
        refine st_o ((op_callq (hb) Try.func24 ⟨rfl, rfl⟩ rfl rfl (fun nx => .nil) (by rintro _ _ _ ⟨rfl, rfl, rfl⟩; exact .same rfl)).ok) rfl ?_
        refine st_p (op_notT rfl) rfl ?_
        refine al_nil ?_
        refine nm ?_
        -- IF t18
        refine aw_no (rfl) ?_
        refine aw_skip ?_
        refine nm ?_
        refine aw_seq ?_
        refine aw_seq ?_
        refine aw_region ?_
        refine st_p (mv rfl) rfl ?_
        refine st_p (op_len Try.underlying43 rfl) rfl ?_
        refine st_p (OpP.conv (op_gt rfl rfl) (no (by first | assumption | omega))) rfl ?_
        refine st_p (mv rfl) rfl ?_
        refine st_pg rfl rfl rfl (mv rfl) rfl ?_
        refine st_pg rfl rfl rfl (op_len Try.underlying22 rfl) rfl ?_
        refine st_pg rfl rfl rfl (OpP.conv (op_gt rfl rfl) (no (by first | assumption | omega))) rfl ?_
        refine st_p (pkF rfl rfl) rfl ?_
        refine st_p (mv rfl) rfl ?_
        refine st_pg rfl rfl rfl (mv rfl) rfl ?_
        refine st_pg rfl rfl rfl (op_len Try.underlying35 rfl) rfl ?_
        refine st_pg rfl rfl rfl (OpP.conv (op_gt rfl rfl) (no (by first | assumption | omega))) rfl ?_
        refine st_p (pkF rfl rfl) rfl ?_
        refine al_nil ?_
        refine nm ?_
        -- IF t31
        refine aw_no (rfl) ?_
        refine aw_skip ?_
        refine nm ?_
        refine aw_seq ?_
        refine aw_region ?_
        refine st_o (bsl Try.underlying35 i3 o3 (by decide) rfl rfl rfl (by decide)) rfl ?_
        refine st_p (mv rfl) rfl ?_
        refine st_o (op_app Try.underlying35 Try.underlying35 (.inl ⟨_, rfl⟩) i3 o3 rfl rfl rfl (by first | rfl | omega | (simp; done) | (simp; omega)) ((SrcA.sl (.inr trivial)).ok rfl (by first | assumption | intro z hz; simp only [List.mem_singleton, List.drop_zero, List.take_succ_cons, List.take_zero, List.mem_cons, List.not_mem_nil, or_false, List.mem_map] at hz; first | (subst hz; rfl) | (obtain ⟨_, _, rfl⟩ := hz; rfl) | (rcases hz with rfl | rfl <;> rfl))) (by first | omega | (simp; try omega)) rfl) rfl ?_
        refine st_p (mva rfl) rfl ?_
        refine al_nil ?_
        refine nm ?_
        refine aw_seq ?_
        refine aw_seq ?_
        refine aw_region ?_
        refine st_p (mva rfl) rfl ?_
        refine al_nil ?_
        refine nm ?_
        refine aw_block ?_
        -- LOOP
        refine aw_loop (fun p : {p : Nat × List Int // p.1 ≤ x2.length ∧ p.2.length = x2.length} => ⟨[(0, .sl 3 (x0.map triA)), (1, .sl 1 (bl x1)), (2, .own 0 0 x2.length), (3, .int .u8 x3), (9, .int .i64 p.1.1)], [(0, .cells 1 (ints p.1.2))], 1⟩) (fun p => x2.length - p.1.1) ⟨(0, x2), Nat.zero_le _, rfl⟩ ?_ ?_
        · exact le_to [(0, 1)] rfl rfl rfl rfl rfl ⟨rfl, rfl, congrArg (AV.own 1 0) hil2, rfl, rfl, trivial⟩ ⟨by rw [ren_intsB]; rfl, trivial⟩
        · rintro ⟨⟨i, r⟩, hi, hrl⟩
          dsimp only at hi hrl ⊢
          have hil := ints_len r
          by_cases hlt : i < x2.length
          · obtain ⟨x, hx⟩ : ∃ x, r[i]? = some x := ⟨_, List.getElem?_eq_getElem (by omega)⟩
            have hxb : (ints r)[0 + ((i : Nat) : Int).toNat]? = some (.int .i64 x) := by rw [Nat.zero_add, Int.toNat_natCast]; exact ints_get hx
            refine aw_seq ?_
            refine aw_seq ?_
            refine aw_region ?_
            refine st_p (mv rfl) rfl ?_
            refine st_p (mv rfl) rfl ?_
            refine st_p (op_leno Try.underlying35 rfl) rfl ?_
            refine st_p (OpP.conv (op_lt rfl rfl) (yes (by first | assumption | omega))) rfl ?_
            refine al_nil ?_
            refine nm ?_
            -- IF t38
            refine aw_yes (rfl) ?_
            refine aw_skip ?_
            refine nm ?_
            refine aw_seq ?_
            refine aw_block ?_
            refine aw_region ?_
            refine st_p (mv rfl) rfl ?_
            refine st_p (mv rfl) rfl ?_
            refine st_p (mv rfl) rfl ?_
            refine st_p (mv rfl) rfl ?_
            refine st_p (op_indexAddr Try.underlying35 z3 rfl rfl rfl (by omega) (by omega)) rfl ?_
            refine st_p (op_load1 Try.underlying3 rfl rfl rfl (by assumption) rfl) rfl ?_
            refine st_p (op_rem rfl rfl (by omega)) rfl ?_
            refine st_p (op_add rfl rfl) rfl ?_
            refine st_p (op_rem rfl rfl (by omega)) rfl ?_
            refine st_p (op_indexAddr Try.underlying35 z3 rfl rfl rfl (by omega) (by omega)) rfl ?_
            refine st_n (st1s z3 rfl rfl rfl (by assumption) rfl rfl rfl) ?_
            refine al_nil ?_
            refine nmb ?_
            refine nm ?_
            refine aw_region ?_
            refine st_p (mv rfl) rfl ?_
            refine st_p (op_addi rfl rfl (by omega)) rfl ?_
            refine st_p (mva rfl) rfl ?_
            refine al_nil ?_
            refine nm ?_
            refine ⟨⟨(i + 1, r.set i ((IntKind.i64.wrap (Int.tmod x 3 + 3)).tmod 3)), by dsimp only; exact ⟨hlt, by rw [List.length_set]; exact hrl⟩⟩, by dsimp only; omega, le_to [] rfl rfl rfl rfl rfl ⟨rfl, rfl, rfl, rfl, rfl, trivial⟩ ⟨?_, trivial⟩⟩
            rw [ren_intsB, ← ints_set]
            show some (Blk.cells 1 ((ints r).set (0 + ((i : Nat) : Int).toNat) _)) = _
            rw [Nat.zero_add, Int.toNat_natCast]
          · have hip : (ints r).all AV.plain = true := by simp [AV.plain, ints]
            have hboth := law_both x0 h0 g0
            obtain ⟨hr, ho, hn⟩ := noteL_ok x0
            generalize noteL x0 = L at hr ho hn hboth
            have hnl := nts_len L
            obtain ⟨K, hK, hK1, hK3⟩ : ∃ K : Nat, IntKind.i64.wrap (1 + IntKind.i64.wrap (x3.tmod 3)) = (K : Int) ∧ 1 ≤ K ∧ K ≤ 3 := by
              obtain ⟨k, hk, hk3⟩ := u8_rem (m := 3) g3 (by decide) (by decide)
              refine ⟨1 + k, ?_, by omega, by omega⟩
              rw [show IntKind.i64.wrap (x3.tmod 3) = (k : Int) from hk, wrap_i64 (by omega) (by omega)]
              omega
            have hm0 := pk_Made x1
            have ht0 := pk_Txn x1 0 3 (by omega) (by omega) (by omega)
            obtain ⟨hr0, hw0⟩ := pkTx_len x1 0 3
            obtain ⟨hk1, hk2⟩ := pkTx_keym x1 0 3
            generalize (pkTx x1 0 3).2 = n0 at ht0
            generalize (pkTx x1 0 3).1 = t at ht0 hr0 hw0 hk1 hk2
            have hkr : ∀ r ∈ t.reads, r.key.length ≤ 281474976710656 := fun r hr => by have := hk1 r hr; omega
            have hOf := fun p : Int => bits_Of L p 1 (by omega) hr
            have hNo := fun p : Int => ref_NoteOf L p 1 (by omega)
            have hRow := fun p : Int => bits_Row L p K (by omega) hr (by omega)
            have hRef := fun p : Int => ref_Row L p K (by omega) (by omega)
            have hVer := fun row : List Int => bits_Verdict t (K : Int) row (by omega) (by omega) hkr (by omega) (by omega)
            have hVrf := fun (row : List Int) (h : row.length ≤ 100000) => ref_Verdict t K row hK1 (by omega) (by omega) hkr h
            have hMis := fun row : List Int => bits_Missing t (K : Int) row (by omega) (by omega) hkr (by omega) (by omega)
            have hMiN := fun row : List Int => bits_Missing_no t (K : Int) row (by omega) (by omega) hkr (by omega) (by omega)
            have hRms := fun (row : List Int) (h : row.length ≤ 100000) => ref_Missing t K row hK1 (by omega) (by omega) hkr h
            have hRmN := fun (row : List Int) (h : row.length ≤ 100000) => ref_Missing_no t K row hK1 (by omega) (by omega) hkr h
            have hRL := readsL_le (t.reads.map RD.key) (K : Int)
            rw [List.length_map] at hRL
            generalize readsL (t.reads.map RD.key) (K : Int) = RL at hVer hMis hMiN hVrf hRms hRmN hRL
            have hsn := same_nils
            obtain ⟨ses, seq, rl, wl⟩ := t
            dsimp only [txA] at ht0 hVer hMis hMiN hVrf hRms hRmN hRL hr0 hw0
            refine aw_seq ?_
            refine aw_seq ?_
            refine aw_region ?_
            refine st_p (mv rfl) rfl ?_
            refine st_p (mv rfl) rfl ?_
            refine st_p (op_leno Try.underlying35 rfl) rfl ?_
            refine st_p (OpP.conv (op_lt rfl rfl) (no (by first | assumption | omega))) rfl ?_
            refine al_nil ?_
            refine nm ?_
            -- IF t38
            refine aw_no (rfl) ?_
            refine aw_exit ?_
            refine xs ?_
            refine xs ?_
            refine xb ?_
            refine nm ?_
            refine aw_seq ?_
            refine aw_frz 0 (xs := ints r) rfl (by first | rfl | assumption | simp [AV.plain, plains, bl_plain, sb]) rfl ?_
            dsimp only [frzS, hdel, List.map_cons, List.map_nil, AV.frz, frzs, Blk.frz, ↓reduceIte, Nat.reduceEqDiff, reduceCtorEq]
            refine aw_le (st' := ⟨[(0, .sl 3 (x0.map triA)), (1, .sl 1 (bl x1)), (2, .sl 1 (ints r)), (3, .int .u8 x3)], [], 0⟩) (le_to [] rfl rfl rfl rfl rfl ⟨rfl, rfl, ?_, rfl, trivial⟩ trivial) ?_
            · simp [tget, AV.ren, AV.frz]
              rw [if_pos (by omega), List.take_of_length_le (by omega)]
            refine aw_region ?_
            refine st_p (mv rfl) rfl ?_
            -- STOP: call diwan/diwanlaw21.both(t52) -> 53
            refine st_o (op_callg [] 0 true [] [] (hboth) Try.func25 ⟨rfl, rfl⟩ rfl rfl rfl rfl (by omega) (by intro p hp; cases hp) rfl (.cons (.same (by rfl)) .nil) rfl rfl rfl) rfl ?_
            refine st_p (mv rfl) rfl ?_
            refine st_p (op_extract rfl rfl) rfl ?_
            refine st_p (op_extract rfl rfl) rfl ?_
            refine st_p (mva rfl) rfl ?_
            refine st_p (mva rfl) rfl ?_
            refine al_nil ?_
            refine nm ?_
            refine aw_seq ?_
            refine aw_seq ?_
            refine aw_region ?_
            refine st_p (mv rfl) rfl ?_
            refine st_p (op_len Try.underlying44 rfl) rfl ?_
            refine st_p (mv rfl) rfl ?_
            refine st_p (op_len Try.underlying45 rfl) rfl ?_
            refine st_p (OpP.conv (op_ne rfl rfl) (no (by first | assumption | omega))) rfl ?_
            refine al_nil ?_
            refine nm ?_
            -- IF t60
            refine aw_no (rfl) ?_
            refine aw_skip ?_
            refine nm ?_
            refine aw_seq ?_
            refine aw_seq ?_
            refine aw_region ?_
            refine st_p (mva rfl) rfl ?_
            refine al_nil ?_
            refine nm ?_
            refine aw_block ?_
            -- LOOP
            refine aw_loop (fun i : {i : Nat // i ≤ L.length} => ⟨[(1, .sl 1 (bl x1)), (2, .sl 1 (ints r)), (3, .int .u8 x3), (10, .sl 3 (nts L)), (11, .sl 3 (nts L)), (12, .int .i64 i.1)], [], 0⟩) (fun i => L.length - i.1) ⟨0, Nat.zero_le _⟩ ?_ ?_
            · exact le_to [] rfl rfl rfl rfl rfl ⟨rfl, rfl, rfl, rfl, rfl, rfl, trivial⟩ trivial
            · rintro ⟨q, hq⟩
              dsimp only
              by_cases hql : q < L.length
              · obtain ⟨x, hx⟩ : ∃ x, L[q]? = some x := ⟨_, List.getElem?_eq_getElem hql⟩
                have hxb : (nts L)[((q : Nat) : Int).toNat]? = some (.agg [.int .i64 x.pos, .int .i64 x.shard, .int .i64 x.bit]) := by rw [Int.toNat_natCast]; exact nts_get hx
                refine aw_seq ?_
                refine aw_seq ?_
                refine aw_region ?_
                refine st_p (mv rfl) rfl ?_
                refine st_p (mv rfl) rfl ?_
                refine st_p (op_len Try.underlying45 rfl) rfl ?_
                refine st_p (OpP.conv (op_lt rfl rfl) (yes (by first | assumption | omega))) rfl ?_
                refine al_nil ?_
                refine nm ?_
                -- IF t64
                refine aw_yes (rfl) ?_
                refine aw_skip ?_
                refine nm ?_
                refine aw_seq ?_
                refine aw_block ?_
                refine aw_seq ?_
                refine dr_go ?_
                refine dr_f 0 0 [10] rfl (fun H => mv rfl) ?_
                refine dr_f 0 0 [12] rfl (fun H => mv rfl) ?_
                refine dr_q 0 0 [67, 68] rfl (op_indexAddrL Try.underlying44 z49 rfl rfl (by omega) (by first | assumption | rfl)) ?_
                refine dr_f 0 0 [69] rfl (fun H => op_fieldAddrL Try.underlying49 rfl z3 (by decide) rfl) ?_
                refine dr_q 0 0 [70] rfl (op_load1L Try.underlying3 rfl rfl rfl) ?_
                refine dr_f 0 0 [11] rfl (fun H => mv rfl) ?_
                refine dr_f 0 0 [12] rfl (fun H => mv rfl) ?_
                refine dr_q 0 0 [72, 73] rfl (op_indexAddrL Try.underlying45 z50 rfl rfl (by omega) (by first | assumption | rfl)) ?_
                refine dr_f 0 0 [74] rfl (fun H => op_fieldAddrL Try.underlying50 rfl z3 (by decide) rfl) ?_
                refine dr_q 0 0 [75] rfl (op_load1L Try.underlying3 rfl rfl rfl) ?_
                refine dr_f 0 0 [71, 76] rfl (fun H => OpP.conv (op_ne rfl rfl) (no (by first | assumption | omega))) ?_
                refine dr_f 0 0 [77] rfl (fun H => mv rfl) ?_
                refine dr_gf 0 0 [10] rfl (fun H => mv rfl) 0 rfl rfl ?_
                refine dr_gf 0 0 [12] rfl (fun H => mv rfl) 1 rfl rfl ?_
                refine dr_gq 0 0 [79, 80] rfl (op_indexAddrL Try.underlying44 z49 rfl rfl (by omega) (by first | assumption | rfl)) 2 rfl rfl ?_
                refine dr_gf 0 0 [81] rfl (fun H => op_fieldAddrL Try.underlying49 rfl z3 (by decide) rfl) 3 rfl rfl ?_
                refine dr_gq 0 0 [82] rfl (op_load1L Try.underlying3 rfl rfl rfl) 4 rfl rfl ?_
                refine dr_gf 0 0 [11] rfl (fun H => mv rfl) 5 rfl rfl ?_
                refine dr_gf 0 0 [12] rfl (fun H => mv rfl) 6 rfl rfl ?_
                refine dr_gq 0 0 [84, 85] rfl (op_indexAddrL Try.underlying45 z50 rfl rfl (by omega) (by first | assumption | rfl)) 7 rfl rfl ?_
                refine dr_gf 0 0 [86] rfl (fun H => op_fieldAddrL Try.underlying50 rfl z3 (by decide) rfl) 8 rfl rfl ?_
                refine dr_gq 0 0 [87] rfl (op_load1L Try.underlying3 rfl rfl rfl) 9 rfl rfl ?_
                refine dr_gf 0 0 [83, 88] rfl (fun H => OpP.conv (op_ne rfl rfl) (no (by first | assumption | omega))) 10 rfl rfl ?_
                refine dr_f 0 0 [78, 89] rfl (fun H => pkF rfl rfl) ?_
                refine dr_f 0 0 [90] rfl (fun H => mv rfl) ?_
                refine dr_gf 0 0 [10] rfl (fun H => mv rfl) 0 rfl rfl ?_
                refine dr_gf 0 0 [12] rfl (fun H => mv rfl) 1 rfl rfl ?_
                refine dr_gq 0 0 [92, 93] rfl (op_indexAddrL Try.underlying44 z49 rfl rfl (by omega) (by first | assumption | rfl)) 2 rfl rfl ?_
                refine dr_gf 0 0 [94] rfl (fun H => op_fieldAddrL Try.underlying49 rfl z3 (by decide) rfl) 3 rfl rfl ?_
                refine dr_gq 0 0 [95] rfl (op_load1L Try.underlying3 rfl rfl rfl) 4 rfl rfl ?_
                refine dr_gf 0 0 [11] rfl (fun H => mv rfl) 5 rfl rfl ?_
                refine dr_gf 0 0 [12] rfl (fun H => mv rfl) 6 rfl rfl ?_
                refine dr_gq 0 0 [97, 98] rfl (op_indexAddrL Try.underlying45 z50 rfl rfl (by omega) (by first | assumption | rfl)) 7 rfl rfl ?_
                refine dr_gf 0 0 [99] rfl (fun H => op_fieldAddrL Try.underlying50 rfl z3 (by decide) rfl) 8 rfl rfl ?_
                refine dr_gq 0 0 [100] rfl (op_load1L Try.underlying3 rfl rfl rfl) 9 rfl rfl ?_
                refine dr_gf 0 0 [96, 101] rfl (fun H => OpP.conv (op_ne rfl rfl) (no (by first | assumption | omega))) 10 rfl rfl ?_
                refine dr_f 0 0 [91, 102] rfl (fun H => pkF rfl rfl) ?_
                refine dr_end [] (by kernel_rfl) (by kernel_rfl) (by kernel_rfl) (by kernel_rfl) trivial ?_
                refine nm ?_
                -- IF t103
                refine aw_no (rfl) ?_
                refine aw_skip ?_
                refine nmb ?_
                refine nm ?_
                refine aw_region ?_
                refine st_p (mv rfl) rfl ?_
                refine st_p (op_addi rfl rfl (by omega)) rfl ?_
                refine st_p (mva rfl) rfl ?_
                refine al_nil ?_
                refine nm ?_
                exact ⟨⟨q + 1, hql⟩, by dsimp only; omega, le_to [] rfl rfl rfl rfl rfl ⟨rfl, rfl, rfl, rfl, rfl, rfl, trivial⟩ trivial⟩
              · skip
                refine aw_seq ?_
                refine aw_seq ?_
                refine aw_region ?_
                refine st_p (mv rfl) rfl ?_
                refine st_p (mv rfl) rfl ?_
                refine st_p (op_len Try.underlying45 rfl) rfl ?_
                refine st_p (OpP.conv (op_lt rfl rfl) (no (by first | assumption | omega))) rfl ?_
                refine al_nil ?_
                refine nm ?_
                -- IF t64
                refine aw_no (rfl) ?_
                refine aw_exit ?_
                refine xs ?_
                refine xs ?_
                refine xb ?_
                refine nm ?_
                refine aw_seq ?_
                refine aw_region ?_
                refine st_p (mv rfl) rfl ?_
                -- STOP: call diwan/diwanplay.Made(t104) -> 105
                refine st_o (op_callg [] 0 true [] [] (hm0) Try.func8 ⟨rfl, rfl⟩ rfl rfl rfl rfl (by omega) (by intro p hp; cases hp) rfl (.cons (.same (by rfl)) .nil) rfl rfl rfl) rfl ?_
                -- STOP: call (*diwan/diwanplay.Picks).Txn(t105, ('app', 'Operand.const', [('app', 'Value.int', ['IntKind.i64', 3])])) -> 106
                refine st_o (op_callg [(0, 0)] 1 true [(0, pkB x1 0)] [0] (ht0) Try.func9 ⟨rfl, rfl⟩ rfl rfl rfl rfl (by omega) (by intro p hp; simp only [List.mem_cons, List.not_mem_nil, or_false] at hp; rcases hp with rfl <;> exact ⟨by first | rfl | ((simp [hget, swp, Blk.ren, AV.ren, ints, Function.comp_def]) <;> rfl), rfl⟩) rfl (.cons (.same (by rfl)) (.cons (.same (by rfl)) .nil)) rfl rfl rfl) rfl ?_
                refine st_o (op_alloc a26 rfl rfl) rfl ?_
                refine st_n (stA z26 rfl rfl rfl rfl rfl rfl rfl rfl rfl rfl) ?_
                refine al_nil ?_
                refine nm ?_
                refine aw_seq ?_
                refine aw_region ?_
                refine st_p (mv rfl) rfl ?_
                refine st_p (op_rem rfl rfl (by omega)) rfl ?_
                refine st_p (op_conv (by rw [Try.underlying5]; rfl) Try.underlying3 rfl) rfl ?_
                refine st_p (op_add rfl rfl) rfl ?_
                refine st_p (mva rfl) rfl ?_
                refine al_nil ?_
                refine nm ?_
                refine aw_seq ?_
                refine aw_seq ?_
                refine aw_region ?_
                refine st_p (mva rfl) rfl ?_
                refine al_nil ?_
                refine nm ?_
                refine aw_block ?_
                -- LOOP
                refine aw_loop (fun p : {p : Nat // p ≤ 10} => ⟨[(2, .sl 1 (ints r)), (10, .sl 3 (nts L)), (11, .sl 3 (nts L)), (13, .ptr 0 0 0), (14, .int .i64 K), (15, .int .i64 p.1)], [(0, .cells 4 [.agg [.int .i64 ses, .int .i64 seq, .sl 4 (rl.map rdA), .sl 3 (wl.map wrA)]])], 1⟩) (fun p => 10 - p.1) ⟨0, Nat.zero_le _⟩ ?_ ?_
                · exact le_to [(0, 2)] rfl rfl rfl rfl rfl ⟨rfl, rfl, rfl, rfl, congrArg (AV.int .i64) hK, rfl, trivial⟩ ⟨rfl, trivial⟩
                · rintro ⟨p, hp⟩
                  dsimp only
                  by_cases hpl : p < 10
                  · have hrowp := hRow (p : Nat)
                    have hrefp := hRef (p : Nat)
                    have hof := hOf (p : Nat)
                    have hno := hNo (p : Nat)
                    have hrl : K = (ints (rowN L (p : Nat) K)).length := by rw [ints_len, rowN_len]
                    have hrl2 := rowN_len L (p : Nat) K
                    generalize rowN L (p : Nat) K = row at hrowp hrefp hrl hrl2
                    have hrp : (ints row).all AV.plain = true := by simp [AV.plain, ints]
                    have hsame := ref_SameInts row (by omega)
                    have hV := hVer row
                    have hVr := hVrf row (by omega)
                    have hM0 := hMis row
                    have hM1 := hMiN row
                    have hR0 := hRms row (by omega)
                    have hR1 := hRmN row (by omega)
                    have hml := ints_len (missI row RL)
                    have hMl : (missI row RL).length ≤ 1000 := by
                      unfold missI
                      split
                      · exact Nat.le_trans (List.length_filter_le _ _) (by omega)
                      · exact Nat.zero_le _
                    have hmp : (ints (missI row RL)).all AV.plain = true := by simp [AV.plain, ints]
                    have hsm := ref_SameInts (missI row RL) (by omega)
                    generalize missI row RL = M at hM0 hR0 hml hmp hsm
                    generalize verdI row RL = V at hV hVr hM0 hM1 hR0 hR1
                    by_cases hz : V = 0
                    · subst hz
                      have hM := hM0 rfl
                      have hRm := hR0 rfl
                      refine aw_seq ?_
                      refine aw_seq ?_
                      refine aw_region ?_
                      refine st_p (mv rfl) rfl ?_
                      refine st_p (OpP.conv (op_lt rfl rfl) (yes (by first | assumption | omega))) rfl ?_
                      refine al_nil ?_
                      refine nm ?_
                      -- IF t112
                      refine aw_yes (rfl) ?_
                      refine aw_skip ?_
                      refine nm ?_
                      refine aw_seq ?_
                      refine aw_block ?_
                      refine aw_seq ?_
                      refine aw_region ?_
                      refine st_p (mv rfl) rfl ?_
                      refine st_p (mv rfl) rfl ?_
                      refine st_p (mv rfl) rfl ?_
                      -- STOP: call diwan/diwanref13.Row(t115, t116, t117) -> 118
                      refine st_o ((op_callq (hrefp) Try.func26 ⟨rfl, rfl⟩ rfl rfl (fun nx => (.cons (.same (by rfl)) (.cons (.same (by rfl)) (.cons (.same (by rfl)) .nil)))) (by rintro _ _ _ ⟨rfl, rfl, rfl⟩; exact (.whole rfl hrl hrp))).ok) rfl ?_
                      refine st_p (mva rfl) rfl ?_
                      refine al_nil ?_
                      refine nm ?_
                      refine aw_seq ?_
                      refine dr_go ?_
                      refine dr_f 0 0 [10] rfl (fun H => mv rfl) ?_
                      refine dr_f 0 0 [15] rfl (fun H => mv rfl) ?_
                      refine dr_f 0 0 [14] rfl (fun H => mv rfl) ?_
                      -- STOP: call diwan/bits.Row(t119, t120, t121) -> 122
                      refine dr_fq 0 0 [119, 120, 121] rfl (fun H => op_callq (hrowp) Try.func28 ⟨rfl, rfl⟩ rfl rfl (fun nx => (.cons (.same (by rfl)) (.cons (.same (by rfl)) (.cons (.same (by rfl)) .nil)))) (by rintro _ _ _ ⟨rfl, rfl, rfl⟩; exact (.whole rfl hrl hrp))) ?_
                      refine dr_f 0 0 [16] rfl (fun H => mv rfl) ?_
                      -- STOP: call diwan/diwanref13.SameInts(t122, t123) -> 124
                      refine dr_fq 0 0 [122, 123] rfl (fun H => op_callq (hsame) Try.func27 ⟨rfl, rfl⟩ rfl rfl (fun nx => (.cons (.same (by rfl)) (.cons (.same (by rfl)) .nil))) (by rintro _ _ _ ⟨rfl, rfl, rfl⟩; exact .same rfl)) ?_
                      refine dr_f 0 0 [124] rfl (fun H => op_notT rfl) ?_
                      refine dr_f 0 0 [125] rfl (fun H => mv rfl) ?_
                      refine dr_gf 0 0 [10] rfl (fun H => mv rfl) 0 rfl rfl ?_
                      refine dr_gf 0 0 [15] rfl (fun H => mv rfl) 1 rfl rfl ?_
                      -- STOP: call diwan/bits.Of(t127, t128, ('app', 'Operand.const', [('app', 'Value.int', ['IntKind.i64', 1])])) -> 129
                      refine dr_gfq 0 0 [127, 128] rfl (fun H => op_callq (hof) Try.func29 ⟨rfl, rfl⟩ rfl rfl (fun nx => (.cons (.same (by rfl)) (.cons (.same (by rfl)) (.cons (.same (by rfl)) .nil)))) (by rintro _ _ _ ⟨rfl, rfl, rfl⟩; exact .same rfl)) 2 rfl rfl ?_
                      refine dr_gf 0 0 [11] rfl (fun H => mv rfl) 3 rfl rfl ?_
                      refine dr_gf 0 0 [15] rfl (fun H => mv rfl) 4 rfl rfl ?_
                      -- STOP: call diwan/diwanref13.NoteOf(t130, t131, ('app', 'Operand.const', [('app', 'Value.int', ['IntKind.i64', 1])])) -> 132
                      refine dr_gfq 0 0 [130, 131] rfl (fun H => op_callq (hno) Try.func30 ⟨rfl, rfl⟩ rfl rfl (fun nx => (.cons (.same (by rfl)) (.cons (.same (by rfl)) (.cons (.same (by rfl)) .nil)))) (by rintro _ _ _ ⟨rfl, rfl, rfl⟩; exact .same rfl)) 5 rfl rfl ?_
                      refine dr_gf 0 0 [129, 132] rfl (fun H => OpP.conv (op_ne rfl rfl) (no (by first | assumption | omega))) 6 rfl rfl ?_
                      refine dr_f 0 0 [126, 133] rfl (fun H => pkF rfl rfl) ?_
                      refine dr_f 0 0 [134] rfl (fun H => mv rfl) ?_
                      refine dr_gq 0 0 [13] rfl (op_loadA Try.underlying26 rfl z26 rfl rfl rfl rfl) 0 rfl rfl ?_
                      refine dr_gf 0 0 [14] rfl (fun H => mv rfl) 1 rfl rfl ?_
                      refine dr_gf 0 0 [16] rfl (fun H => mv rfl) 2 rfl rfl ?_
                      -- STOP: call diwan/bits.Verdict(t136, t137, t138) -> 139
                      refine dr_gfq 0 0 [136, 137, 138] rfl (fun H => op_callq (hV) Try.func31 ⟨rfl, rfl⟩ rfl rfl (fun nx => (.cons (.same (by rfl)) (.cons (.same (by rfl)) (.cons (.same (by rfl)) .nil)))) (by rintro _ _ _ ⟨rfl, rfl, rfl⟩; exact .same rfl)) 3 rfl rfl ?_
                      refine dr_gq 0 0 [13] rfl (op_loadA Try.underlying26 rfl z26 rfl rfl rfl rfl) 4 rfl rfl ?_
                      refine dr_gf 0 0 [14] rfl (fun H => mv rfl) 5 rfl rfl ?_
                      refine dr_gf 0 0 [16] rfl (fun H => mv rfl) 6 rfl rfl ?_
                      -- STOP: call diwan/diwanref13.Verdict(t140, t141, t142) -> 143
                      refine dr_gfq 0 0 [140, 141, 142] rfl (fun H => op_callq (hVr) Try.func32 ⟨rfl, rfl⟩ rfl rfl (fun nx => (.cons (.same (by rfl)) (.cons (.same (by rfl)) (.cons (.same (by rfl)) .nil)))) (by rintro _ _ _ ⟨rfl, rfl, rfl⟩; exact .same rfl)) 7 rfl rfl ?_
                      refine dr_gf 0 0 [139, 143] rfl (fun H => OpP.conv (op_ne rfl rfl) (no (by first | assumption | omega))) 8 rfl rfl ?_
                      refine dr_f 0 0 [135, 144] rfl (fun H => pkF rfl rfl) ?_
                      refine dr_f 0 0 [145] rfl (fun H => mv rfl) ?_
                      refine dr_gq 0 0 [13] rfl (op_loadA Try.underlying26 rfl z26 rfl rfl rfl rfl) 0 rfl rfl ?_
                      refine dr_gf 0 0 [14] rfl (fun H => mv rfl) 1 rfl rfl ?_
                      refine dr_gf 0 0 [16] rfl (fun H => mv rfl) 2 rfl rfl ?_
                      -- STOP: call diwan/bits.Missing(t147, t148, t149) -> 150
                      refine dr_gfq 0 0 [147, 148, 149] rfl (fun H => op_callq (hM) Try.func33 ⟨rfl, rfl⟩ rfl rfl (fun nx => (.cons (.same (by rfl)) (.cons (.same (by rfl)) (.cons (.same (by rfl)) .nil)))) (by rintro _ _ _ ⟨rfl, rfl, rfl⟩; exact (.whole rfl hml.symm hmp))) 3 rfl rfl ?_
                      refine dr_gq 0 0 [13] rfl (op_loadA Try.underlying26 rfl z26 rfl rfl rfl rfl) 4 rfl rfl ?_
                      refine dr_gf 0 0 [14] rfl (fun H => mv rfl) 5 rfl rfl ?_
                      refine dr_gf 0 0 [16] rfl (fun H => mv rfl) 6 rfl rfl ?_
                      -- STOP: call diwan/diwanref13.Missing(t151, t152, t153) -> 154
                      refine dr_gfq 0 0 [151, 152, 153] rfl (fun H => op_callq (hRm) Try.func34 ⟨rfl, rfl⟩ rfl rfl (fun nx => (.cons (.same (by rfl)) (.cons (.same (by rfl)) (.cons (.same (by rfl)) .nil)))) (by rintro _ _ _ ⟨rfl, rfl, rfl⟩; exact (.whole rfl hml.symm hmp))) 7 rfl rfl ?_
                      -- STOP: call diwan/diwanref13.SameInts(t150, t154) -> 155
                      refine dr_gfq 0 0 [150, 154] rfl (fun H => op_callq (hsm) Try.func27 ⟨rfl, rfl⟩ rfl rfl (fun nx => (.cons (.same (by rfl)) (.cons (.same (by rfl)) .nil))) (by rintro _ _ _ ⟨rfl, rfl, rfl⟩; exact .same rfl)) 8 rfl rfl ?_
                      refine dr_gf 0 0 [155] rfl (fun H => op_notT rfl) 9 rfl rfl ?_
                      refine dr_f 0 0 [146, 156] rfl (fun H => pkF rfl rfl) ?_
                      refine dr_end [] (by kernel_rfl) (by kernel_rfl) (by kernel_rfl) (by kernel_rfl) trivial ?_
                      refine nm ?_
                      -- IF t157
                      refine aw_no (rfl) ?_
                      refine aw_skip ?_
                      refine nmb ?_
                      refine nm ?_
                      refine aw_region ?_
                      refine st_p (mv rfl) rfl ?_
                      refine st_p (op_addi rfl rfl (by omega)) rfl ?_
                      refine st_p (mva rfl) rfl ?_
                      refine al_nil ?_
                      refine nm ?_
                      exact ⟨⟨p + 1, hpl⟩, by dsimp only; omega, le_to [] rfl rfl rfl rfl rfl ⟨rfl, rfl, rfl, rfl, rfl, rfl, trivial⟩ ⟨rfl, trivial⟩⟩
                    · have hM := hM1 hz
                      have hRm := hR1 hz
                      refine aw_seq ?_
                      refine aw_seq ?_
                      refine aw_region ?_
                      refine st_p (mv rfl) rfl ?_
                      refine st_p (OpP.conv (op_lt rfl rfl) (yes (by first | assumption | omega))) rfl ?_
                      refine al_nil ?_
                      refine nm ?_
                      -- IF t112
                      refine aw_yes (rfl) ?_
                      refine aw_skip ?_
                      refine nm ?_
                      refine aw_seq ?_
                      refine aw_block ?_
                      refine aw_seq ?_
                      refine aw_region ?_
                      refine st_p (mv rfl) rfl ?_
                      refine st_p (mv rfl) rfl ?_
                      refine st_p (mv rfl) rfl ?_
                      -- STOP: call diwan/diwanref13.Row(t115, t116, t117) -> 118
                      refine st_o ((op_callq (hrefp) Try.func26 ⟨rfl, rfl⟩ rfl rfl (fun nx => (.cons (.same (by rfl)) (.cons (.same (by rfl)) (.cons (.same (by rfl)) .nil)))) (by rintro _ _ _ ⟨rfl, rfl, rfl⟩; exact (.whole rfl hrl hrp))).ok) rfl ?_
                      refine st_p (mva rfl) rfl ?_
                      refine al_nil ?_
                      refine nm ?_
                      refine aw_seq ?_
                      refine dr_go ?_
                      refine dr_f 0 0 [10] rfl (fun H => mv rfl) ?_
                      refine dr_f 0 0 [15] rfl (fun H => mv rfl) ?_
                      refine dr_f 0 0 [14] rfl (fun H => mv rfl) ?_
                      -- STOP: call diwan/bits.Row(t119, t120, t121) -> 122
                      refine dr_fq 0 0 [119, 120, 121] rfl (fun H => op_callq (hrowp) Try.func28 ⟨rfl, rfl⟩ rfl rfl (fun nx => (.cons (.same (by rfl)) (.cons (.same (by rfl)) (.cons (.same (by rfl)) .nil)))) (by rintro _ _ _ ⟨rfl, rfl, rfl⟩; exact (.whole rfl hrl hrp))) ?_
                      refine dr_f 0 0 [16] rfl (fun H => mv rfl) ?_
                      -- STOP: call diwan/diwanref13.SameInts(t122, t123) -> 124
                      refine dr_fq 0 0 [122, 123] rfl (fun H => op_callq (hsame) Try.func27 ⟨rfl, rfl⟩ rfl rfl (fun nx => (.cons (.same (by rfl)) (.cons (.same (by rfl)) .nil))) (by rintro _ _ _ ⟨rfl, rfl, rfl⟩; exact .same rfl)) ?_
                      refine dr_f 0 0 [124] rfl (fun H => op_notT rfl) ?_
                      refine dr_f 0 0 [125] rfl (fun H => mv rfl) ?_
                      refine dr_gf 0 0 [10] rfl (fun H => mv rfl) 0 rfl rfl ?_
                      refine dr_gf 0 0 [15] rfl (fun H => mv rfl) 1 rfl rfl ?_
                      -- STOP: call diwan/bits.Of(t127, t128, ('app', 'Operand.const', [('app', 'Value.int', ['IntKind.i64', 1])])) -> 129
                      refine dr_gfq 0 0 [127, 128] rfl (fun H => op_callq (hof) Try.func29 ⟨rfl, rfl⟩ rfl rfl (fun nx => (.cons (.same (by rfl)) (.cons (.same (by rfl)) (.cons (.same (by rfl)) .nil)))) (by rintro _ _ _ ⟨rfl, rfl, rfl⟩; exact .same rfl)) 2 rfl rfl ?_
                      refine dr_gf 0 0 [11] rfl (fun H => mv rfl) 3 rfl rfl ?_
                      refine dr_gf 0 0 [15] rfl (fun H => mv rfl) 4 rfl rfl ?_
                      -- STOP: call diwan/diwanref13.NoteOf(t130, t131, ('app', 'Operand.const', [('app', 'Value.int', ['IntKind.i64', 1])])) -> 132
                      refine dr_gfq 0 0 [130, 131] rfl (fun H => op_callq (hno) Try.func30 ⟨rfl, rfl⟩ rfl rfl (fun nx => (.cons (.same (by rfl)) (.cons (.same (by rfl)) (.cons (.same (by rfl)) .nil)))) (by rintro _ _ _ ⟨rfl, rfl, rfl⟩; exact .same rfl)) 5 rfl rfl ?_
                      refine dr_gf 0 0 [129, 132] rfl (fun H => OpP.conv (op_ne rfl rfl) (no (by first | assumption | omega))) 6 rfl rfl ?_
                      refine dr_f 0 0 [126, 133] rfl (fun H => pkF rfl rfl) ?_
                      refine dr_f 0 0 [134] rfl (fun H => mv rfl) ?_
                      refine dr_gq 0 0 [13] rfl (op_loadA Try.underlying26 rfl z26 rfl rfl rfl rfl) 0 rfl rfl ?_
                      refine dr_gf 0 0 [14] rfl (fun H => mv rfl) 1 rfl rfl ?_
                      refine dr_gf 0 0 [16] rfl (fun H => mv rfl) 2 rfl rfl ?_
                      -- STOP: call diwan/bits.Verdict(t136, t137, t138) -> 139
                      refine dr_gfq 0 0 [136, 137, 138] rfl (fun H => op_callq (hV) Try.func31 ⟨rfl, rfl⟩ rfl rfl (fun nx => (.cons (.same (by rfl)) (.cons (.same (by rfl)) (.cons (.same (by rfl)) .nil)))) (by rintro _ _ _ ⟨rfl, rfl, rfl⟩; exact .same rfl)) 3 rfl rfl ?_
                      refine dr_gq 0 0 [13] rfl (op_loadA Try.underlying26 rfl z26 rfl rfl rfl rfl) 4 rfl rfl ?_
                      refine dr_gf 0 0 [14] rfl (fun H => mv rfl) 5 rfl rfl ?_
                      refine dr_gf 0 0 [16] rfl (fun H => mv rfl) 6 rfl rfl ?_
                      -- STOP: call diwan/diwanref13.Verdict(t140, t141, t142) -> 143
                      refine dr_gfq 0 0 [140, 141, 142] rfl (fun H => op_callq (hVr) Try.func32 ⟨rfl, rfl⟩ rfl rfl (fun nx => (.cons (.same (by rfl)) (.cons (.same (by rfl)) (.cons (.same (by rfl)) .nil)))) (by rintro _ _ _ ⟨rfl, rfl, rfl⟩; exact .same rfl)) 7 rfl rfl ?_
                      refine dr_gf 0 0 [139, 143] rfl (fun H => OpP.conv (op_ne rfl rfl) (no (by first | assumption | omega))) 8 rfl rfl ?_
                      refine dr_f 0 0 [135, 144] rfl (fun H => pkF rfl rfl) ?_
                      refine dr_f 0 0 [145] rfl (fun H => mv rfl) ?_
                      refine dr_gq 0 0 [13] rfl (op_loadA Try.underlying26 rfl z26 rfl rfl rfl rfl) 0 rfl rfl ?_
                      refine dr_gf 0 0 [14] rfl (fun H => mv rfl) 1 rfl rfl ?_
                      refine dr_gf 0 0 [16] rfl (fun H => mv rfl) 2 rfl rfl ?_
                      -- STOP: call diwan/bits.Missing(t147, t148, t149) -> 150
                      refine dr_gfq 0 0 [147, 148, 149] rfl (fun H => op_callq (hM) Try.func33 ⟨rfl, rfl⟩ rfl rfl (fun nx => (.cons (.same (by rfl)) (.cons (.same (by rfl)) (.cons (.same (by rfl)) .nil)))) (by rintro _ _ _ ⟨rfl, rfl, rfl⟩; exact .same rfl)) 3 rfl rfl ?_
                      refine dr_gq 0 0 [13] rfl (op_loadA Try.underlying26 rfl z26 rfl rfl rfl rfl) 4 rfl rfl ?_
                      refine dr_gf 0 0 [14] rfl (fun H => mv rfl) 5 rfl rfl ?_
                      refine dr_gf 0 0 [16] rfl (fun H => mv rfl) 6 rfl rfl ?_
                      -- STOP: call diwan/diwanref13.Missing(t151, t152, t153) -> 154
                      refine dr_gfq 0 0 [151, 152, 153] rfl (fun H => op_callq (hRm) Try.func34 ⟨rfl, rfl⟩ rfl rfl (fun nx => (.cons (.same (by rfl)) (.cons (.same (by rfl)) (.cons (.same (by rfl)) .nil)))) (by rintro _ _ _ ⟨rfl, rfl, rfl⟩; exact .same rfl)) 7 rfl rfl ?_
                      -- STOP: call diwan/diwanref13.SameInts(t150, t154) -> 155
                      refine dr_gfq 0 0 [150, 154] rfl (fun H => op_callq (hsn) Try.func27 ⟨rfl, rfl⟩ rfl rfl (fun nx => (.cons (.same (by rfl)) (.cons (.same (by rfl)) .nil))) (by rintro _ _ _ ⟨rfl, rfl, rfl⟩; exact .same rfl)) 8 rfl rfl ?_
                      refine dr_gf 0 0 [155] rfl (fun H => op_notT rfl) 9 rfl rfl ?_
                      refine dr_f 0 0 [146, 156] rfl (fun H => pkF rfl rfl) ?_
                      refine dr_end [] (by kernel_rfl) (by kernel_rfl) (by kernel_rfl) (by kernel_rfl) trivial ?_
                      refine nm ?_
                      -- IF t157
                      refine aw_no (rfl) ?_
                      refine aw_skip ?_
                      refine nmb ?_
                      refine nm ?_
                      refine aw_region ?_
                      refine st_p (mv rfl) rfl ?_
                      refine st_p (op_addi rfl rfl (by omega)) rfl ?_
                      refine st_p (mva rfl) rfl ?_
                      refine al_nil ?_
                      refine nm ?_
                      exact ⟨⟨p + 1, hpl⟩, by dsimp only; omega, le_to [] rfl rfl rfl rfl rfl ⟨rfl, rfl, rfl, rfl, rfl, rfl, trivial⟩ ⟨rfl, trivial⟩⟩
                  · skip
                    have hV := hVer r
                    have hVr := hVrf r (by omega)
                    have hM0 := hMis r
                    have hM1 := hMiN r
                    have hR0 := hRms r (by omega)
                    have hR1 := hRmN r (by omega)
                    have hml := ints_len (missI r RL)
                    have hMl : (missI r RL).length ≤ 1000 := by
                      unfold missI
                      split
                      · exact Nat.le_trans (List.length_filter_le _ _) (by omega)
                      · exact Nat.zero_le _
                    have hmp : (ints (missI r RL)).all AV.plain = true := by simp [AV.plain, ints]
                    have hsm := ref_SameInts (missI r RL) (by omega)
                    generalize missI r RL = M at hM0 hR0 hml hmp hsm
                    generalize verdI r RL = V at hV hVr hM0 hM1 hR0 hR1
                    by_cases hz : V = 0
                    · subst hz
                      have hM := hM0 rfl
                      have hRm := hR0 rfl
                      refine aw_seq ?_
                      refine aw_seq ?_
                      refine aw_region ?_
                      refine st_p (mv rfl) rfl ?_
                      refine st_p (OpP.conv (op_lt rfl rfl) (no (by first | assumption | omega))) rfl ?_
                      refine al_nil ?_
                      refine nm ?_
                      -- IF t112
                      refine aw_no (rfl) ?_
                      refine aw_exit ?_
                      refine xs ?_
                      refine xs ?_
                      refine xb ?_
                      refine nm ?_
                      refine aw_seq ?_
                      refine dr_go ?_
                      refine dr_q 0 0 [13] rfl (op_loadA Try.underlying26 rfl z26 rfl rfl rfl rfl) ?_
                      refine dr_f 0 0 [14] rfl (fun H => mv rfl) ?_
                      refine dr_f 0 0 [2] rfl (fun H => mv rfl) ?_
                      -- STOP: call diwan/bits.Verdict(t158, t159, t160) -> 161
                      refine dr_fq 0 0 [158, 159, 160] rfl (fun H => op_callq (hV) Try.func31 ⟨rfl, rfl⟩ rfl rfl (fun nx => (.cons (.same (by rfl)) (.cons (.same (by rfl)) (.cons (.same (by rfl)) .nil)))) (by rintro _ _ _ ⟨rfl, rfl, rfl⟩; exact .same rfl)) ?_
                      refine dr_q 0 0 [13] rfl (op_loadA Try.underlying26 rfl z26 rfl rfl rfl rfl) ?_
                      refine dr_f 0 0 [14] rfl (fun H => mv rfl) ?_
                      refine dr_f 0 0 [2] rfl (fun H => mv rfl) ?_
                      -- STOP: call diwan/diwanref13.Verdict(t162, t163, t164) -> 165
                      refine dr_fq 0 0 [162, 163, 164] rfl (fun H => op_callq (hVr) Try.func32 ⟨rfl, rfl⟩ rfl rfl (fun nx => (.cons (.same (by rfl)) (.cons (.same (by rfl)) (.cons (.same (by rfl)) .nil)))) (by rintro _ _ _ ⟨rfl, rfl, rfl⟩; exact .same rfl)) ?_
                      refine dr_f 0 0 [161, 165] rfl (fun H => OpP.conv (op_eq rfl rfl) (yes (by first | assumption | omega))) ?_
                      refine dr_f 0 0 [166] rfl (fun H => mv rfl) ?_
                      refine dr_gq 0 0 [13] rfl (op_loadA Try.underlying26 rfl z26 rfl rfl rfl rfl) 0 rfl rfl ?_
                      refine dr_gf 0 0 [14] rfl (fun H => mv rfl) 1 rfl rfl ?_
                      refine dr_gf 0 0 [2] rfl (fun H => mv rfl) 2 rfl rfl ?_
                      -- STOP: call diwan/bits.Missing(t168, t169, t170) -> 171
                      refine dr_gfq 0 0 [168, 169, 170] rfl (fun H => op_callq (hM) Try.func33 ⟨rfl, rfl⟩ rfl rfl (fun nx => (.cons (.same (by rfl)) (.cons (.same (by rfl)) (.cons (.same (by rfl)) .nil)))) (by rintro _ _ _ ⟨rfl, rfl, rfl⟩; exact (.whole rfl hml.symm hmp))) 3 rfl rfl ?_
                      refine dr_gq 0 0 [13] rfl (op_loadA Try.underlying26 rfl z26 rfl rfl rfl rfl) 4 rfl rfl ?_
                      refine dr_gf 0 0 [14] rfl (fun H => mv rfl) 5 rfl rfl ?_
                      refine dr_gf 0 0 [2] rfl (fun H => mv rfl) 6 rfl rfl ?_
                      -- STOP: call diwan/diwanref13.Missing(t172, t173, t174) -> 175
                      refine dr_gfq 0 0 [172, 173, 174] rfl (fun H => op_callq (hRm) Try.func34 ⟨rfl, rfl⟩ rfl rfl (fun nx => (.cons (.same (by rfl)) (.cons (.same (by rfl)) (.cons (.same (by rfl)) .nil)))) (by rintro _ _ _ ⟨rfl, rfl, rfl⟩; exact (.whole rfl hml.symm hmp))) 7 rfl rfl ?_
                      -- STOP: call diwan/diwanref13.SameInts(t171, t175) -> 176
                      refine dr_gfq 0 0 [171, 175] rfl (fun H => op_callq (hsm) Try.func27 ⟨rfl, rfl⟩ rfl rfl (fun nx => (.cons (.same (by rfl)) (.cons (.same (by rfl)) .nil))) (by rintro _ _ _ ⟨rfl, rfl, rfl⟩; exact .same rfl)) 8 rfl rfl ?_
                      refine dr_f 0 0 [167, 176] rfl (fun H => pkT rfl rfl) ?_
                      refine dr_f 0 0 [177] rfl (fun H => mva rfl) ?_
                      refine dr_end [] (by kernel_rfl) (by kernel_rfl) (by kernel_rfl) (by kernel_rfl) trivial ?_
                      refine nm ?_
                      refine aw_ret ?_
                      exact ret_a ⟨[(8, .bool true)], [], 0⟩ (le_to [] rfl rfl rfl rfl rfl ⟨rfl, trivial⟩ trivial) (res1 Try.results4) (.inr ⟨rfl, rfl⟩) rfl
                    · have hM := hM1 hz
                      have hRm := hR1 hz
                      refine aw_seq ?_
                      refine aw_seq ?_
                      refine aw_region ?_
                      refine st_p (mv rfl) rfl ?_
                      refine st_p (OpP.conv (op_lt rfl rfl) (no (by first | assumption | omega))) rfl ?_
                      refine al_nil ?_
                      refine nm ?_
                      -- IF t112
                      refine aw_no (rfl) ?_
                      refine aw_exit ?_
                      refine xs ?_
                      refine xs ?_
                      refine xb ?_
                      refine nm ?_
                      refine aw_seq ?_
                      refine dr_go ?_
                      refine dr_q 0 0 [13] rfl (op_loadA Try.underlying26 rfl z26 rfl rfl rfl rfl) ?_
                      refine dr_f 0 0 [14] rfl (fun H => mv rfl) ?_
                      refine dr_f 0 0 [2] rfl (fun H => mv rfl) ?_
                      -- STOP: call diwan/bits.Verdict(t158, t159, t160) -> 161
                      refine dr_fq 0 0 [158, 159, 160] rfl (fun H => op_callq (hV) Try.func31 ⟨rfl, rfl⟩ rfl rfl (fun nx => (.cons (.same (by rfl)) (.cons (.same (by rfl)) (.cons (.same (by rfl)) .nil)))) (by rintro _ _ _ ⟨rfl, rfl, rfl⟩; exact .same rfl)) ?_
                      refine dr_q 0 0 [13] rfl (op_loadA Try.underlying26 rfl z26 rfl rfl rfl rfl) ?_
                      refine dr_f 0 0 [14] rfl (fun H => mv rfl) ?_
                      refine dr_f 0 0 [2] rfl (fun H => mv rfl) ?_
                      -- STOP: call diwan/diwanref13.Verdict(t162, t163, t164) -> 165
                      refine dr_fq 0 0 [162, 163, 164] rfl (fun H => op_callq (hVr) Try.func32 ⟨rfl, rfl⟩ rfl rfl (fun nx => (.cons (.same (by rfl)) (.cons (.same (by rfl)) (.cons (.same (by rfl)) .nil)))) (by rintro _ _ _ ⟨rfl, rfl, rfl⟩; exact .same rfl)) ?_
                      refine dr_f 0 0 [161, 165] rfl (fun H => OpP.conv (op_eq rfl rfl) (yes (by first | assumption | omega))) ?_
                      refine dr_f 0 0 [166] rfl (fun H => mv rfl) ?_
                      refine dr_gq 0 0 [13] rfl (op_loadA Try.underlying26 rfl z26 rfl rfl rfl rfl) 0 rfl rfl ?_
                      refine dr_gf 0 0 [14] rfl (fun H => mv rfl) 1 rfl rfl ?_
                      refine dr_gf 0 0 [2] rfl (fun H => mv rfl) 2 rfl rfl ?_
                      -- STOP: call diwan/bits.Missing(t168, t169, t170) -> 171
                      refine dr_gfq 0 0 [168, 169, 170] rfl (fun H => op_callq (hM) Try.func33 ⟨rfl, rfl⟩ rfl rfl (fun nx => (.cons (.same (by rfl)) (.cons (.same (by rfl)) (.cons (.same (by rfl)) .nil)))) (by rintro _ _ _ ⟨rfl, rfl, rfl⟩; exact .same rfl)) 3 rfl rfl ?_
                      refine dr_gq 0 0 [13] rfl (op_loadA Try.underlying26 rfl z26 rfl rfl rfl rfl) 4 rfl rfl ?_
                      refine dr_gf 0 0 [14] rfl (fun H => mv rfl) 5 rfl rfl ?_
                      refine dr_gf 0 0 [2] rfl (fun H => mv rfl) 6 rfl rfl ?_
                      -- STOP: call diwan/diwanref13.Missing(t172, t173, t174) -> 175
                      refine dr_gfq 0 0 [172, 173, 174] rfl (fun H => op_callq (hRm) Try.func34 ⟨rfl, rfl⟩ rfl rfl (fun nx => (.cons (.same (by rfl)) (.cons (.same (by rfl)) (.cons (.same (by rfl)) .nil)))) (by rintro _ _ _ ⟨rfl, rfl, rfl⟩; exact .same rfl)) 7 rfl rfl ?_
                      -- STOP: call diwan/diwanref13.SameInts(t171, t175) -> 176
                      refine dr_gfq 0 0 [171, 175] rfl (fun H => op_callq (hsn) Try.func27 ⟨rfl, rfl⟩ rfl rfl (fun nx => (.cons (.same (by rfl)) (.cons (.same (by rfl)) .nil))) (by rintro _ _ _ ⟨rfl, rfl, rfl⟩; exact .same rfl)) 8 rfl rfl ?_
                      refine dr_f 0 0 [167, 176] rfl (fun H => pkT rfl rfl) ?_
                      refine dr_f 0 0 [177] rfl (fun H => mva rfl) ?_
                      refine dr_end [] (by kernel_rfl) (by kernel_rfl) (by kernel_rfl) (by kernel_rfl) trivial ?_
                      refine nm ?_
                      refine aw_ret ?_
                      exact ret_a ⟨[(8, .bool true)], [], 0⟩ (le_to [] rfl rfl rfl rfl rfl ⟨rfl, trivial⟩ trivial) (res1 Try.results4) (.inr ⟨rfl, rfl⟩) rfl
      · skip
        refine ac_fn Try.func4 rfl rfl rfl rfl (fun w0 S0 r0 => ?_)
        refine aw_seq ?_
        refine aw_region ?_
        refine st_p (mva rfl) rfl ?_
        refine al_nil ?_
        refine nm ?_
        refine aw_seq ?_
        refine aw_seq ?_
        refine aw_region ?_
        -- STOP: call diwan/diwanlaw21.begun() -> 17
        refine st_o ((op_callq (hb) Try.func24 ⟨rfl, rfl⟩ rfl rfl (fun nx => .nil) (by rintro _ _ _ ⟨rfl, rfl, rfl⟩; exact .same rfl)).ok) rfl ?_
        refine st_p (op_notT rfl) rfl ?_
        refine al_nil ?_
        refine nm ?_
        -- IF t18
        refine aw_no (rfl) ?_
        refine aw_skip ?_
        refine nm ?_
        refine aw_seq ?_
        refine aw_seq ?_
        refine aw_region ?_
        refine st_p (mv rfl) rfl ?_
        refine st_p (op_len Try.underlying43 rfl) rfl ?_
        refine st_p (OpP.conv (op_gt rfl rfl) (no (by first | assumption | omega))) rfl ?_
        refine st_p (mv rfl) rfl ?_
        refine st_pg rfl rfl rfl (mv rfl) rfl ?_
        refine st_pg rfl rfl rfl (op_len Try.underlying22 rfl) rfl ?_
        refine st_pg rfl rfl rfl (OpP.conv (op_gt rfl rfl) (no (by first | assumption | omega))) rfl ?_
        refine st_p (pkF rfl rfl) rfl ?_
        refine st_p (mv rfl) rfl ?_
        refine st_pg rfl rfl rfl (mv rfl) rfl ?_
        refine st_pg rfl rfl rfl (op_len Try.underlying35 rfl) rfl ?_
        refine st_pg rfl rfl rfl (OpP.conv (op_gt rfl rfl) (yes (by first | assumption | omega))) rfl ?_
        refine st_p (pkF rfl rfl) rfl ?_
        refine al_nil ?_
        refine nm ?_
        -- IF t31
        refine aw_yes (rfl) ?_
        refine aw_seq ?_
        refine aw_region ?_
        refine st_p (mva rfl) rfl ?_
        refine al_nil ?_
        refine nm ?_
        refine aw_ret ?_
        refine rs ?_
        exact ret_v (res1 Try.results4) (.inr ⟨rfl, rfl⟩) rfl
    · skip
      refine ac_fn Try.func4 rfl rfl rfl rfl (fun w0 S0 r0 => ?_)
      refine aw_seq ?_
      refine aw_region ?_
      refine st_p (mva rfl) rfl ?_
      refine al_nil ?_
      refine nm ?_
      refine aw_seq ?_
      refine aw_seq ?_
      refine aw_region ?_
      -- STOP: call diwan/diwanlaw21.begun() -> 17
      refine st_o ((op_callq (hb) Try.func24 ⟨rfl, rfl⟩ rfl rfl (fun nx => .nil) (by rintro _ _ _ ⟨rfl, rfl, rfl⟩; exact .same rfl)).ok) rfl ?_
      refine st_p (op_notT rfl) rfl ?_
      refine al_nil ?_
      refine nm ?_
      -- IF t18
      refine aw_no (rfl) ?_
      refine aw_skip ?_
      refine nm ?_
      refine aw_seq ?_
      refine aw_seq ?_
      refine aw_region ?_
      refine st_p (mv rfl) rfl ?_
      refine st_p (op_len Try.underlying43 rfl) rfl ?_
      refine st_p (OpP.conv (op_gt rfl rfl) (no (by first | assumption | omega))) rfl ?_
      refine st_p (mv rfl) rfl ?_
      refine st_pg rfl rfl rfl (mv rfl) rfl ?_
      refine st_pg rfl rfl rfl (op_len Try.underlying22 rfl) rfl ?_
      refine st_pg rfl rfl rfl (OpP.conv (op_gt rfl rfl) (yes (by first | assumption | omega))) rfl ?_
      refine st_p (pkF rfl rfl) rfl ?_
      refine st_p (mv rfl) rfl ?_
      refine st_s rfl rfl rfl rfl rfl ?_
      refine st_s rfl rfl rfl rfl rfl ?_
      refine st_s rfl rfl rfl rfl rfl ?_
      refine st_p (pkT rfl rfl) rfl ?_
      refine al_nil ?_
      refine nm ?_
      -- IF t31
      refine aw_yes (rfl) ?_
      refine aw_seq ?_
      refine aw_region ?_
      refine st_p (mva rfl) rfl ?_
      refine al_nil ?_
      refine nm ?_
      refine aw_ret ?_
      refine rs ?_
      exact ret_v (res1 Try.results4) (.inr ⟨rfl, rfl⟩) rfl
  · skip
    refine ac_fn Try.func4 rfl rfl rfl rfl (fun w0 S0 r0 => ?_)
    refine aw_seq ?_
    refine aw_region ?_
    refine st_p (mva rfl) rfl ?_
    refine al_nil ?_
    refine nm ?_
    refine aw_seq ?_
    refine aw_seq ?_
    refine aw_region ?_
    -- STOP: call diwan/diwanlaw21.begun() -> 17
    refine st_o ((op_callq (hb) Try.func24 ⟨rfl, rfl⟩ rfl rfl (fun nx => .nil) (by rintro _ _ _ ⟨rfl, rfl, rfl⟩; exact .same rfl)).ok) rfl ?_
    refine st_p (op_notT rfl) rfl ?_
    refine al_nil ?_
    refine nm ?_
    -- IF t18
    refine aw_no (rfl) ?_
    refine aw_skip ?_
    refine nm ?_
    refine aw_seq ?_
    refine aw_seq ?_
    refine aw_region ?_
    refine st_p (mv rfl) rfl ?_
    refine st_p (op_len Try.underlying43 rfl) rfl ?_
    refine st_p (OpP.conv (op_gt rfl rfl) (yes (by first | assumption | omega))) rfl ?_
    refine st_p (mv rfl) rfl ?_
    refine st_s rfl rfl rfl rfl rfl ?_
    refine st_s rfl rfl rfl rfl rfl ?_
    refine st_s rfl rfl rfl rfl rfl ?_
    refine st_p (pkT rfl rfl) rfl ?_
    refine st_p (mv rfl) rfl ?_
    refine st_s rfl rfl rfl rfl rfl ?_
    refine st_s rfl rfl rfl rfl rfl ?_
    refine st_s rfl rfl rfl rfl rfl ?_
    refine st_p (pkT rfl rfl) rfl ?_
    refine al_nil ?_
    refine nm ?_
    -- IF t31
    refine aw_yes (rfl) ?_
    refine aw_seq ?_
    refine aw_region ?_
    refine st_p (mva rfl) rfl ?_
    refine al_nil ?_
    refine nm ?_
    refine aw_ret ?_
    refine rs ?_
    exact ret_v (res1 Try.results4) (.inr ⟨rfl, rfl⟩) rfl

end Go.Proofs.Ytpggknkhldecaaa.Abs
end
