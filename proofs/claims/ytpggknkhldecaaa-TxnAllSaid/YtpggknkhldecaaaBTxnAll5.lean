/- Texts of this session, merged: ALawTxnAll, ALawTxnAllB. -/
import Derived.Test.YtpggknkhldecaaaBTxnAll3
import Derived.Test.YtpggknkhldecaaaBTxnAll4
set_option linter.unusedVariables false
set_option linter.unusedSimpArgs false
section
namespace Go.Proofs.Ytpggknkhldecaaa.Abs

def Fine (u : TX) : Prop := u.reads.length ≤ 8 ∧ u.writes.length ≤ 8 ∧ (∀ r ∈ u.reads, r.key.length ≤ 281474976710656 ∧ r.ver ≤ 9223372036854775807) ∧ ∀ r ∈ u.writes, r.key.length ≤ 281474976710656
def lightB (t : TX) : Bool := t.reads.all (fun r => decide (r.key.length + r.val.length ≤ 60)) && (t.writes.all (fun r => decide (r.key.length + r.val.length ≤ 60)) && (decide (t.reads.length ≤ 8) && decide (t.writes.length ≤ 8)))
theorem light_fine {t : TX} (h : lightB t = true) (hv : ∀ r ∈ t.reads, r.ver ≤ 9223372036854775807) : Fine t := by
 unfold lightB at h
 simp only [Bool.and_eq_true, decide_eq_true_eq, List.all_eq_true] at h
 obtain ⟨h1, h2, h3, h4⟩ := h
 exact ⟨h3, h4, fun r hr => ⟨by have := h1 r hr; omega, hv r hr⟩, fun r hr => by have := h2 r hr; omega⟩
theorem made_fine (l : List UInt8) : Fine (pkTx l 0 9).1 := by
 have h := pkTx_may l 0 9
 obtain ⟨k1, k2⟩ := pkTx_len l 0 9
 unfold mayTxB at h
 simp only [Bool.and_eq_true, decide_eq_true_eq] at h
 obtain ⟨_, _, _, _, _, h6, _, h8, _, _⟩ := h
 exact ⟨by omega, by omega, fun r hr => ⟨by have := (mayB_len (rising_key h6 _ (List.mem_map_of_mem hr))).2; omega, by have := pkTx_ver l 0 9 (by omega) r hr; omega⟩, fun r hr => by have := (mayB_len (rising_key h8 _ (List.mem_map_of_mem hr))).2; omega⟩

theorem adjL_len8 : ∀ (l : List Int), (adjL l).length ≤ l.length
 | [] => Nat.le_refl _
 | [a] => Nat.le_refl _
 | a :: b :: t => by
  have ih := adjL_len8 (b :: t)
  simp only [adjL]
  split
  ·simp only [List.length_cons] at ih ⊢; omega
  ·simp only [List.length_cons] at ih ⊢; omega
theorem readsL_len8 (ks : List (List UInt8)) (n : Int) : (readsL ks n).length ≤ ks.length := by
 have := adjL_len8 (sortL (shardsL ks n) ((shardsL ks n).length - 1))
 rw [sortL_len, shardsL_len] at this
 unfold readsL
 rw [shardsL_len]
 exact this

set_option maxRecDepth 100000 in
set_option maxHeartbeats 16000000 in
theorem txnAll_of (x0 : List UInt8) (t : TX) (x2 x3 : Int) (x4 : List UInt8) (q0 : x0.length ≤ 281474976710656) (q4 : x4.length ≤ 281474976710656) (hv : ∀ r ∈ t.reads, r.ver ≤ 9223372036854775807)
  (hr : t.reads.length ≤ 281474976710656) (hw : t.writes.length ≤ 281474976710656) (hkr : ∀ r ∈ t.reads, r.key.length ≤ 281474976710656 ∧ r.val.length ≤ 281474976710656) (hkw : ∀ r ∈ t.writes, r.key.length ≤ 281474976710656 ∧ r.val.length ≤ 281474976710656) :
  AC Try.prog 3 [.sl 1 (bl x0), txA t, .int .i64 x2, .int .i64 x3, .sl 1 (bl x4)] [] 0 false (fun r _ _ => r = .bool true) := by
 have hb := law_begunW
 have hbl0 := bl_len x0
 have hbl4 := bl_len x4
 have hli := light_tx t hr hw hkr hkw
 rw [show (t.reads.all (fun r => decide (r.key.length + r.val.length ≤ 60)) && (t.writes.all (fun r => decide (r.key.length + r.val.length ≤ 60)) && (decide (t.reads.length ≤ 8) && decide (t.writes.length ≤ 8)))) = lightB t from rfl] at hli
 dsimp only [txA] at hli ⊢
 by_cases h0 : x0.length ≤ 30
 ·cases hlb : lightB t with
  | false =>
   rw [hlb] at hli
   refine ac_fn Try.func3 rfl rfl rfl rfl (fun w0 S0 r0 => ?_)
   refine aw_seq ?_
   refine aw_region ?_
   refine st_o (bx rfl rfl) rfl ?_
   refine st_p (mva rfl) rfl ?_
   refine al_nil ?_
   refine nm ?_
   refine aw_seq ?_
   refine aw_seq ?_
   refine aw_region ?_
   refine st_o ((op_callq (hb) Try.func6 ⟨rfl, rfl⟩ rfl rfl (fun nx => .nil) (by rintro _ _ _ ⟨rfl, rfl, rfl⟩; exact .same rfl)).ok) rfl ?_
   refine st_p (op_notT rfl) rfl ?_
   refine al_nil ?_
   refine nm ?_
   refine aw_no (rfl) ?_
   refine aw_skip ?_
   refine nm ?_
   refine aw_seq ?_
   refine aw_seq ?_
   refine aw_region ?_
   refine st_p (mv rfl) rfl ?_
   refine st_p (op_len Try.underlying22 rfl) rfl ?_
   refine st_p (OpP.conv (op_gt rfl rfl) (no (by first | assumption | omega))) rfl ?_
   refine st_p (mv rfl) rfl ?_
   refine st_pg rfl rfl rfl (op_loadA Try.underlying26 rfl z26 rfl rfl rfl rfl) rfl ?_
   refine st_og rfl rfl rfl ((op_callq (hli) Try.func7 ⟨rfl, rfl⟩ rfl rfl (fun nx => (.cons (.same (by rfl)) .nil)) (by rintro _ _ _ ⟨rfl, rfl, rfl⟩; exact .same rfl)).ok) rfl ?_
   refine st_pg rfl rfl rfl (op_notF rfl) rfl ?_
   refine st_p (pkF rfl rfl) rfl ?_
   refine st_p (mv rfl) rfl ?_
   refine st_s rfl rfl rfl rfl rfl ?_
   refine st_s rfl rfl rfl rfl rfl ?_
   refine st_s rfl rfl rfl rfl rfl ?_
   refine st_p (pkT rfl rfl) rfl ?_
   refine st_p (mv rfl) rfl ?_
   refine st_s rfl rfl rfl rfl rfl ?_
   refine st_s rfl rfl rfl rfl rfl ?_
   refine st_p (pkT rfl rfl) rfl ?_
   refine al_nil ?_
   refine nm ?_
   refine aw_yes (rfl) ?_
   refine aw_seq ?_
   refine aw_region ?_
   refine st_p (mva rfl) rfl ?_
   refine al_nil ?_
   refine nm ?_
   refine aw_ret ?_
   refine rs ?_
   exact ret_a ⟨[(10, .bool true)], [], 0⟩ (le_to [] rfl rfl rfl rfl rfl ⟨rfl, trivial⟩ trivial) (res1 Try.results3) (.inr ⟨rfl, rfl⟩) rfl
  | true =>
   rw [hlb] at hli
   have hF := light_fine hlb hv
   by_cases h4 : x4.length ≤ 100
   ·by_cases h3 : x3 ≤ 100
    ·have hm0 := pk_Made x0
     have ht0 := pk_Txn x0 0 9 (by omega) (by omega) (by omega)
     have hFm := made_fine x0
     generalize (pkTx x0 0 9).2 = n0 at ht0
     generalize (pkTx x0 0 9).1 = m at ht0 hFm
     dsimp only [txA] at ht0
     refine ac_fn Try.func3 rfl rfl rfl rfl (fun w0 S0 r0 => ?_)
     refine aw_seq ?_
     refine aw_region ?_
     refine st_o (bx rfl rfl) rfl ?_
     refine st_p (mva rfl) rfl ?_
     refine al_nil ?_
     refine nm ?_
     refine aw_seq ?_
     refine aw_seq ?_
     refine aw_region ?_
     refine st_o ((op_callq (hb) Try.func6 ⟨rfl, rfl⟩ rfl rfl (fun nx => .nil) (by rintro _ _ _ ⟨rfl, rfl, rfl⟩; exact .same rfl)).ok) rfl ?_
     refine st_p (op_notT rfl) rfl ?_
     refine al_nil ?_
     refine nm ?_
     refine aw_no (rfl) ?_
     refine aw_skip ?_
     refine nm ?_
     refine aw_seq ?_
     refine aw_seq ?_
     refine aw_region ?_
     refine st_p (mv rfl) rfl ?_
     refine st_p (op_len Try.underlying22 rfl) rfl ?_
     refine st_p (OpP.conv (op_gt rfl rfl) (no (by first | assumption | omega))) rfl ?_
     refine st_p (mv rfl) rfl ?_
     refine st_pg rfl rfl rfl (op_loadA Try.underlying26 rfl z26 rfl rfl rfl rfl) rfl ?_
     refine st_og rfl rfl rfl ((op_callq (hli) Try.func7 ⟨rfl, rfl⟩ rfl rfl (fun nx => (.cons (.same (by rfl)) .nil)) (by rintro _ _ _ ⟨rfl, rfl, rfl⟩; exact .same rfl)).ok) rfl ?_
     refine st_pg rfl rfl rfl (op_notT rfl) rfl ?_
     refine st_p (pkF rfl rfl) rfl ?_
     refine st_p (mv rfl) rfl ?_
     refine st_pg rfl rfl rfl (mv rfl) rfl ?_
     refine st_pg rfl rfl rfl (op_len Try.underlying22 rfl) rfl ?_
     refine st_pg rfl rfl rfl (OpP.conv (op_gt rfl rfl) (no (by first | assumption | omega))) rfl ?_
     refine st_p (pkF rfl rfl) rfl ?_
     refine st_p (mv rfl) rfl ?_
     refine st_pg rfl rfl rfl (mv rfl) rfl ?_
     refine st_pg rfl rfl rfl (OpP.conv (op_gt rfl rfl) (no (by first | assumption | omega))) rfl ?_
     refine st_p (pkF rfl rfl) rfl ?_
     refine al_nil ?_
     refine nm ?_
     refine aw_no (rfl) ?_
     refine aw_skip ?_
     refine nm ?_
     refine aw_seq ?_
     refine aw_region ?_
     refine st_p (mv rfl) rfl ?_
     refine st_o (op_callg [] 0 true [] [] (hm0) Try.func8 ⟨rfl, rfl⟩ rfl rfl rfl rfl (by omega) (by intro p hp; cases hp) rfl (.cons (.same (by rfl)) .nil) rfl rfl rfl) rfl ?_
     refine st_o (op_callg [(0, 1)] 1 true [(0, pkB x0 0)] [1] (ht0) Try.func9 ⟨rfl, rfl⟩ rfl rfl rfl rfl (by omega) (by intro p hp; simp only [List.mem_cons, List.not_mem_nil, or_false] at hp; rcases hp with rfl <;> exact ⟨by first | rfl | ((simp [hget, swp, Blk.ren, AV.ren, ints, Function.comp_def]) <;> rfl), rfl⟩) rfl (.cons (.same (by rfl)) (.cons (.same (by rfl)) .nil)) rfl rfl rfl) rfl ?_
     refine st_o (op_alloc a26 rfl rfl) rfl ?_
     refine st_n (stA z26 rfl rfl rfl rfl rfl rfl rfl rfl rfl rfl) ?_
     refine al_nil ?_
     refine nm ?_
     refine aw_seq ?_
     refine aw_region ?_
     refine st_p (op_loadA Try.underlying26 rfl z26 rfl rfl rfl rfl) rfl ?_
     refine st_p (op_loadA Try.underlying26 rfl z26 rfl rfl rfl rfl) rfl ?_
     refine st_o (bsl Try.underlying32 i26 o26 (by decide) rfl rfl rfl (by decide)) rfl ?_
     refine st_p (mva rfl) rfl ?_
     refine al_nil ?_
     refine nm ?_
     refine aw_seq ?_
     refine aw_seq ?_
     refine aw_region ?_
     refine st_p (mva rfl) rfl ?_
     refine al_nil ?_
     refine nm ?_
     refine aw_block ?_
     refine aw_loop (fun i : {i : Nat // i ≤ 2} => ⟨[(2, .int .i64 x2), (3, .int .i64 x3), (4, .sl 1 (bl x4)), (6, .ptr 0 0 0), (12, .own 1 0 2), (13, .int .i64 i.1)], [(0, .cells 4 [.agg [.int .i64 t.ses, .int .i64 t.seq, .sl 4 (t.reads.map rdA), .sl 3 (t.writes.map wrA)]]), (1, .cells 4 [.agg [.int .i64 t.ses, .int .i64 t.seq, .sl 4 (t.reads.map rdA), .sl 3 (t.writes.map wrA)], .agg [.int .i64 m.ses, .int .i64 m.seq, .sl 4 (m.reads.map rdA), .sl 3 (m.writes.map wrA)]])], 2⟩) (fun i => 2 - i.1) ⟨0, Nat.zero_le _⟩ ?_ ?_
     ·exact le_to [(1, 4)] rfl rfl rfl rfl rfl ⟨rfl, rfl, rfl, rfl, rfl, rfl, trivial⟩ ⟨rfl, rfl, trivial⟩
     ·rintro ⟨i, hi⟩
      dsimp only
      by_cases hi2 : i < 2
      ·obtain ⟨u, hu, hFu⟩ : ∃ u, ([.agg [.int .i64 t.ses, .int .i64 t.seq, .sl 4 (t.reads.map rdA), .sl 3 (t.writes.map wrA)], .agg [.int .i64 m.ses, .int .i64 m.seq, .sl 4 (m.reads.map rdA), .sl 3 (m.writes.map wrA)]] : List AV)[0 + ((i : Nat) : Int).toNat]? = some (.agg [.int .i64 u.ses, .int .i64 u.seq, .sl 4 (u.reads.map rdA), .sl 3 (u.writes.map wrA)]) ∧ Fine u := by
        rcases i with _ | _ | i
        ·exact ⟨t, rfl, hF⟩
        ·exact ⟨m, rfl, hFm⟩
        ·omega
       obtain ⟨f1, f2, f3, f4⟩ := hFu
       obtain ⟨e1, e2, e3, e4⟩ := hF
       have hkr' : ∀ r ∈ u.reads, r.key.length ≤ 281474976710656 := fun r hr => (f3 r hr).1
       have hmay := txn_May u (by omega) (by omega) hkr' f4
       have hrmay := ref_MayTxn u (by omega) (by omega) hkr' f4
       have hsame := txn_Same u t (by omega) (by omega) (by omega) (by omega)
       have hrsame := ref_SameTxn u t (by omega) (by omega) (by omega) (by omega)
       have hputy := fun h => txn_Put u h (fun r hr => (f3 r hr).2)
       have hputn := fun h => txn_Put_no u h (by omega) (by omega) hkr' f4
       have hrputy := fun h => ref_PutTxn_yes u h (fun r hr => (f3 r hr).2) (by omega) (by omega) hkr' f4
       have hrputn := fun h => ref_PutTxn_no u h (by omega) (by omega) hkr' f4
       have hRd := fun (n : Int) (hn : n ≤ 100) => txn_Reads u n (by omega) (by omega) hkr' (by omega)
       have hRR := fun (n : Int) (hn : n ≤ 100) => ref_ReadShardsG u n (by omega) (by omega) hkr'
       have hTo := fun (s n : Int) (hn : n ≤ 100) => txn_Touches u s n (by omega) (by omega) hkr' f4 (by omega)
       have hRT := fun (s n : Int) (hn : n ≤ 100) => ref_Touches u s n (by omega) (by omega) hkr' f4 (by omega)
       have hlen := fun n : Int => readsL_len8 (u.reads.map RD.key) n
       generalize sameTxB u t = sb1 at hsame hrsame
       have hXX : ∀ X : List UInt8, ¬ X ≠ X := fun X h => h rfl
       have hXp := hXX (putTx u)
       have hXn := hXX []
       have hbx : (bl (putTx u)).length = (putTx u).length := bl_len _
       dsimp only [txA] at hmay hrmay hsame hrsame hputy hputn hrputy hrputn hRd hRR hTo hRT
       generalize putTx u = X at hputy hrputy hXp hbx
       cases hmb : mayTxB u with
       | true =>
        have hput := hputy hmb
        have hrput := hrputy hmb
        rw [hmb] at hmay hrmay
        refine aw_seq ?_
        refine aw_seq ?_
        refine aw_region ?_
        refine st_p (mv rfl) rfl ?_
        refine st_p (OpP.conv (op_lt rfl rfl) (yes (by first | assumption | omega))) rfl ?_
        refine al_nil ?_
        refine nm ?_
        refine aw_yes (rfl) ?_
        refine aw_skip ?_
        refine nm ?_
        refine aw_seq ?_
        refine aw_block ?_
        refine aw_seq ?_
        refine aw_region ?_
        refine st_p (mv rfl) rfl ?_
        refine st_p (mv rfl) rfl ?_
        refine st_p (op_indexAddr Try.underlying32 z26 rfl rfl rfl (by omega) (by omega)) rfl ?_
        refine st_p (op_loadA Try.underlying26 rfl z26 rfl rfl (by assumption) rfl) rfl ?_
        refine st_o (op_alloc a26 rfl rfl) rfl ?_
        refine st_n (stA z26 rfl rfl rfl rfl rfl rfl rfl rfl rfl rfl) ?_
        refine al_nil ?_
        refine nm ?_
        refine aw_seq ?_
        refine aw_seq ?_
        refine dr_go ?_
        refine dr_q 0 0 [14] rfl (op_loadA Try.underlying26 rfl z26 rfl rfl rfl rfl) ?_
        refine dr_fq 0 0 [60] rfl (fun H => op_callq (hmay) Try.func10 ⟨rfl, rfl⟩ rfl rfl (fun nx => (.cons (.same (by rfl)) .nil)) (by rintro _ _ _ ⟨rfl, rfl, rfl⟩; exact .same rfl)) ?_
        refine dr_q 0 0 [14] rfl (op_loadA Try.underlying26 rfl z26 rfl rfl rfl rfl) ?_
        refine dr_fq 0 0 [62] rfl (fun H => op_callq (hrmay) Try.func11 ⟨rfl, rfl⟩ rfl rfl (fun nx => (.cons (.same (by rfl)) .nil)) (by rintro _ _ _ ⟨rfl, rfl, rfl⟩; exact .same rfl)) ?_
        refine dr_f 0 0 [61, 63] rfl (fun H => OpP.conv (op_neb Try.underlying4 rfl rfl) (nb_same _)) ?_
        refine dr_f 0 0 [64] rfl (fun H => mv rfl) ?_
        refine dr_gq 0 0 [14] rfl (op_loadA Try.underlying26 rfl z26 rfl rfl rfl rfl) 0 rfl rfl ?_
        refine dr_gfq 0 0 [66] rfl (fun H => op_callq (hput) Try.func12 ⟨rfl, rfl⟩ rfl rfl (fun nx => (.cons (.same (by rfl)) .nil)) (by rintro _ _ _ ⟨rfl, rfl, rfl⟩; exact .whole rfl (by simp) (by first | rfl | simp [AV.plain, plains, bl_plain]))) 1 rfl rfl ?_
        refine dr_gq 0 0 [67] rfl (op_toStr Try.underlying22 Try.underlying5 Try.underlying9 rfl (.sl (.inr trivial)) rfl) 2 rfl rfl ?_
        refine dr_gq 0 0 [14] rfl (op_loadA Try.underlying26 rfl z26 rfl rfl rfl rfl) 3 rfl rfl ?_
        refine dr_gfq 0 0 [69] rfl (fun H => op_callq (hrput) Try.func13 ⟨rfl, rfl⟩ rfl rfl (fun nx => (.cons (.same (by rfl)) .nil)) (by rintro _ _ _ ⟨rfl, rfl, rfl⟩; exact .whole rfl (by simp) (by first | rfl | simp [AV.plain, plains, bl_plain]))) 4 rfl rfl ?_
        refine dr_gq 0 0 [70] rfl (op_toStr Try.underlying22 Try.underlying5 Try.underlying9 rfl (.sl (.inr trivial)) rfl) 5 rfl rfl ?_
        refine dr_gf 0 0 [68, 71] rfl (fun H => OpP.conv (op_nes rfl rfl) (no (by first | assumption | omega))) 6 rfl rfl ?_
        refine dr_f 0 0 [65, 72] rfl (fun H => pkF rfl rfl) ?_
        refine dr_f 0 0 [73] rfl (fun H => mv rfl) ?_
        refine dr_gq 0 0 [14] rfl (op_loadA Try.underlying26 rfl z26 rfl rfl rfl rfl) 0 rfl rfl ?_
        refine dr_gq 0 0 [6] rfl (op_loadA Try.underlying26 rfl z26 rfl rfl rfl rfl) 1 rfl rfl ?_
        refine dr_gfq 0 0 [75, 76] rfl (fun H => op_callq (hsame) Try.func14 ⟨rfl, rfl⟩ rfl rfl (fun nx => (.cons (.same (by rfl)) (.cons (.same (by rfl)) .nil))) (by rintro _ _ _ ⟨rfl, rfl, rfl⟩; exact .same rfl)) 2 rfl rfl ?_
        refine dr_gq 0 0 [14] rfl (op_loadA Try.underlying26 rfl z26 rfl rfl rfl rfl) 3 rfl rfl ?_
        refine dr_gq 0 0 [6] rfl (op_loadA Try.underlying26 rfl z26 rfl rfl rfl rfl) 4 rfl rfl ?_
        refine dr_gfq 0 0 [78, 79] rfl (fun H => op_callq (hrsame) Try.func15 ⟨rfl, rfl⟩ rfl rfl (fun nx => (.cons (.same (by rfl)) (.cons (.same (by rfl)) .nil))) (by rintro _ _ _ ⟨rfl, rfl, rfl⟩; exact .same rfl)) 5 rfl rfl ?_
        refine dr_gf 0 0 [77, 80] rfl (fun H => OpP.conv (op_neb Try.underlying4 rfl rfl) (nb_same _)) 6 rfl rfl ?_
        refine dr_f 0 0 [74, 81] rfl (fun H => pkF rfl rfl) ?_
        refine dr_end [] (by kernel_rfl) (by kernel_rfl) (by kernel_rfl) (by kernel_rfl) trivial ?_
        refine nm ?_
        refine aw_no (rfl) ?_
        refine aw_skip ?_
        refine nm ?_
        refine aw_seq ?_
        refine aw_region ?_
        refine st_p (mv rfl) rfl ?_
        refine st_o (bsl Try.underlying35 i3 o3 (by decide) rfl rfl rfl (by decide)) rfl ?_
        refine st_p (mva rfl) rfl ?_
        refine al_nil ?_
        refine nm ?_
        refine aw_seq ?_
        refine aw_region ?_
        refine st_p (mva rfl) rfl ?_
        refine al_nil ?_
        refine nm ?_
        refine aw_block ?_
        refine aw_loop (fun k : {k : Nat // k ≤ 4} => ⟨[(2, .int .i64 x2), (3, .int .i64 x3), (4, .sl 1 (bl x4)), (6, .ptr 0 0 0), (12, .own 1 0 2), (13, .int .i64 i), (14, .ptr 2 0 0), (15, .own 3 0 4), (16, .int .i64 k.1)], [(0, .cells 4 [.agg [.int .i64 t.ses, .int .i64 t.seq, .sl 4 (t.reads.map rdA), .sl 3 (t.writes.map wrA)]]), (1, .cells 4 [.agg [.int .i64 t.ses, .int .i64 t.seq, .sl 4 (t.reads.map rdA), .sl 3 (t.writes.map wrA)], .agg [.int .i64 m.ses, .int .i64 m.seq, .sl 4 (m.reads.map rdA), .sl 3 (m.writes.map wrA)]]), (2, .cells 4 [.agg [.int .i64 u.ses, .int .i64 u.seq, .sl 4 (u.reads.map rdA), .sl 3 (u.writes.map wrA)]]), (3, .cells 1 (ints [x3, 1, 2, 3]))], 4⟩) (fun k => 4 - k.1) ⟨0, Nat.zero_le _⟩ ?_ ?_
        ·exact le_to [(2, 2), (3, 3)] rfl rfl rfl rfl rfl ⟨rfl, rfl, rfl, rfl, rfl, rfl, rfl, rfl, rfl, trivial⟩ ⟨rfl, rfl, rfl, rfl, trivial⟩
        ·rintro ⟨k, hk⟩
         dsimp only
         by_cases hk4 : k < 4
         ·obtain ⟨nv, hnv, hn1⟩ : ∃ nv : Int, (ints [x3, 1, 2, 3])[0 + ((k : Nat) : Int).toNat]? = some (.int .i64 nv) ∧ nv ≤ 100 := by
           rcases k with _ | _ | _ | _ | k
           ·exact ⟨x3, rfl, h3⟩
           ·exact ⟨1, rfl, by omega⟩
           ·exact ⟨2, rfl, by omega⟩
           ·exact ⟨3, rfl, by omega⟩
           ·omega
          have hA := hRd nv hn1
          have hB := hRR nv hn1
          have hT1 := hTo x2 nv hn1
          have hT2 := hRT x2 nv hn1
          have hT3 := hTo 1 nv hn1
          have hT4 := hRT 1 nv hn1
          have hl8 := hlen nv
          rw [List.length_map] at hl8
          generalize touchB u x2 nv = tb1 at hT1 hT2
          generalize touchB u 1 nv = tb2 at hT3 hT4
          generalize readsL (u.reads.map RD.key) nv = RL at hA hB hl8
          have hil := ints_len RL
          have hip : (ints RL).all AV.plain = true := by simp [AV.plain, ints]
          refine aw_seq ?_
          refine aw_seq ?_
          refine aw_region ?_
          refine st_p (mv rfl) rfl ?_
          refine st_p (OpP.conv (op_lt rfl rfl) (yes (by first | assumption | omega))) rfl ?_
          refine al_nil ?_
          refine nm ?_
          refine aw_yes (rfl) ?_
          refine aw_skip ?_
          refine nm ?_
          refine aw_seq ?_
          refine aw_block ?_
          refine aw_seq ?_
          refine dr_go ?_
          refine dr_q 0 0 [14] rfl (op_loadA Try.underlying26 rfl z26 rfl rfl rfl rfl) ?_
          refine dr_f 0 0 [15] rfl (fun H => mv rfl) ?_
          refine dr_f 0 0 [16] rfl (fun H => mv rfl) ?_
          refine dr_q 0 0 [90, 91] rfl (op_indexAddr Try.underlying35 z3 rfl rfl rfl (by omega) (by omega)) ?_
          refine dr_q 0 0 [92] rfl (op_load1 Try.underlying3 rfl rfl rfl (by assumption) rfl) ?_
          refine dr_fq 0 0 [89, 93] rfl (fun H => op_callq (hA) Try.func16 ⟨rfl, rfl⟩ rfl rfl (fun nx => (.cons (.same (by rfl)) (.cons (.same (by rfl)) .nil))) (by rintro _ _ _ ⟨rfl, rfl, rfl⟩; exact (.whole rfl hil.symm hip))) ?_
          refine dr_q 0 0 [14] rfl (op_loadA Try.underlying26 rfl z26 rfl rfl rfl rfl) ?_
          refine dr_f 0 0 [15] rfl (fun H => mv rfl) ?_
          refine dr_f 0 0 [16] rfl (fun H => mv rfl) ?_
          refine dr_q 0 0 [96, 97] rfl (op_indexAddr Try.underlying35 z3 rfl rfl rfl (by omega) (by omega)) ?_
          refine dr_q 0 0 [98] rfl (op_load1 Try.underlying3 rfl rfl rfl (by assumption) rfl) ?_
          refine dr_fq 0 0 [95, 99] rfl (fun H => op_callq (hB) Try.func17 ⟨rfl, rfl⟩ rfl rfl (fun nx => (.cons (.same (by rfl)) (.cons (.same (by rfl)) .nil))) (by rintro _ _ _ ⟨rfl, rfl, rfl⟩; exact (.whole rfl hil.symm hip))) ?_
          refine dr_f 0 0 [94] rfl (fun H => mva rfl) ?_
          refine dr_f 0 0 [100] rfl (fun H => mva rfl) ?_
          refine dr_end [] (by kernel_rfl) (by kernel_rfl) (by kernel_rfl) (by kernel_rfl) trivial ?_
          refine nm ?_
          refine aw_seq ?_
          refine aw_seq ?_
          refine dr_go ?_
          refine dr_f 0 0 [17] rfl (fun H => mv rfl) ?_
          refine dr_f 0 0 [101] rfl (fun H => op_len Try.underlying35 rfl) ?_
          refine dr_f 0 0 [18] rfl (fun H => mv rfl) ?_
          refine dr_f 0 0 [103] rfl (fun H => op_len Try.underlying35 rfl) ?_
          refine dr_f 0 0 [102, 104] rfl (fun H => OpP.conv (op_ne rfl rfl) (no (by first | assumption | omega))) ?_
          refine dr_f 0 0 [105] rfl (fun H => mv rfl) ?_
          refine dr_gq 0 0 [14] rfl (op_loadA Try.underlying26 rfl z26 rfl rfl rfl rfl) 0 rfl rfl ?_
          refine dr_gf 0 0 [2] rfl (fun H => mv rfl) 1 rfl rfl ?_
          refine dr_gf 0 0 [15] rfl (fun H => mv rfl) 2 rfl rfl ?_
          refine dr_gf 0 0 [16] rfl (fun H => mv rfl) 3 rfl rfl ?_
          refine dr_gq 0 0 [109, 110] rfl (op_indexAddr Try.underlying35 z3 rfl rfl rfl (by omega) (by omega)) 4 rfl rfl ?_
          refine dr_gq 0 0 [111] rfl (op_load1 Try.underlying3 rfl rfl rfl (by assumption) rfl) 5 rfl rfl ?_
          refine dr_gfq 0 0 [107, 108, 112] rfl (fun H => op_callq (hT1) Try.func18 ⟨rfl, rfl⟩ rfl rfl (fun nx => (.cons (.same (by rfl)) (.cons (.same (by rfl)) (.cons (.same (by rfl)) .nil)))) (by rintro _ _ _ ⟨rfl, rfl, rfl⟩; exact .same rfl)) 6 rfl rfl ?_
          refine dr_gq 0 0 [14] rfl (op_loadA Try.underlying26 rfl z26 rfl rfl rfl rfl) 7 rfl rfl ?_
          refine dr_gf 0 0 [2] rfl (fun H => mv rfl) 8 rfl rfl ?_
          refine dr_gf 0 0 [15] rfl (fun H => mv rfl) 9 rfl rfl ?_
          refine dr_gf 0 0 [16] rfl (fun H => mv rfl) 10 rfl rfl ?_
          refine dr_gq 0 0 [116, 117] rfl (op_indexAddr Try.underlying35 z3 rfl rfl rfl (by omega) (by omega)) 11 rfl rfl ?_
          refine dr_gq 0 0 [118] rfl (op_load1 Try.underlying3 rfl rfl rfl (by assumption) rfl) 12 rfl rfl ?_
          refine dr_gfq 0 0 [114, 115, 119] rfl (fun H => op_callq (hT2) Try.func19 ⟨rfl, rfl⟩ rfl rfl (fun nx => (.cons (.same (by rfl)) (.cons (.same (by rfl)) (.cons (.same (by rfl)) .nil)))) (by rintro _ _ _ ⟨rfl, rfl, rfl⟩; exact .same rfl)) 13 rfl rfl ?_
          refine dr_gf 0 0 [113, 120] rfl (fun H => OpP.conv (op_neb Try.underlying4 rfl rfl) (nb_same _)) 14 rfl rfl ?_
          refine dr_f 0 0 [106, 121] rfl (fun H => pkF rfl rfl) ?_
          refine dr_f 0 0 [122] rfl (fun H => mv rfl) ?_
          refine dr_gq 0 0 [14] rfl (op_loadA Try.underlying26 rfl z26 rfl rfl rfl rfl) 0 rfl rfl ?_
          refine dr_gf 0 0 [15] rfl (fun H => mv rfl) 1 rfl rfl ?_
          refine dr_gf 0 0 [16] rfl (fun H => mv rfl) 2 rfl rfl ?_
          refine dr_gq 0 0 [125, 126] rfl (op_indexAddr Try.underlying35 z3 rfl rfl rfl (by omega) (by omega)) 3 rfl rfl ?_
          refine dr_gq 0 0 [127] rfl (op_load1 Try.underlying3 rfl rfl rfl (by assumption) rfl) 4 rfl rfl ?_
          refine dr_gfq 0 0 [124, 128] rfl (fun H => op_callq (hT3) Try.func18 ⟨rfl, rfl⟩ rfl rfl (fun nx => (.cons (.same (by rfl)) (.cons (.same (by rfl)) (.cons (.same (by rfl)) .nil)))) (by rintro _ _ _ ⟨rfl, rfl, rfl⟩; exact .same rfl)) 5 rfl rfl ?_
          refine dr_gq 0 0 [14] rfl (op_loadA Try.underlying26 rfl z26 rfl rfl rfl rfl) 6 rfl rfl ?_
          refine dr_gf 0 0 [15] rfl (fun H => mv rfl) 7 rfl rfl ?_
          refine dr_gf 0 0 [16] rfl (fun H => mv rfl) 8 rfl rfl ?_
          refine dr_gq 0 0 [131, 132] rfl (op_indexAddr Try.underlying35 z3 rfl rfl rfl (by omega) (by omega)) 9 rfl rfl ?_
          refine dr_gq 0 0 [133] rfl (op_load1 Try.underlying3 rfl rfl rfl (by assumption) rfl) 10 rfl rfl ?_
          refine dr_gfq 0 0 [130, 134] rfl (fun H => op_callq (hT4) Try.func19 ⟨rfl, rfl⟩ rfl rfl (fun nx => (.cons (.same (by rfl)) (.cons (.same (by rfl)) (.cons (.same (by rfl)) .nil)))) (by rintro _ _ _ ⟨rfl, rfl, rfl⟩; exact .same rfl)) 11 rfl rfl ?_
          refine dr_gf 0 0 [129, 135] rfl (fun H => OpP.conv (op_neb Try.underlying4 rfl rfl) (nb_same _)) 12 rfl rfl ?_
          refine dr_f 0 0 [123, 136] rfl (fun H => pkF rfl rfl) ?_
          refine dr_end [] (by kernel_rfl) (by kernel_rfl) (by kernel_rfl) (by kernel_rfl) trivial ?_
          refine nm ?_
          refine aw_no (rfl) ?_
          refine aw_skip ?_
          refine nm ?_
          refine aw_seq ?_
          refine aw_region ?_
          refine st_p (mva rfl) rfl ?_
          refine al_nil ?_
          refine nm ?_
          refine aw_block ?_
          refine aw_loop (fun j : {j : Nat // j ≤ RL.length} => ⟨[(2, .int .i64 x2), (3, .int .i64 x3), (4, .sl 1 (bl x4)), (6, .ptr 0 0 0), (12, .own 1 0 2), (13, .int .i64 i), (14, .ptr 2 0 0), (15, .own 3 0 4), (16, .int .i64 k), (17, .sl 1 (ints RL)), (18, .sl 1 (ints RL)), (19, .int .i64 j.1)], [(0, .cells 4 [.agg [.int .i64 t.ses, .int .i64 t.seq, .sl 4 (t.reads.map rdA), .sl 3 (t.writes.map wrA)]]), (1, .cells 4 [.agg [.int .i64 t.ses, .int .i64 t.seq, .sl 4 (t.reads.map rdA), .sl 3 (t.writes.map wrA)], .agg [.int .i64 m.ses, .int .i64 m.seq, .sl 4 (m.reads.map rdA), .sl 3 (m.writes.map wrA)]]), (2, .cells 4 [.agg [.int .i64 u.ses, .int .i64 u.seq, .sl 4 (u.reads.map rdA), .sl 3 (u.writes.map wrA)]]), (3, .cells 1 (ints [x3, 1, 2, 3]))], 4⟩) (fun j => RL.length - j.1) ⟨0, Nat.zero_le _⟩ ?_ ?_
          ·exact le_to [] rfl rfl rfl rfl rfl ⟨rfl, rfl, rfl, rfl, rfl, rfl, rfl, rfl, rfl, rfl, rfl, rfl, trivial⟩ ⟨rfl, rfl, rfl, rfl, trivial⟩
          ·rintro ⟨j, hj⟩
           dsimp only
           by_cases hjl : j < RL.length
           ·obtain ⟨x, hx⟩ : ∃ x, RL[j]? = some x := ⟨_, List.getElem?_eq_getElem hjl⟩
            have hxb : (ints RL)[((j : Nat) : Int).toNat]? = some (.int .i64 x) := by rw [Int.toNat_natCast, ints, List.getElem?_map, hx]; rfl
            refine aw_seq ?_
            refine aw_seq ?_
            refine aw_region ?_
            refine st_p (mv rfl) rfl ?_
            refine st_p (mv rfl) rfl ?_
            refine st_p (op_len Try.underlying35 rfl) rfl ?_
            refine st_p (OpP.conv (op_lt rfl rfl) (yes (by first | assumption | omega))) rfl ?_
            refine al_nil ?_
            refine nm ?_
            refine aw_yes (rfl) ?_
            refine aw_skip ?_
            refine nm ?_
            refine aw_seq ?_
            refine aw_block ?_
            refine aw_seq ?_
            refine dr_go ?_
            refine dr_f 0 0 [17] rfl (fun H => mv rfl) ?_
            refine dr_f 0 0 [19] rfl (fun H => mv rfl) ?_
            refine dr_q 0 0 [144, 145] rfl (op_indexAddrL Try.underlying35 z3 rfl rfl (by omega) (by first | assumption | rfl)) ?_
            refine dr_q 0 0 [146] rfl (op_load1L Try.underlying3 rfl rfl rfl) ?_
            refine dr_f 0 0 [18] rfl (fun H => mv rfl) ?_
            refine dr_f 0 0 [19] rfl (fun H => mv rfl) ?_
            refine dr_q 0 0 [148, 149] rfl (op_indexAddrL Try.underlying35 z3 rfl rfl (by omega) (by first | assumption | rfl)) ?_
            refine dr_q 0 0 [150] rfl (op_load1L Try.underlying3 rfl rfl rfl) ?_
            refine dr_f 0 0 [147, 151] rfl (fun H => OpP.conv (op_ne rfl rfl) (no (by first | assumption | omega))) ?_
            refine dr_end [] (by kernel_rfl) (by kernel_rfl) (by kernel_rfl) (by kernel_rfl) trivial ?_
            refine nm ?_
            refine aw_no (rfl) ?_
            refine aw_skip ?_
            refine nmb ?_
            refine nm ?_
            refine aw_region ?_
            refine st_p (mv rfl) rfl ?_
            refine st_p (op_addi rfl rfl (by omega)) rfl ?_
            refine st_p (mva rfl) rfl ?_
            refine al_nil ?_
            refine nm ?_
            exact ⟨⟨j + 1, hjl⟩, by dsimp only; omega, le_to [] rfl rfl rfl rfl rfl ⟨rfl, rfl, rfl, rfl, rfl, rfl, rfl, rfl, rfl, rfl, rfl, rfl, trivial⟩ ⟨rfl, rfl, rfl, rfl, trivial⟩⟩
           ·skip
            refine aw_seq ?_
            refine aw_seq ?_
            refine aw_region ?_
            refine st_p (mv rfl) rfl ?_
            refine st_p (mv rfl) rfl ?_
            refine st_p (op_len Try.underlying35 rfl) rfl ?_
            refine st_p (OpP.conv (op_lt rfl rfl) (no (by first | assumption | omega))) rfl ?_
            refine al_nil ?_
            refine nm ?_
            refine aw_no (rfl) ?_
            refine aw_exit ?_
            refine xs ?_
            refine xs ?_
            refine xb ?_
            refine nmb ?_
            refine nm ?_
            refine aw_region ?_
            refine st_p (mv rfl) rfl ?_
            refine st_p (op_addi rfl rfl (by omega)) rfl ?_
            refine st_p (mva rfl) rfl ?_
            refine al_nil ?_
            refine nm ?_
            exact ⟨⟨k + 1, hk4⟩, by dsimp only; omega, le_to [] rfl rfl rfl rfl rfl ⟨rfl, rfl, rfl, rfl, rfl, rfl, rfl, rfl, rfl, trivial⟩ ⟨rfl, rfl, rfl, rfl, trivial⟩⟩
         ·skip
          refine aw_seq ?_
          refine aw_seq ?_
          refine aw_region ?_
          refine st_p (mv rfl) rfl ?_
          refine st_p (OpP.conv (op_lt rfl rfl) (no (by first | assumption | omega))) rfl ?_
          refine al_nil ?_
          refine nm ?_
          refine aw_no (rfl) ?_
          refine aw_exit ?_
          refine xs ?_
          refine xs ?_
          refine xb ?_
          refine nmb ?_
          refine nm ?_
          refine aw_region ?_
          refine st_p (mv rfl) rfl ?_
          refine st_p (op_addi rfl rfl (by omega)) rfl ?_
          refine st_p (mva rfl) rfl ?_
          refine al_nil ?_
          refine nm ?_
          exact ⟨⟨i + 1, by omega⟩, by dsimp only; omega, le_to [] rfl rfl rfl rfl rfl ⟨rfl, rfl, rfl, rfl, rfl, rfl, trivial⟩ ⟨rfl, rfl, trivial⟩⟩
       | false =>
        have hput := hputn hmb
        have hrput := hrputn hmb
        rw [hmb] at hmay hrmay
        refine aw_seq ?_
        refine aw_seq ?_
        refine aw_region ?_
        refine st_p (mv rfl) rfl ?_
        refine st_p (OpP.conv (op_lt rfl rfl) (yes (by first | assumption | omega))) rfl ?_
        refine al_nil ?_
        refine nm ?_
        refine aw_yes (rfl) ?_
        refine aw_skip ?_
        refine nm ?_
        refine aw_seq ?_
        refine aw_block ?_
        refine aw_seq ?_
        refine aw_region ?_
        refine st_p (mv rfl) rfl ?_
        refine st_p (mv rfl) rfl ?_
        refine st_p (op_indexAddr Try.underlying32 z26 rfl rfl rfl (by omega) (by omega)) rfl ?_
        refine st_p (op_loadA Try.underlying26 rfl z26 rfl rfl (by assumption) rfl) rfl ?_
        refine st_o (op_alloc a26 rfl rfl) rfl ?_
        refine st_n (stA z26 rfl rfl rfl rfl rfl rfl rfl rfl rfl rfl) ?_
        refine al_nil ?_
        refine nm ?_
        refine aw_seq ?_
        refine aw_seq ?_
        refine dr_go ?_
        refine dr_q 0 0 [14] rfl (op_loadA Try.underlying26 rfl z26 rfl rfl rfl rfl) ?_
        refine dr_fq 0 0 [60] rfl (fun H => op_callq (hmay) Try.func10 ⟨rfl, rfl⟩ rfl rfl (fun nx => (.cons (.same (by rfl)) .nil)) (by rintro _ _ _ ⟨rfl, rfl, rfl⟩; exact .same rfl)) ?_
        refine dr_q 0 0 [14] rfl (op_loadA Try.underlying26 rfl z26 rfl rfl rfl rfl) ?_
        refine dr_fq 0 0 [62] rfl (fun H => op_callq (hrmay) Try.func11 ⟨rfl, rfl⟩ rfl rfl (fun nx => (.cons (.same (by rfl)) .nil)) (by rintro _ _ _ ⟨rfl, rfl, rfl⟩; exact .same rfl)) ?_
        refine dr_f 0 0 [61, 63] rfl (fun H => OpP.conv (op_neb Try.underlying4 rfl rfl) (nb_same _)) ?_
        refine dr_f 0 0 [64] rfl (fun H => mv rfl) ?_
        refine dr_gq 0 0 [14] rfl (op_loadA Try.underlying26 rfl z26 rfl rfl rfl rfl) 0 rfl rfl ?_
        refine dr_gfq 0 0 [66] rfl (fun H => op_callq (hput) Try.func12 ⟨rfl, rfl⟩ rfl rfl (fun nx => (.cons (.same (by rfl)) .nil)) (by rintro _ _ _ ⟨rfl, rfl, rfl⟩; exact .same rfl)) 1 rfl rfl ?_
        refine dr_gq 0 0 [67] rfl (op_toStr Try.underlying22 Try.underlying5 Try.underlying9 rfl .nils (l := []) rfl) 2 rfl rfl ?_
        refine dr_gq 0 0 [14] rfl (op_loadA Try.underlying26 rfl z26 rfl rfl rfl rfl) 3 rfl rfl ?_
        refine dr_gfq 0 0 [69] rfl (fun H => op_callq (hrput) Try.func13 ⟨rfl, rfl⟩ rfl rfl (fun nx => (.cons (.same (by rfl)) .nil)) (by rintro _ _ _ ⟨rfl, rfl, rfl⟩; exact .same rfl)) 4 rfl rfl ?_
        refine dr_gq 0 0 [70] rfl (op_toStr Try.underlying22 Try.underlying5 Try.underlying9 rfl .nils (l := []) rfl) 5 rfl rfl ?_
        refine dr_gf 0 0 [68, 71] rfl (fun H => OpP.conv (op_nes rfl rfl) (no (by first | assumption | omega))) 6 rfl rfl ?_
        refine dr_f 0 0 [65, 72] rfl (fun H => pkF rfl rfl) ?_
        refine dr_f 0 0 [73] rfl (fun H => mv rfl) ?_
        refine dr_gq 0 0 [14] rfl (op_loadA Try.underlying26 rfl z26 rfl rfl rfl rfl) 0 rfl rfl ?_
        refine dr_gq 0 0 [6] rfl (op_loadA Try.underlying26 rfl z26 rfl rfl rfl rfl) 1 rfl rfl ?_
        refine dr_gfq 0 0 [75, 76] rfl (fun H => op_callq (hsame) Try.func14 ⟨rfl, rfl⟩ rfl rfl (fun nx => (.cons (.same (by rfl)) (.cons (.same (by rfl)) .nil))) (by rintro _ _ _ ⟨rfl, rfl, rfl⟩; exact .same rfl)) 2 rfl rfl ?_
        refine dr_gq 0 0 [14] rfl (op_loadA Try.underlying26 rfl z26 rfl rfl rfl rfl) 3 rfl rfl ?_
        refine dr_gq 0 0 [6] rfl (op_loadA Try.underlying26 rfl z26 rfl rfl rfl rfl) 4 rfl rfl ?_
        refine dr_gfq 0 0 [78, 79] rfl (fun H => op_callq (hrsame) Try.func15 ⟨rfl, rfl⟩ rfl rfl (fun nx => (.cons (.same (by rfl)) (.cons (.same (by rfl)) .nil))) (by rintro _ _ _ ⟨rfl, rfl, rfl⟩; exact .same rfl)) 5 rfl rfl ?_
        refine dr_gf 0 0 [77, 80] rfl (fun H => OpP.conv (op_neb Try.underlying4 rfl rfl) (nb_same _)) 6 rfl rfl ?_
        refine dr_f 0 0 [74, 81] rfl (fun H => pkF rfl rfl) ?_
        refine dr_end [] (by kernel_rfl) (by kernel_rfl) (by kernel_rfl) (by kernel_rfl) trivial ?_
        refine nm ?_
        refine aw_no (rfl) ?_
        refine aw_skip ?_
        refine nm ?_
        refine aw_seq ?_
        refine aw_region ?_
        refine st_p (mv rfl) rfl ?_
        refine st_o (bsl Try.underlying35 i3 o3 (by decide) rfl rfl rfl (by decide)) rfl ?_
        refine st_p (mva rfl) rfl ?_
        refine al_nil ?_
        refine nm ?_
        refine aw_seq ?_
        refine aw_region ?_
        refine st_p (mva rfl) rfl ?_
        refine al_nil ?_
        refine nm ?_
        refine aw_block ?_
        refine aw_loop (fun k : {k : Nat // k ≤ 4} => ⟨[(2, .int .i64 x2), (3, .int .i64 x3), (4, .sl 1 (bl x4)), (6, .ptr 0 0 0), (12, .own 1 0 2), (13, .int .i64 i), (14, .ptr 2 0 0), (15, .own 3 0 4), (16, .int .i64 k.1)], [(0, .cells 4 [.agg [.int .i64 t.ses, .int .i64 t.seq, .sl 4 (t.reads.map rdA), .sl 3 (t.writes.map wrA)]]), (1, .cells 4 [.agg [.int .i64 t.ses, .int .i64 t.seq, .sl 4 (t.reads.map rdA), .sl 3 (t.writes.map wrA)], .agg [.int .i64 m.ses, .int .i64 m.seq, .sl 4 (m.reads.map rdA), .sl 3 (m.writes.map wrA)]]), (2, .cells 4 [.agg [.int .i64 u.ses, .int .i64 u.seq, .sl 4 (u.reads.map rdA), .sl 3 (u.writes.map wrA)]]), (3, .cells 1 (ints [x3, 1, 2, 3]))], 4⟩) (fun k => 4 - k.1) ⟨0, Nat.zero_le _⟩ ?_ ?_
        ·exact le_to [(2, 2), (3, 3)] rfl rfl rfl rfl rfl ⟨rfl, rfl, rfl, rfl, rfl, rfl, rfl, rfl, rfl, trivial⟩ ⟨rfl, rfl, rfl, rfl, trivial⟩
        ·rintro ⟨k, hk⟩
         dsimp only
         by_cases hk4 : k < 4
         ·obtain ⟨nv, hnv, hn1⟩ : ∃ nv : Int, (ints [x3, 1, 2, 3])[0 + ((k : Nat) : Int).toNat]? = some (.int .i64 nv) ∧ nv ≤ 100 := by
           rcases k with _ | _ | _ | _ | k
           ·exact ⟨x3, rfl, h3⟩
           ·exact ⟨1, rfl, by omega⟩
           ·exact ⟨2, rfl, by omega⟩
           ·exact ⟨3, rfl, by omega⟩
           ·omega
          have hA := hRd nv hn1
          have hB := hRR nv hn1
          have hT1 := hTo x2 nv hn1
          have hT2 := hRT x2 nv hn1
          have hT3 := hTo 1 nv hn1
          have hT4 := hRT 1 nv hn1
          have hl8 := hlen nv
          rw [List.length_map] at hl8
          generalize touchB u x2 nv = tb1 at hT1 hT2
          generalize touchB u 1 nv = tb2 at hT3 hT4
          generalize readsL (u.reads.map RD.key) nv = RL at hA hB hl8
          have hil := ints_len RL
          have hip : (ints RL).all AV.plain = true := by simp [AV.plain, ints]
          refine aw_seq ?_
          refine aw_seq ?_
          refine aw_region ?_
          refine st_p (mv rfl) rfl ?_
          refine st_p (OpP.conv (op_lt rfl rfl) (yes (by first | assumption | omega))) rfl ?_
          refine al_nil ?_
          refine nm ?_
          refine aw_yes (rfl) ?_
          refine aw_skip ?_
          refine nm ?_
          refine aw_seq ?_
          refine aw_block ?_
          refine aw_seq ?_
          refine dr_go ?_
          refine dr_q 0 0 [14] rfl (op_loadA Try.underlying26 rfl z26 rfl rfl rfl rfl) ?_
          refine dr_f 0 0 [15] rfl (fun H => mv rfl) ?_
          refine dr_f 0 0 [16] rfl (fun H => mv rfl) ?_
          refine dr_q 0 0 [90, 91] rfl (op_indexAddr Try.underlying35 z3 rfl rfl rfl (by omega) (by omega)) ?_
          refine dr_q 0 0 [92] rfl (op_load1 Try.underlying3 rfl rfl rfl (by assumption) rfl) ?_
          refine dr_fq 0 0 [89, 93] rfl (fun H => op_callq (hA) Try.func16 ⟨rfl, rfl⟩ rfl rfl (fun nx => (.cons (.same (by rfl)) (.cons (.same (by rfl)) .nil))) (by rintro _ _ _ ⟨rfl, rfl, rfl⟩; exact (.whole rfl hil.symm hip))) ?_
          refine dr_q 0 0 [14] rfl (op_loadA Try.underlying26 rfl z26 rfl rfl rfl rfl) ?_
          refine dr_f 0 0 [15] rfl (fun H => mv rfl) ?_
          refine dr_f 0 0 [16] rfl (fun H => mv rfl) ?_
          refine dr_q 0 0 [96, 97] rfl (op_indexAddr Try.underlying35 z3 rfl rfl rfl (by omega) (by omega)) ?_
          refine dr_q 0 0 [98] rfl (op_load1 Try.underlying3 rfl rfl rfl (by assumption) rfl) ?_
          refine dr_fq 0 0 [95, 99] rfl (fun H => op_callq (hB) Try.func17 ⟨rfl, rfl⟩ rfl rfl (fun nx => (.cons (.same (by rfl)) (.cons (.same (by rfl)) .nil))) (by rintro _ _ _ ⟨rfl, rfl, rfl⟩; exact (.whole rfl hil.symm hip))) ?_
          refine dr_f 0 0 [94] rfl (fun H => mva rfl) ?_
          refine dr_f 0 0 [100] rfl (fun H => mva rfl) ?_
          refine dr_end [] (by kernel_rfl) (by kernel_rfl) (by kernel_rfl) (by kernel_rfl) trivial ?_
          refine nm ?_
          refine aw_seq ?_
          refine aw_seq ?_
          refine dr_go ?_
          refine dr_f 0 0 [17] rfl (fun H => mv rfl) ?_
          refine dr_f 0 0 [101] rfl (fun H => op_len Try.underlying35 rfl) ?_
          refine dr_f 0 0 [18] rfl (fun H => mv rfl) ?_
          refine dr_f 0 0 [103] rfl (fun H => op_len Try.underlying35 rfl) ?_
          refine dr_f 0 0 [102, 104] rfl (fun H => OpP.conv (op_ne rfl rfl) (no (by first | assumption | omega))) ?_
          refine dr_f 0 0 [105] rfl (fun H => mv rfl) ?_
          refine dr_gq 0 0 [14] rfl (op_loadA Try.underlying26 rfl z26 rfl rfl rfl rfl) 0 rfl rfl ?_
          refine dr_gf 0 0 [2] rfl (fun H => mv rfl) 1 rfl rfl ?_
          refine dr_gf 0 0 [15] rfl (fun H => mv rfl) 2 rfl rfl ?_
          refine dr_gf 0 0 [16] rfl (fun H => mv rfl) 3 rfl rfl ?_
          refine dr_gq 0 0 [109, 110] rfl (op_indexAddr Try.underlying35 z3 rfl rfl rfl (by omega) (by omega)) 4 rfl rfl ?_
          refine dr_gq 0 0 [111] rfl (op_load1 Try.underlying3 rfl rfl rfl (by assumption) rfl) 5 rfl rfl ?_
          refine dr_gfq 0 0 [107, 108, 112] rfl (fun H => op_callq (hT1) Try.func18 ⟨rfl, rfl⟩ rfl rfl (fun nx => (.cons (.same (by rfl)) (.cons (.same (by rfl)) (.cons (.same (by rfl)) .nil)))) (by rintro _ _ _ ⟨rfl, rfl, rfl⟩; exact .same rfl)) 6 rfl rfl ?_
          refine dr_gq 0 0 [14] rfl (op_loadA Try.underlying26 rfl z26 rfl rfl rfl rfl) 7 rfl rfl ?_
          refine dr_gf 0 0 [2] rfl (fun H => mv rfl) 8 rfl rfl ?_
          refine dr_gf 0 0 [15] rfl (fun H => mv rfl) 9 rfl rfl ?_
          refine dr_gf 0 0 [16] rfl (fun H => mv rfl) 10 rfl rfl ?_
          refine dr_gq 0 0 [116, 117] rfl (op_indexAddr Try.underlying35 z3 rfl rfl rfl (by omega) (by omega)) 11 rfl rfl ?_
          refine dr_gq 0 0 [118] rfl (op_load1 Try.underlying3 rfl rfl rfl (by assumption) rfl) 12 rfl rfl ?_
          refine dr_gfq 0 0 [114, 115, 119] rfl (fun H => op_callq (hT2) Try.func19 ⟨rfl, rfl⟩ rfl rfl (fun nx => (.cons (.same (by rfl)) (.cons (.same (by rfl)) (.cons (.same (by rfl)) .nil)))) (by rintro _ _ _ ⟨rfl, rfl, rfl⟩; exact .same rfl)) 13 rfl rfl ?_
          refine dr_gf 0 0 [113, 120] rfl (fun H => OpP.conv (op_neb Try.underlying4 rfl rfl) (nb_same _)) 14 rfl rfl ?_
          refine dr_f 0 0 [106, 121] rfl (fun H => pkF rfl rfl) ?_
          refine dr_f 0 0 [122] rfl (fun H => mv rfl) ?_
          refine dr_gq 0 0 [14] rfl (op_loadA Try.underlying26 rfl z26 rfl rfl rfl rfl) 0 rfl rfl ?_
          refine dr_gf 0 0 [15] rfl (fun H => mv rfl) 1 rfl rfl ?_
          refine dr_gf 0 0 [16] rfl (fun H => mv rfl) 2 rfl rfl ?_
          refine dr_gq 0 0 [125, 126] rfl (op_indexAddr Try.underlying35 z3 rfl rfl rfl (by omega) (by omega)) 3 rfl rfl ?_
          refine dr_gq 0 0 [127] rfl (op_load1 Try.underlying3 rfl rfl rfl (by assumption) rfl) 4 rfl rfl ?_
          refine dr_gfq 0 0 [124, 128] rfl (fun H => op_callq (hT3) Try.func18 ⟨rfl, rfl⟩ rfl rfl (fun nx => (.cons (.same (by rfl)) (.cons (.same (by rfl)) (.cons (.same (by rfl)) .nil)))) (by rintro _ _ _ ⟨rfl, rfl, rfl⟩; exact .same rfl)) 5 rfl rfl ?_
          refine dr_gq 0 0 [14] rfl (op_loadA Try.underlying26 rfl z26 rfl rfl rfl rfl) 6 rfl rfl ?_
          refine dr_gf 0 0 [15] rfl (fun H => mv rfl) 7 rfl rfl ?_
          refine dr_gf 0 0 [16] rfl (fun H => mv rfl) 8 rfl rfl ?_
          refine dr_gq 0 0 [131, 132] rfl (op_indexAddr Try.underlying35 z3 rfl rfl rfl (by omega) (by omega)) 9 rfl rfl ?_
          refine dr_gq 0 0 [133] rfl (op_load1 Try.underlying3 rfl rfl rfl (by assumption) rfl) 10 rfl rfl ?_
          refine dr_gfq 0 0 [130, 134] rfl (fun H => op_callq (hT4) Try.func19 ⟨rfl, rfl⟩ rfl rfl (fun nx => (.cons (.same (by rfl)) (.cons (.same (by rfl)) (.cons (.same (by rfl)) .nil)))) (by rintro _ _ _ ⟨rfl, rfl, rfl⟩; exact .same rfl)) 11 rfl rfl ?_
          refine dr_gf 0 0 [129, 135] rfl (fun H => OpP.conv (op_neb Try.underlying4 rfl rfl) (nb_same _)) 12 rfl rfl ?_
          refine dr_f 0 0 [123, 136] rfl (fun H => pkF rfl rfl) ?_
          refine dr_end [] (by kernel_rfl) (by kernel_rfl) (by kernel_rfl) (by kernel_rfl) trivial ?_
          refine nm ?_
          refine aw_no (rfl) ?_
          refine aw_skip ?_
          refine nm ?_
          refine aw_seq ?_
          refine aw_region ?_
          refine st_p (mva rfl) rfl ?_
          refine al_nil ?_
          refine nm ?_
          refine aw_block ?_
          refine aw_loop (fun j : {j : Nat // j ≤ RL.length} => ⟨[(2, .int .i64 x2), (3, .int .i64 x3), (4, .sl 1 (bl x4)), (6, .ptr 0 0 0), (12, .own 1 0 2), (13, .int .i64 i), (14, .ptr 2 0 0), (15, .own 3 0 4), (16, .int .i64 k), (17, .sl 1 (ints RL)), (18, .sl 1 (ints RL)), (19, .int .i64 j.1)], [(0, .cells 4 [.agg [.int .i64 t.ses, .int .i64 t.seq, .sl 4 (t.reads.map rdA), .sl 3 (t.writes.map wrA)]]), (1, .cells 4 [.agg [.int .i64 t.ses, .int .i64 t.seq, .sl 4 (t.reads.map rdA), .sl 3 (t.writes.map wrA)], .agg [.int .i64 m.ses, .int .i64 m.seq, .sl 4 (m.reads.map rdA), .sl 3 (m.writes.map wrA)]]), (2, .cells 4 [.agg [.int .i64 u.ses, .int .i64 u.seq, .sl 4 (u.reads.map rdA), .sl 3 (u.writes.map wrA)]]), (3, .cells 1 (ints [x3, 1, 2, 3]))], 4⟩) (fun j => RL.length - j.1) ⟨0, Nat.zero_le _⟩ ?_ ?_
          ·exact le_to [] rfl rfl rfl rfl rfl ⟨rfl, rfl, rfl, rfl, rfl, rfl, rfl, rfl, rfl, rfl, rfl, rfl, trivial⟩ ⟨rfl, rfl, rfl, rfl, trivial⟩
          ·rintro ⟨j, hj⟩
           dsimp only
           by_cases hjl : j < RL.length
           ·obtain ⟨x, hx⟩ : ∃ x, RL[j]? = some x := ⟨_, List.getElem?_eq_getElem hjl⟩
            have hxb : (ints RL)[((j : Nat) : Int).toNat]? = some (.int .i64 x) := by rw [Int.toNat_natCast, ints, List.getElem?_map, hx]; rfl
            refine aw_seq ?_
            refine aw_seq ?_
            refine aw_region ?_
            refine st_p (mv rfl) rfl ?_
            refine st_p (mv rfl) rfl ?_
            refine st_p (op_len Try.underlying35 rfl) rfl ?_
            refine st_p (OpP.conv (op_lt rfl rfl) (yes (by first | assumption | omega))) rfl ?_
            refine al_nil ?_
            refine nm ?_
            refine aw_yes (rfl) ?_
            refine aw_skip ?_
            refine nm ?_
            refine aw_seq ?_
            refine aw_block ?_
            refine aw_seq ?_
            refine dr_go ?_
            refine dr_f 0 0 [17] rfl (fun H => mv rfl) ?_
            refine dr_f 0 0 [19] rfl (fun H => mv rfl) ?_
            refine dr_q 0 0 [144, 145] rfl (op_indexAddrL Try.underlying35 z3 rfl rfl (by omega) (by first | assumption | rfl)) ?_
            refine dr_q 0 0 [146] rfl (op_load1L Try.underlying3 rfl rfl rfl) ?_
            refine dr_f 0 0 [18] rfl (fun H => mv rfl) ?_
            refine dr_f 0 0 [19] rfl (fun H => mv rfl) ?_
            refine dr_q 0 0 [148, 149] rfl (op_indexAddrL Try.underlying35 z3 rfl rfl (by omega) (by first | assumption | rfl)) ?_
            refine dr_q 0 0 [150] rfl (op_load1L Try.underlying3 rfl rfl rfl) ?_
            refine dr_f 0 0 [147, 151] rfl (fun H => OpP.conv (op_ne rfl rfl) (no (by first | assumption | omega))) ?_
            refine dr_end [] (by kernel_rfl) (by kernel_rfl) (by kernel_rfl) (by kernel_rfl) trivial ?_
            refine nm ?_
            refine aw_no (rfl) ?_
            refine aw_skip ?_
            refine nmb ?_
            refine nm ?_
            refine aw_region ?_
            refine st_p (mv rfl) rfl ?_
            refine st_p (op_addi rfl rfl (by omega)) rfl ?_
            refine st_p (mva rfl) rfl ?_
            refine al_nil ?_
            refine nm ?_
            exact ⟨⟨j + 1, hjl⟩, by dsimp only; omega, le_to [] rfl rfl rfl rfl rfl ⟨rfl, rfl, rfl, rfl, rfl, rfl, rfl, rfl, rfl, rfl, rfl, rfl, trivial⟩ ⟨rfl, rfl, rfl, rfl, trivial⟩⟩
           ·skip
            refine aw_seq ?_
            refine aw_seq ?_
            refine aw_region ?_
            refine st_p (mv rfl) rfl ?_
            refine st_p (mv rfl) rfl ?_
            refine st_p (op_len Try.underlying35 rfl) rfl ?_
            refine st_p (OpP.conv (op_lt rfl rfl) (no (by first | assumption | omega))) rfl ?_
            refine al_nil ?_
            refine nm ?_
            refine aw_no (rfl) ?_
            refine aw_exit ?_
            refine xs ?_
            refine xs ?_
            refine xb ?_
            refine nmb ?_
            refine nm ?_
            refine aw_region ?_
            refine st_p (mv rfl) rfl ?_
            refine st_p (op_addi rfl rfl (by omega)) rfl ?_
            refine st_p (mva rfl) rfl ?_
            refine al_nil ?_
            refine nm ?_
            exact ⟨⟨k + 1, hk4⟩, by dsimp only; omega, le_to [] rfl rfl rfl rfl rfl ⟨rfl, rfl, rfl, rfl, rfl, rfl, rfl, rfl, rfl, trivial⟩ ⟨rfl, rfl, rfl, rfl, trivial⟩⟩
         ·skip
          refine aw_seq ?_
          refine aw_seq ?_
          refine aw_region ?_
          refine st_p (mv rfl) rfl ?_
          refine st_p (OpP.conv (op_lt rfl rfl) (no (by first | assumption | omega))) rfl ?_
          refine al_nil ?_
          refine nm ?_
          refine aw_no (rfl) ?_
          refine aw_exit ?_
          refine xs ?_
          refine xs ?_
          refine xb ?_
          refine nmb ?_
          refine nm ?_
          refine aw_region ?_
          refine st_p (mv rfl) rfl ?_
          refine st_p (op_addi rfl rfl (by omega)) rfl ?_
          refine st_p (mva rfl) rfl ?_
          refine al_nil ?_
          refine nm ?_
          exact ⟨⟨i + 1, by omega⟩, by dsimp only; omega, le_to [] rfl rfl rfl rfl rfl ⟨rfl, rfl, rfl, rfl, rfl, rfl, trivial⟩ ⟨rfl, rfl, trivial⟩⟩
      ·have hi2' : i = 2 := by omega
       have hdef : ∀ v : TX, v.reads.length ≤ 1000 → v.writes.length ≤ 1000 → _ := fun (v : TX) h1 h2 => txn_Same v v (by omega) (by omega) (by omega) (by omega)
       have hdef2 : ∀ v : TX, v.reads.length ≤ 1000 → v.writes.length ≤ 1000 → _ := fun (v : TX) h1 h2 => ref_SameTxn v v (by omega) (by omega) (by omega) (by omega)
       have hrl6 := bl_len (roomL x4)
       rw [roomL_len] at hrl6
       have hrpl := bl_plain (roomL x4)
       by_cases hne : x4 = []
       ·have hLe : AC Try.prog 20 [.sl 1 (bl x4)] [] 0 false (fun v h nx => v = .ownz 0 0 ∧ h = [(0, .cells 1 (bl (roomL x4)))] ∧ nx = 1) := by rw [hne]; exact lent_none
        have hBk : AC Try.prog 23 [.ownz 0 0, .sl 1 (bl x4)] [(0, .cells 1 (bl (roomL x4)))] 1 true (fun v h nx => v = .bool true ∧ h = [(0, .cells 1 (bl (roomL x4)))] ∧ nx = 1) := by rw [hne]; exact back_none
        have hbe : bl x4 = [] := by rw [hne]; rfl
        cases hok : takeOk x4 with
        | true =>
         have hT := txn_Take_yes x4 (by omega) hok
         have hR := ref_Take_yes x4 (by omega) hok
         have hmv := (takeOk_pre hok).1
         rw [hbe] at hT
         generalize takeT x4 = v at hT hR hmv
         unfold mayTxB at hmv
         simp only [Bool.and_eq_true, decide_eq_true_eq] at hmv
         obtain ⟨_, _, _, _, z5, _, z7, _⟩ := hmv
         have hS1 := hdef v (by omega) (by omega)
         have hS2 := hdef2 v (by omega) (by omega)
         rw [(sameTxB_iff v v).2 rfl] at hS1 hS2
         dsimp only [txA] at hS1 hS2
         have hvl : (v.reads.map rdA).length = v.reads.length := List.length_map _
         have hvm : (v.writes.map wrA).length = v.writes.length := List.length_map _
         have hvp : (v.reads.map rdA).all AV.plain = true := by simp [AV.plain, plains, rdA, sb]
         have hvq : (v.writes.map wrA).all AV.plain = true := by simp [AV.plain, plains, wrA, sb]
         refine aw_seq ?_
         refine aw_seq ?_
         refine aw_region ?_
         refine st_p (mv rfl) rfl ?_
         refine st_p (OpP.conv (op_lt rfl rfl) (no (by first | assumption | omega))) rfl ?_
         refine al_nil ?_
         refine nm ?_
         refine aw_no (rfl) ?_
         refine aw_exit ?_
         refine xs ?_
         refine xs ?_
         refine xb ?_
         refine nm ?_
         refine aw_seq ?_
         refine aw_region ?_
         refine st_p (mv rfl) rfl ?_
         refine st_o (op_callg [] 0 false [] [] (hLe) Try.func20 ⟨rfl, rfl⟩ rfl rfl rfl rfl (by omega) (by intro p hp; cases hp) rfl (.cons (.same (by rfl)) .nil) rfl rfl rfl) rfl ?_
         refine st_p (mva rfl) rfl ?_
         refine al_nil ?_
         refine nm ?_
         refine aw_seq ?_
         refine aw_le (st' := ⟨[(4, .sl 1 (bl x4)), (20, .ownz 0 0)], [(0, .cells 1 (bl (roomL x4)))], 1⟩) (le_to [(0, 2)] rfl rfl rfl rfl rfl ⟨rfl, rfl, trivial⟩ ⟨by rw [ren_blB]; simp only [ren_blB, List.map_cons, List.map_nil]; rfl, trivial⟩) ?_
         refine aw_region ?_
         refine st_p (mv rfl) rfl ?_
         refine st_o ((op_callq (hT) Try.func21 ⟨rfl, rfl⟩ rfl rfl (fun nx => (.cons ((.ownz)) .nil)) (by rintro _ _ _ ⟨rfl, rfl, rfl⟩; exact (Fzs.tup (.cons (Fzs.agg (.cons (.same rfl) (.cons (.same rfl) (.cons (.whole rfl hvl.symm hvp) (.cons (.whole rfl hvm.symm hvq) .nil))))) (.cons (.same rfl) (.cons (.same rfl) .nil)))))).ok) rfl ?_
         refine st_p (mv rfl) rfl ?_
         refine st_p (op_extract rfl rfl) rfl ?_
         refine st_p (op_extract rfl rfl) rfl ?_
         refine st_p (op_extract rfl rfl) rfl ?_
         refine st_o (op_alloc a26 rfl rfl) rfl ?_
         refine st_n (stA z26 rfl rfl rfl rfl rfl rfl rfl rfl rfl rfl) ?_
         refine st_p (mva rfl) rfl ?_
         refine st_p (mva rfl) rfl ?_
         refine al_nil ?_
         refine nm ?_
         refine aw_seq ?_
         refine aw_region ?_
         refine st_p (mv rfl) rfl ?_
         refine st_o ((op_callq (hR) Try.func22 ⟨rfl, rfl⟩ rfl rfl (fun nx => (.cons (.same (by rfl)) .nil)) (by rintro _ _ _ ⟨rfl, rfl, rfl⟩; exact (Fzs.tup (.cons (Fzs.agg (.cons (.same rfl) (.cons (.same rfl) (.cons (.whole rfl hvl.symm hvp) (.cons (.whole rfl hvm.symm hvq) .nil))))) (.cons (.same rfl) (.cons (.same rfl) .nil)))))).ok) rfl ?_
         refine st_p (mv rfl) rfl ?_
         refine st_p (op_extract rfl rfl) rfl ?_
         refine st_p (op_extract rfl rfl) rfl ?_
         refine st_p (op_extract rfl rfl) rfl ?_
         refine st_o (op_alloc a26 rfl rfl) rfl ?_
         refine st_n (stA z26 rfl rfl rfl rfl rfl rfl rfl rfl rfl rfl) ?_
         refine st_p (mva rfl) rfl ?_
         refine st_p (mva rfl) rfl ?_
         refine al_nil ?_
         refine nm ?_
         refine aw_seq ?_
         refine aw_region ?_
         refine st_p (op_loadA Try.underlying26 rfl z26 rfl rfl rfl rfl) rfl ?_
         refine st_p (op_loadA Try.underlying26 rfl z26 rfl rfl rfl rfl) rfl ?_
         refine st_o ((op_callq (hS1) Try.func14 ⟨rfl, rfl⟩ rfl rfl (fun nx => (.cons (.same (by rfl)) (.cons (.same (by rfl)) .nil))) (by rintro _ _ _ ⟨rfl, rfl, rfl⟩; exact .same rfl)).ok) rfl ?_
         refine st_p (mv rfl) rfl ?_
         refine st_pg rfl rfl rfl (op_loadA Try.underlying26 rfl z26 rfl rfl rfl rfl) rfl ?_
         refine st_pg rfl rfl rfl (op_loadA Try.underlying26 rfl z26 rfl rfl rfl rfl) rfl ?_
         refine st_og rfl rfl rfl ((op_callq (hS2) Try.func15 ⟨rfl, rfl⟩ rfl rfl (fun nx => (.cons (.same (by rfl)) (.cons (.same (by rfl)) .nil))) (by rintro _ _ _ ⟨rfl, rfl, rfl⟩; exact .same rfl)).ok) rfl ?_
         refine st_p (pkT rfl rfl) rfl ?_
         refine st_p (mv rfl) rfl ?_
         refine st_pg rfl rfl rfl (mv rfl) rfl ?_
         refine st_pg rfl rfl rfl (mv rfl) rfl ?_
         refine st_pg rfl rfl rfl (OpP.conv (op_eq rfl rfl) (yes (by first | assumption | omega))) rfl ?_
         refine st_p (pkT rfl rfl) rfl ?_
         refine st_p (mv rfl) rfl ?_
         refine st_pg rfl rfl rfl (mv rfl) rfl ?_
         refine st_pg rfl rfl rfl (mv rfl) rfl ?_
         refine st_pg rfl rfl rfl (OpP.conv (op_eqb Try.underlying4 rfl rfl) (eb_same _)) rfl ?_
         refine st_p (pkT rfl rfl) rfl ?_
         refine st_p (mv rfl) rfl ?_
         refine st_pg rfl rfl rfl (mv rfl) rfl ?_
         refine st_pg rfl rfl rfl (mv rfl) rfl ?_
         refine st_og rfl rfl rfl (op_callg [(0, 0)] 1 true [(0, .cells 1 (bl (roomL x4)))] [0] (hBk) Try.func23 ⟨rfl, rfl⟩ rfl rfl rfl rfl (by omega) (by intro p hp; simp only [List.mem_cons, List.not_mem_nil, or_false] at hp; rcases hp with rfl | rfl | rfl <;> exact ⟨by first | rfl | ((simp [hget, swp, Blk.ren, AV.ren, ints, Function.comp_def]) <;> rfl), rfl⟩) rfl (.cons (.same (by rfl)) (.cons (.same (by rfl)) .nil)) rfl rfl rfl) rfl ?_
         refine st_p (pkT rfl rfl) rfl ?_
         refine st_p (mva rfl) rfl ?_
         refine al_nil ?_
         refine nm ?_
         refine aw_ret ?_
         exact ret_a ⟨[(10, .bool true)], [], 0⟩ (le_to [] rfl rfl rfl rfl rfl ⟨rfl, trivial⟩ trivial) (res1 Try.results3) (.inr ⟨rfl, rfl⟩) rfl
        | false =>
         have hT := txn_Take_no x4 (by omega) hok
         have hR := ref_Take_no x4 (by omega) hok
         rw [hbe] at hT
         have hS1 := hdef ⟨0, 0, [], []⟩ (Nat.zero_le _) (Nat.zero_le _)
         have hS2 := hdef2 ⟨0, 0, [], []⟩ (Nat.zero_le _) (Nat.zero_le _)
         rw [(sameTxB_iff _ _).2 rfl] at hS1 hS2
         dsimp only [txA] at hS1 hS2 hT hR
         refine aw_seq ?_
         refine aw_seq ?_
         refine aw_region ?_
         refine st_p (mv rfl) rfl ?_
         refine st_p (OpP.conv (op_lt rfl rfl) (no (by first | assumption | omega))) rfl ?_
         refine al_nil ?_
         refine nm ?_
         refine aw_no (rfl) ?_
         refine aw_exit ?_
         refine xs ?_
         refine xs ?_
         refine xb ?_
         refine nm ?_
         refine aw_seq ?_
         refine aw_region ?_
         refine st_p (mv rfl) rfl ?_
         refine st_o (op_callg [] 0 false [] [] (hLe) Try.func20 ⟨rfl, rfl⟩ rfl rfl rfl rfl (by omega) (by intro p hp; cases hp) rfl (.cons (.same (by rfl)) .nil) rfl rfl rfl) rfl ?_
         refine st_p (mva rfl) rfl ?_
         refine al_nil ?_
         refine nm ?_
         refine aw_seq ?_
         refine aw_le (st' := ⟨[(4, .sl 1 (bl x4)), (20, .ownz 0 0)], [(0, .cells 1 (bl (roomL x4)))], 1⟩) (le_to [(0, 2)] rfl rfl rfl rfl rfl ⟨rfl, rfl, trivial⟩ ⟨by rw [ren_blB]; simp only [ren_blB, List.map_cons, List.map_nil]; rfl, trivial⟩) ?_
         refine aw_region ?_
         refine st_p (mv rfl) rfl ?_
         refine st_o ((op_callq (hT) Try.func21 ⟨rfl, rfl⟩ rfl rfl (fun nx => (.cons ((.ownz)) .nil)) (by rintro _ _ _ ⟨rfl, rfl, rfl⟩; exact .same rfl)).ok) rfl ?_
         refine st_p (mv rfl) rfl ?_
         refine st_p (op_extract rfl rfl) rfl ?_
         refine st_p (op_extract rfl rfl) rfl ?_
         refine st_p (op_extract rfl rfl) rfl ?_
         refine st_o (op_alloc a26 rfl rfl) rfl ?_
         refine st_n (stA z26 rfl rfl rfl rfl rfl rfl rfl rfl rfl rfl) ?_
         refine st_p (mva rfl) rfl ?_
         refine st_p (mva rfl) rfl ?_
         refine al_nil ?_
         refine nm ?_
         refine aw_seq ?_
         refine aw_region ?_
         refine st_p (mv rfl) rfl ?_
         refine st_o ((op_callq (hR) Try.func22 ⟨rfl, rfl⟩ rfl rfl (fun nx => (.cons (.same (by rfl)) .nil)) (by rintro _ _ _ ⟨rfl, rfl, rfl⟩; exact .same rfl)).ok) rfl ?_
         refine st_p (mv rfl) rfl ?_
         refine st_p (op_extract rfl rfl) rfl ?_
         refine st_p (op_extract rfl rfl) rfl ?_
         refine st_p (op_extract rfl rfl) rfl ?_
         refine st_o (op_alloc a26 rfl rfl) rfl ?_
         refine st_n (stA z26 rfl rfl rfl rfl rfl rfl rfl rfl rfl rfl) ?_
         refine st_p (mva rfl) rfl ?_
         refine st_p (mva rfl) rfl ?_
         refine al_nil ?_
         refine nm ?_
         refine aw_seq ?_
         refine aw_region ?_
         refine st_p (op_loadA Try.underlying26 rfl z26 rfl rfl rfl rfl) rfl ?_
         refine st_p (op_loadA Try.underlying26 rfl z26 rfl rfl rfl rfl) rfl ?_
         refine st_o ((op_callq (hS1) Try.func14 ⟨rfl, rfl⟩ rfl rfl (fun nx => (.cons (.same (by rfl)) (.cons (.same (by rfl)) .nil))) (by rintro _ _ _ ⟨rfl, rfl, rfl⟩; exact .same rfl)).ok) rfl ?_
         refine st_p (mv rfl) rfl ?_
         refine st_pg rfl rfl rfl (op_loadA Try.underlying26 rfl z26 rfl rfl rfl rfl) rfl ?_
         refine st_pg rfl rfl rfl (op_loadA Try.underlying26 rfl z26 rfl rfl rfl rfl) rfl ?_
         refine st_og rfl rfl rfl ((op_callq (hS2) Try.func15 ⟨rfl, rfl⟩ rfl rfl (fun nx => (.cons (.same (by rfl)) (.cons (.same (by rfl)) .nil))) (by rintro _ _ _ ⟨rfl, rfl, rfl⟩; exact .same rfl)).ok) rfl ?_
         refine st_p (pkT rfl rfl) rfl ?_
         refine st_p (mv rfl) rfl ?_
         refine st_pg rfl rfl rfl (mv rfl) rfl ?_
         refine st_pg rfl rfl rfl (mv rfl) rfl ?_
         refine st_pg rfl rfl rfl (OpP.conv (op_eq rfl rfl) (yes (by first | assumption | omega))) rfl ?_
         refine st_p (pkT rfl rfl) rfl ?_
         refine st_p (mv rfl) rfl ?_
         refine st_pg rfl rfl rfl (mv rfl) rfl ?_
         refine st_pg rfl rfl rfl (mv rfl) rfl ?_
         refine st_pg rfl rfl rfl (OpP.conv (op_eqb Try.underlying4 rfl rfl) (eb_same _)) rfl ?_
         refine st_p (pkT rfl rfl) rfl ?_
         refine st_p (mv rfl) rfl ?_
         refine st_pg rfl rfl rfl (mv rfl) rfl ?_
         refine st_pg rfl rfl rfl (mv rfl) rfl ?_
         refine st_og rfl rfl rfl (op_callg [(0, 0)] 1 true [(0, .cells 1 (bl (roomL x4)))] [0] (hBk) Try.func23 ⟨rfl, rfl⟩ rfl rfl rfl rfl (by omega) (by intro p hp; simp only [List.mem_cons, List.not_mem_nil, or_false] at hp; rcases hp with rfl | rfl | rfl <;> exact ⟨by first | rfl | ((simp [hget, swp, Blk.ren, AV.ren, ints, Function.comp_def]) <;> rfl), rfl⟩) rfl (.cons (.same (by rfl)) (.cons (.same (by rfl)) .nil)) rfl rfl rfl) rfl ?_
         refine st_p (pkT rfl rfl) rfl ?_
         refine st_p (mva rfl) rfl ?_
         refine al_nil ?_
         refine nm ?_
         refine aw_ret ?_
         exact ret_a ⟨[(10, .bool true)], [], 0⟩ (le_to [] rfl rfl rfl rfl rfl ⟨rfl, trivial⟩ trivial) (res1 Try.results3) (.inr ⟨rfl, rfl⟩) rfl
       ·have hLe := lent_bytes x4 (by omega)
        have hBk := back_bytes x4 (by omega) (List.length_pos_iff.2 hne)
        have hroom : ((bl (roomL x4)).drop 0).take x4.length = bl x4 := by rw [List.drop_zero, bl_take, roomL_take]
        cases hok : takeOk x4 with
        | true =>
         have hT := txn_Take_yes x4 (by omega) hok
         have hR := ref_Take_yes x4 (by omega) hok
         have hmv := (takeOk_pre hok).1
         rw [← hroom] at hT
         generalize takeT x4 = v at hT hR hmv
         unfold mayTxB at hmv
         simp only [Bool.and_eq_true, decide_eq_true_eq] at hmv
         obtain ⟨_, _, _, _, z5, _, z7, _⟩ := hmv
         have hS1 := hdef v (by omega) (by omega)
         have hS2 := hdef2 v (by omega) (by omega)
         rw [(sameTxB_iff v v).2 rfl] at hS1 hS2
         dsimp only [txA] at hS1 hS2
         have hvl : (v.reads.map rdA).length = v.reads.length := List.length_map _
         have hvm : (v.writes.map wrA).length = v.writes.length := List.length_map _
         have hvp : (v.reads.map rdA).all AV.plain = true := by simp [AV.plain, plains, rdA, sb]
         have hvq : (v.writes.map wrA).all AV.plain = true := by simp [AV.plain, plains, wrA, sb]
         refine aw_seq ?_
         refine aw_seq ?_
         refine aw_region ?_
         refine st_p (mv rfl) rfl ?_
         refine st_p (OpP.conv (op_lt rfl rfl) (no (by first | assumption | omega))) rfl ?_
         refine al_nil ?_
         refine nm ?_
         refine aw_no (rfl) ?_
         refine aw_exit ?_
         refine xs ?_
         refine xs ?_
         refine xb ?_
         refine nm ?_
         refine aw_seq ?_
         refine aw_region ?_
         refine st_p (mv rfl) rfl ?_
         refine st_o (op_callg [] 0 false [] [] (hLe) Try.func20 ⟨rfl, rfl⟩ rfl rfl rfl rfl (by omega) (by intro p hp; cases hp) rfl (.cons (.same (by rfl)) .nil) rfl rfl rfl) rfl ?_
         refine st_p (mva rfl) rfl ?_
         refine al_nil ?_
         refine nm ?_
         refine aw_seq ?_
         refine aw_le (st' := ⟨[(4, .sl 1 (bl x4)), (20, .own 0 0 x4.length)], [(0, .cells 1 (bl (roomL x4)))], 1⟩) (le_to [(0, 2)] rfl rfl rfl rfl rfl ⟨rfl, rfl, trivial⟩ ⟨by rw [ren_blB]; simp only [ren_blB, List.map_cons, List.map_nil]; rfl, trivial⟩) ?_
         refine aw_region ?_
         refine st_p (mv rfl) rfl ?_
         refine st_o ((op_callq (hT) Try.func21 ⟨rfl, rfl⟩ rfl rfl (fun nx => (.cons ((.own rfl rfl rfl (by omega) hrpl)) .nil)) (by rintro _ _ _ ⟨rfl, rfl, rfl⟩; exact (Fzs.tup (.cons (Fzs.agg (.cons (.same rfl) (.cons (.same rfl) (.cons (.whole rfl hvl.symm hvp) (.cons (.whole rfl hvm.symm hvq) .nil))))) (.cons (.same rfl) (.cons (.same rfl) .nil)))))).ok) rfl ?_
         refine st_p (mv rfl) rfl ?_
         refine st_p (op_extract rfl rfl) rfl ?_
         refine st_p (op_extract rfl rfl) rfl ?_
         refine st_p (op_extract rfl rfl) rfl ?_
         refine st_o (op_alloc a26 rfl rfl) rfl ?_
         refine st_n (stA z26 rfl rfl rfl rfl rfl rfl rfl rfl rfl rfl) ?_
         refine st_p (mva rfl) rfl ?_
         refine st_p (mva rfl) rfl ?_
         refine al_nil ?_
         refine nm ?_
         refine aw_seq ?_
         refine aw_region ?_
         refine st_p (mv rfl) rfl ?_
         refine st_o ((op_callq (hR) Try.func22 ⟨rfl, rfl⟩ rfl rfl (fun nx => (.cons (.same (by rfl)) .nil)) (by rintro _ _ _ ⟨rfl, rfl, rfl⟩; exact (Fzs.tup (.cons (Fzs.agg (.cons (.same rfl) (.cons (.same rfl) (.cons (.whole rfl hvl.symm hvp) (.cons (.whole rfl hvm.symm hvq) .nil))))) (.cons (.same rfl) (.cons (.same rfl) .nil)))))).ok) rfl ?_
         refine st_p (mv rfl) rfl ?_
         refine st_p (op_extract rfl rfl) rfl ?_
         refine st_p (op_extract rfl rfl) rfl ?_
         refine st_p (op_extract rfl rfl) rfl ?_
         refine st_o (op_alloc a26 rfl rfl) rfl ?_
         refine st_n (stA z26 rfl rfl rfl rfl rfl rfl rfl rfl rfl rfl) ?_
         refine st_p (mva rfl) rfl ?_
         refine st_p (mva rfl) rfl ?_
         refine al_nil ?_
         refine nm ?_
         refine aw_seq ?_
         refine aw_region ?_
         refine st_p (op_loadA Try.underlying26 rfl z26 rfl rfl rfl rfl) rfl ?_
         refine st_p (op_loadA Try.underlying26 rfl z26 rfl rfl rfl rfl) rfl ?_
         refine st_o ((op_callq (hS1) Try.func14 ⟨rfl, rfl⟩ rfl rfl (fun nx => (.cons (.same (by rfl)) (.cons (.same (by rfl)) .nil))) (by rintro _ _ _ ⟨rfl, rfl, rfl⟩; exact .same rfl)).ok) rfl ?_
         refine st_p (mv rfl) rfl ?_
         refine st_pg rfl rfl rfl (op_loadA Try.underlying26 rfl z26 rfl rfl rfl rfl) rfl ?_
         refine st_pg rfl rfl rfl (op_loadA Try.underlying26 rfl z26 rfl rfl rfl rfl) rfl ?_
         refine st_og rfl rfl rfl ((op_callq (hS2) Try.func15 ⟨rfl, rfl⟩ rfl rfl (fun nx => (.cons (.same (by rfl)) (.cons (.same (by rfl)) .nil))) (by rintro _ _ _ ⟨rfl, rfl, rfl⟩; exact .same rfl)).ok) rfl ?_
         refine st_p (pkT rfl rfl) rfl ?_
         refine st_p (mv rfl) rfl ?_
         refine st_pg rfl rfl rfl (mv rfl) rfl ?_
         refine st_pg rfl rfl rfl (mv rfl) rfl ?_
         refine st_pg rfl rfl rfl (OpP.conv (op_eq rfl rfl) (yes (by first | assumption | omega))) rfl ?_
         refine st_p (pkT rfl rfl) rfl ?_
         refine st_p (mv rfl) rfl ?_
         refine st_pg rfl rfl rfl (mv rfl) rfl ?_
         refine st_pg rfl rfl rfl (mv rfl) rfl ?_
         refine st_pg rfl rfl rfl (OpP.conv (op_eqb Try.underlying4 rfl rfl) (eb_same _)) rfl ?_
         refine st_p (pkT rfl rfl) rfl ?_
         refine st_p (mv rfl) rfl ?_
         refine st_pg rfl rfl rfl (mv rfl) rfl ?_
         refine st_pg rfl rfl rfl (mv rfl) rfl ?_
         refine st_og rfl rfl rfl (op_callg [(0, 0)] 1 true [(0, .cells 1 (bl (roomL x4)))] [0] (hBk) Try.func23 ⟨rfl, rfl⟩ rfl rfl rfl rfl (by omega) (by intro p hp; simp only [List.mem_cons, List.not_mem_nil, or_false] at hp; rcases hp with rfl | rfl | rfl <;> exact ⟨by first | rfl | ((simp [hget, swp, Blk.ren, AV.ren, ints, Function.comp_def]) <;> rfl), rfl⟩) rfl (.cons (.same (by rfl)) (.cons (.same (by rfl)) .nil)) rfl rfl rfl) rfl ?_
         refine st_p (pkT rfl rfl) rfl ?_
         refine st_p (mva rfl) rfl ?_
         refine al_nil ?_
         refine nm ?_
         refine aw_ret ?_
         exact ret_a ⟨[(10, .bool true)], [], 0⟩ (le_to [] rfl rfl rfl rfl rfl ⟨rfl, trivial⟩ trivial) (res1 Try.results3) (.inr ⟨rfl, rfl⟩) rfl
        | false =>
         have hT := txn_Take_no x4 (by omega) hok
         have hR := ref_Take_no x4 (by omega) hok
         rw [← hroom] at hT
         have hS1 := hdef ⟨0, 0, [], []⟩ (Nat.zero_le _) (Nat.zero_le _)
         have hS2 := hdef2 ⟨0, 0, [], []⟩ (Nat.zero_le _) (Nat.zero_le _)
         rw [(sameTxB_iff _ _).2 rfl] at hS1 hS2
         dsimp only [txA] at hS1 hS2 hT hR
         refine aw_seq ?_
         refine aw_seq ?_
         refine aw_region ?_
         refine st_p (mv rfl) rfl ?_
         refine st_p (OpP.conv (op_lt rfl rfl) (no (by first | assumption | omega))) rfl ?_
         refine al_nil ?_
         refine nm ?_
         refine aw_no (rfl) ?_
         refine aw_exit ?_
         refine xs ?_
         refine xs ?_
         refine xb ?_
         refine nm ?_
         refine aw_seq ?_
         refine aw_region ?_
         refine st_p (mv rfl) rfl ?_
         refine st_o (op_callg [] 0 false [] [] (hLe) Try.func20 ⟨rfl, rfl⟩ rfl rfl rfl rfl (by omega) (by intro p hp; cases hp) rfl (.cons (.same (by rfl)) .nil) rfl rfl rfl) rfl ?_
         refine st_p (mva rfl) rfl ?_
         refine al_nil ?_
         refine nm ?_
         refine aw_seq ?_
         refine aw_le (st' := ⟨[(4, .sl 1 (bl x4)), (20, .own 0 0 x4.length)], [(0, .cells 1 (bl (roomL x4)))], 1⟩) (le_to [(0, 2)] rfl rfl rfl rfl rfl ⟨rfl, rfl, trivial⟩ ⟨by rw [ren_blB]; simp only [ren_blB, List.map_cons, List.map_nil]; rfl, trivial⟩) ?_
         refine aw_region ?_
         refine st_p (mv rfl) rfl ?_
         refine st_o ((op_callq (hT) Try.func21 ⟨rfl, rfl⟩ rfl rfl (fun nx => (.cons ((.own rfl rfl rfl (by omega) hrpl)) .nil)) (by rintro _ _ _ ⟨rfl, rfl, rfl⟩; exact .same rfl)).ok) rfl ?_
         refine st_p (mv rfl) rfl ?_
         refine st_p (op_extract rfl rfl) rfl ?_
         refine st_p (op_extract rfl rfl) rfl ?_
         refine st_p (op_extract rfl rfl) rfl ?_
         refine st_o (op_alloc a26 rfl rfl) rfl ?_
         refine st_n (stA z26 rfl rfl rfl rfl rfl rfl rfl rfl rfl rfl) ?_
         refine st_p (mva rfl) rfl ?_
         refine st_p (mva rfl) rfl ?_
         refine al_nil ?_
         refine nm ?_
         refine aw_seq ?_
         refine aw_region ?_
         refine st_p (mv rfl) rfl ?_
         refine st_o ((op_callq (hR) Try.func22 ⟨rfl, rfl⟩ rfl rfl (fun nx => (.cons (.same (by rfl)) .nil)) (by rintro _ _ _ ⟨rfl, rfl, rfl⟩; exact .same rfl)).ok) rfl ?_
         refine st_p (mv rfl) rfl ?_
         refine st_p (op_extract rfl rfl) rfl ?_
         refine st_p (op_extract rfl rfl) rfl ?_
         refine st_p (op_extract rfl rfl) rfl ?_
         refine st_o (op_alloc a26 rfl rfl) rfl ?_
         refine st_n (stA z26 rfl rfl rfl rfl rfl rfl rfl rfl rfl rfl) ?_
         refine st_p (mva rfl) rfl ?_
         refine st_p (mva rfl) rfl ?_
         refine al_nil ?_
         refine nm ?_
         refine aw_seq ?_
         refine aw_region ?_
         refine st_p (op_loadA Try.underlying26 rfl z26 rfl rfl rfl rfl) rfl ?_
         refine st_p (op_loadA Try.underlying26 rfl z26 rfl rfl rfl rfl) rfl ?_
         refine st_o ((op_callq (hS1) Try.func14 ⟨rfl, rfl⟩ rfl rfl (fun nx => (.cons (.same (by rfl)) (.cons (.same (by rfl)) .nil))) (by rintro _ _ _ ⟨rfl, rfl, rfl⟩; exact .same rfl)).ok) rfl ?_
         refine st_p (mv rfl) rfl ?_
         refine st_pg rfl rfl rfl (op_loadA Try.underlying26 rfl z26 rfl rfl rfl rfl) rfl ?_
         refine st_pg rfl rfl rfl (op_loadA Try.underlying26 rfl z26 rfl rfl rfl rfl) rfl ?_
         refine st_og rfl rfl rfl ((op_callq (hS2) Try.func15 ⟨rfl, rfl⟩ rfl rfl (fun nx => (.cons (.same (by rfl)) (.cons (.same (by rfl)) .nil))) (by rintro _ _ _ ⟨rfl, rfl, rfl⟩; exact .same rfl)).ok) rfl ?_
         refine st_p (pkT rfl rfl) rfl ?_
         refine st_p (mv rfl) rfl ?_
         refine st_pg rfl rfl rfl (mv rfl) rfl ?_
         refine st_pg rfl rfl rfl (mv rfl) rfl ?_
         refine st_pg rfl rfl rfl (OpP.conv (op_eq rfl rfl) (yes (by first | assumption | omega))) rfl ?_
         refine st_p (pkT rfl rfl) rfl ?_
         refine st_p (mv rfl) rfl ?_
         refine st_pg rfl rfl rfl (mv rfl) rfl ?_
         refine st_pg rfl rfl rfl (mv rfl) rfl ?_
         refine st_pg rfl rfl rfl (OpP.conv (op_eqb Try.underlying4 rfl rfl) (eb_same _)) rfl ?_
         refine st_p (pkT rfl rfl) rfl ?_
         refine st_p (mv rfl) rfl ?_
         refine st_pg rfl rfl rfl (mv rfl) rfl ?_
         refine st_pg rfl rfl rfl (mv rfl) rfl ?_
         refine st_og rfl rfl rfl (op_callg [(0, 0)] 1 true [(0, .cells 1 (bl (roomL x4)))] [0] (hBk) Try.func23 ⟨rfl, rfl⟩ rfl rfl rfl rfl (by omega) (by intro p hp; simp only [List.mem_cons, List.not_mem_nil, or_false] at hp; rcases hp with rfl | rfl | rfl <;> exact ⟨by first | rfl | ((simp [hget, swp, Blk.ren, AV.ren, ints, Function.comp_def]) <;> rfl), rfl⟩) rfl (.cons (.same (by rfl)) (.cons (.same (by rfl)) .nil)) rfl rfl rfl) rfl ?_
         refine st_p (pkT rfl rfl) rfl ?_
         refine st_p (mva rfl) rfl ?_
         refine al_nil ?_
         refine nm ?_
         refine aw_ret ?_
         exact ret_a ⟨[(10, .bool true)], [], 0⟩ (le_to [] rfl rfl rfl rfl rfl ⟨rfl, trivial⟩ trivial) (res1 Try.results3) (.inr ⟨rfl, rfl⟩) rfl
    ·skip
     refine ac_fn Try.func3 rfl rfl rfl rfl (fun w0 S0 r0 => ?_)
     refine aw_seq ?_
     refine aw_region ?_
     refine st_o (bx rfl rfl) rfl ?_
     refine st_p (mva rfl) rfl ?_
     refine al_nil ?_
     refine nm ?_
     refine aw_seq ?_
     refine aw_seq ?_
     refine aw_region ?_
     refine st_o ((op_callq (hb) Try.func6 ⟨rfl, rfl⟩ rfl rfl (fun nx => .nil) (by rintro _ _ _ ⟨rfl, rfl, rfl⟩; exact .same rfl)).ok) rfl ?_
     refine st_p (op_notT rfl) rfl ?_
     refine al_nil ?_
     refine nm ?_
     refine aw_no (rfl) ?_
     refine aw_skip ?_
     refine nm ?_
     refine aw_seq ?_
     refine aw_seq ?_
     refine aw_region ?_
     refine st_p (mv rfl) rfl ?_
     refine st_p (op_len Try.underlying22 rfl) rfl ?_
     refine st_p (OpP.conv (op_gt rfl rfl) (no (by first | assumption | omega))) rfl ?_
     refine st_p (mv rfl) rfl ?_
     refine st_pg rfl rfl rfl (op_loadA Try.underlying26 rfl z26 rfl rfl rfl rfl) rfl ?_
     refine st_og rfl rfl rfl ((op_callq (hli) Try.func7 ⟨rfl, rfl⟩ rfl rfl (fun nx => (.cons (.same (by rfl)) .nil)) (by rintro _ _ _ ⟨rfl, rfl, rfl⟩; exact .same rfl)).ok) rfl ?_
     refine st_pg rfl rfl rfl (op_notT rfl) rfl ?_
     refine st_p (pkF rfl rfl) rfl ?_
     refine st_p (mv rfl) rfl ?_
     refine st_pg rfl rfl rfl (mv rfl) rfl ?_
     refine st_pg rfl rfl rfl (op_len Try.underlying22 rfl) rfl ?_
     refine st_pg rfl rfl rfl (OpP.conv (op_gt rfl rfl) (no (by first | assumption | omega))) rfl ?_
     refine st_p (pkF rfl rfl) rfl ?_
     refine st_p (mv rfl) rfl ?_
     refine st_pg rfl rfl rfl (mv rfl) rfl ?_
     refine st_pg rfl rfl rfl (OpP.conv (op_gt rfl rfl) (yes (by first | assumption | omega))) rfl ?_
     refine st_p (pkF rfl rfl) rfl ?_
     refine al_nil ?_
     refine nm ?_
     refine aw_yes (rfl) ?_
     refine aw_seq ?_
     refine aw_region ?_
     refine st_p (mva rfl) rfl ?_
     refine al_nil ?_
     refine nm ?_
     refine aw_ret ?_
     refine rs ?_
     exact ret_a ⟨[(10, .bool true)], [], 0⟩ (le_to [] rfl rfl rfl rfl rfl ⟨rfl, trivial⟩ trivial) (res1 Try.results3) (.inr ⟨rfl, rfl⟩) rfl
   ·skip
    refine ac_fn Try.func3 rfl rfl rfl rfl (fun w0 S0 r0 => ?_)
    refine aw_seq ?_
    refine aw_region ?_
    refine st_o (bx rfl rfl) rfl ?_
    refine st_p (mva rfl) rfl ?_
    refine al_nil ?_
    refine nm ?_
    refine aw_seq ?_
    refine aw_seq ?_
    refine aw_region ?_
    refine st_o ((op_callq (hb) Try.func6 ⟨rfl, rfl⟩ rfl rfl (fun nx => .nil) (by rintro _ _ _ ⟨rfl, rfl, rfl⟩; exact .same rfl)).ok) rfl ?_
    refine st_p (op_notT rfl) rfl ?_
    refine al_nil ?_
    refine nm ?_
    refine aw_no (rfl) ?_
    refine aw_skip ?_
    refine nm ?_
    refine aw_seq ?_
    refine aw_seq ?_
    refine aw_region ?_
    refine st_p (mv rfl) rfl ?_
    refine st_p (op_len Try.underlying22 rfl) rfl ?_
    refine st_p (OpP.conv (op_gt rfl rfl) (no (by first | assumption | omega))) rfl ?_
    refine st_p (mv rfl) rfl ?_
    refine st_pg rfl rfl rfl (op_loadA Try.underlying26 rfl z26 rfl rfl rfl rfl) rfl ?_
    refine st_og rfl rfl rfl ((op_callq (hli) Try.func7 ⟨rfl, rfl⟩ rfl rfl (fun nx => (.cons (.same (by rfl)) .nil)) (by rintro _ _ _ ⟨rfl, rfl, rfl⟩; exact .same rfl)).ok) rfl ?_
    refine st_pg rfl rfl rfl (op_notT rfl) rfl ?_
    refine st_p (pkF rfl rfl) rfl ?_
    refine st_p (mv rfl) rfl ?_
    refine st_pg rfl rfl rfl (mv rfl) rfl ?_
    refine st_pg rfl rfl rfl (op_len Try.underlying22 rfl) rfl ?_
    refine st_pg rfl rfl rfl (OpP.conv (op_gt rfl rfl) (yes (by first | assumption | omega))) rfl ?_
    refine st_p (pkF rfl rfl) rfl ?_
    refine st_p (mv rfl) rfl ?_
    refine st_s rfl rfl rfl rfl rfl ?_
    refine st_s rfl rfl rfl rfl rfl ?_
    refine st_p (pkT rfl rfl) rfl ?_
    refine al_nil ?_
    refine nm ?_
    refine aw_yes (rfl) ?_
    refine aw_seq ?_
    refine aw_region ?_
    refine st_p (mva rfl) rfl ?_
    refine al_nil ?_
    refine nm ?_
    refine aw_ret ?_
    refine rs ?_
    exact ret_a ⟨[(10, .bool true)], [], 0⟩ (le_to [] rfl rfl rfl rfl rfl ⟨rfl, trivial⟩ trivial) (res1 Try.results3) (.inr ⟨rfl, rfl⟩) rfl
 ·skip
  refine ac_fn Try.func3 rfl rfl rfl rfl (fun w0 S0 r0 => ?_)
  refine aw_seq ?_
  refine aw_region ?_
  refine st_o (bx rfl rfl) rfl ?_
  refine st_p (mva rfl) rfl ?_
  refine al_nil ?_
  refine nm ?_
  refine aw_seq ?_
  refine aw_seq ?_
  refine aw_region ?_
  refine st_o ((op_callq (hb) Try.func6 ⟨rfl, rfl⟩ rfl rfl (fun nx => .nil) (by rintro _ _ _ ⟨rfl, rfl, rfl⟩; exact .same rfl)).ok) rfl ?_
  refine st_p (op_notT rfl) rfl ?_
  refine al_nil ?_
  refine nm ?_
  refine aw_no (rfl) ?_
  refine aw_skip ?_
  refine nm ?_
  refine aw_seq ?_
  refine aw_seq ?_
  refine aw_region ?_
  refine st_p (mv rfl) rfl ?_
  refine st_p (op_len Try.underlying22 rfl) rfl ?_
  refine st_p (OpP.conv (op_gt rfl rfl) (yes (by first | assumption | omega))) rfl ?_
  refine st_p (mv rfl) rfl ?_
  refine st_s rfl rfl rfl rfl rfl ?_
  refine st_s rfl rfl rfl rfl rfl ?_
  refine st_s rfl rfl rfl rfl rfl ?_
  refine st_p (pkT rfl rfl) rfl ?_
  refine st_p (mv rfl) rfl ?_
  refine st_s rfl rfl rfl rfl rfl ?_
  refine st_s rfl rfl rfl rfl rfl ?_
  refine st_s rfl rfl rfl rfl rfl ?_
  refine st_p (pkT rfl rfl) rfl ?_
  refine st_p (mv rfl) rfl ?_
  refine st_s rfl rfl rfl rfl rfl ?_
  refine st_s rfl rfl rfl rfl rfl ?_
  refine st_p (pkT rfl rfl) rfl ?_
  refine al_nil ?_
  refine nm ?_
  refine aw_yes (rfl) ?_
  refine aw_seq ?_
  refine aw_region ?_
  refine st_p (mva rfl) rfl ?_
  refine al_nil ?_
  refine nm ?_
  refine aw_ret ?_
  refine rs ?_
  exact ret_a ⟨[(10, .bool true)], [], 0⟩ (le_to [] rfl rfl rfl rfl rfl ⟨rfl, trivial⟩ trivial) (res1 Try.results3) (.inr ⟨rfl, rfl⟩) rfl

end Go.Proofs.Ytpggknkhldecaaa.Abs
end
section
namespace Go.Proofs.Ytpggknkhldecaaa.Abs

set_option maxRecDepth 100000 in
theorem law_TxnAll (x0 : List UInt8) (x1 : (Int) × (Int) × (List ((List UInt8) × (Int) × (List UInt8) × (Bool))) × (List ((List UInt8) × (List UInt8) × (Bool)))) (x2 : Int) (x3 : Int) (x4 : List UInt8)
  (g0 : (fun l : List UInt8 => l.length ≤ reachBytes) x0)
  (g1 : (fun p : (Int) × (Int) × (List ((List UInt8) × (Int) × (List UInt8) × (Bool))) × (List ((List UInt8) × (List UInt8) × (Bool))) => (fun n : Int => (Lit.int .i64 n).wf = true) p.1 ∧ (fun n : Int => (Lit.int .i64 n).wf = true) p.2.1 ∧ (fun l : List ((List UInt8) × (Int) × (List UInt8) × (Bool)) => (∀ x ∈ l, (fun p : (List UInt8) × (Int) × (List UInt8) × (Bool) => (fun l : List UInt8 => l.length ≤ reachBytes) p.1 ∧ (fun n : Int => (Lit.int .i64 n).wf = true) p.2.1 ∧ (fun l : List UInt8 => l.length ≤ reachBytes) p.2.2.1 ∧ (fun _ : Bool => True) p.2.2.2) x) ∧ l.length ≤ reachBytes) p.2.2.1 ∧ (fun l : List ((List UInt8) × (List UInt8) × (Bool)) => (∀ x ∈ l, (fun p : (List UInt8) × (List UInt8) × (Bool) => (fun l : List UInt8 => l.length ≤ reachBytes) p.1 ∧ (fun l : List UInt8 => l.length ≤ reachBytes) p.2.1 ∧ (fun _ : Bool => True) p.2.2) x) ∧ l.length ≤ reachBytes) p.2.2.2) x1)
  (g2 : (fun n : Int => (Lit.int .i64 n).wf = true) x2)
  (g3 : (fun n : Int => (Lit.int .i64 n).wf = true) x3)
  (g4 : (fun l : List UInt8 => l.length ≤ reachBytes) x4) :
  AC Try.prog 3 [(fun l : List UInt8 => AV.sl 1 (bl l)) x0, (fun p : (Int) × (Int) × (List ((List UInt8) × (Int) × (List UInt8) × (Bool))) × (List ((List UInt8) × (List UInt8) × (Bool))) => AV.agg (((AV.int .i64) p.1).cells ++ ((AV.int .i64) p.2.1).cells ++ ((fun l : List ((List UInt8) × (Int) × (List UInt8) × (Bool)) => AV.sl 4 (l.map (fun p : (List UInt8) × (Int) × (List UInt8) × (Bool) => AV.agg ((sb p.1).cells ++ ((AV.int .i64) p.2.1).cells ++ (sb p.2.2.1).cells ++ (AV.bool p.2.2.2).cells)))) p.2.2.1).cells ++ ((fun l : List ((List UInt8) × (List UInt8) × (Bool)) => AV.sl 3 (l.map (fun p : (List UInt8) × (List UInt8) × (Bool) => AV.agg ((sb p.1).cells ++ (sb p.2.1).cells ++ (AV.bool p.2.2).cells)))) p.2.2.2).cells)) x1, (AV.int .i64) x2, (AV.int .i64) x3, (fun l : List UInt8 => AV.sl 1 (bl l)) x4] [] 0 false (fun r _ _ => r = .bool true) := by
 have hR : reachBytes ≤ 281474976710656 := by decide
 dsimp only at g0 g1 g4
 obtain ⟨g1a, g1b, ⟨g1c, g1d⟩, g1e, g1f⟩ := g1
 have h := txnAll_of x0 ⟨x1.1, x1.2.1, x1.2.2.1.map (fun p => (⟨p.1, p.2.1, p.2.2.1, p.2.2.2⟩ : RD)), x1.2.2.2.map (fun p => (⟨p.1, p.2.1, p.2.2⟩ : WR))⟩ x2 x3 x4 (Nat.le_trans g0 hR) (Nat.le_trans g4 hR)
  (fun r hr => by
   obtain ⟨p, hp, rfl⟩ := List.mem_map.1 hr
   have := (g1c p hp).2.1
   simp only [Lit.wf, Bool.and_eq_true, decide_eq_true_eq] at this
   exact this.2)
  (by rw [List.length_map]; omega) (by rw [List.length_map]; omega)
  (fun r hr => by
   obtain ⟨p, hp, rfl⟩ := List.mem_map.1 hr
   have h1 := (g1c p hp).1
   have h2 := (g1c p hp).2.2.1
   exact ⟨Nat.le_trans h1 hR, Nat.le_trans h2 hR⟩)
  (fun r hr => by
   obtain ⟨p, hp, rfl⟩ := List.mem_map.1 hr
   have h1 := (g1e p hp).1
   have h2 := (g1e p hp).2.1
   exact ⟨Nat.le_trans h1 hR, Nat.le_trans h2 hR⟩)
 simp only [txA, List.map_map] at h
 exact h

end Go.Proofs.Ytpggknkhldecaaa.Abs
end
