/- Written by a program of this session (alaw.py): the row of a law, out of its contract. -/
import Derived.Test.YtpggknkhldecaaaRows
import Derived.Test.YtpggknkhldecaaaBTxnAll5
import Derived.Test.YtpggknkhldecaaaBTxnAll2
import Derived.WalkKit
import Derived.ProofKit
import Derived.OpenShut
import Derived.ShutString
import Derived.ChangeOld
import Derived.Below
import Derived.SizedLaws
namespace Go.Proofs.Ytpggknkhldecaaa.txnAll
open Go.ChangeShapes Go.WideShapes Go.ChangeAt Go.RowKit Go.Proofs.Ytpggknkhldecaaa.Abs
open Go.ChangeMaps (open_string shut_string)
set_option linter.unusedVariables false
theorem own : ownKnob Try.prog.godebug = none := by kernel_rfl
theorem laidOut : laidOutB Try.prog = true := by kernel_rfl
set_option maxRecDepth 100000 in
set_option maxHeartbeats 4000000 in
theorem lifted (os : Os) (started : os.Started) (H : Type) (enc : TypeId × Value → H) :
    ReturnsInHanded {} Try.checked os 3 .any (Rows.txnAllSpec.pre6 enc Try.prog Try.f3 Rows.txnAllRow.domain false) (Rows.txnAllSpec.post enc Try.prog Try.f3 false true false false) := by
  refine returnsInHanded_of_change_sized (C := Try.checked) own started (by kernel_rfl) Try.func3
    (ChangeSpec.witness6 (enc := enc) (C := Try.checked) false ⟨#[], #[.slice none 0 0, .agg #[.int .i64 0, .int .i64 0, .slice none 0 0, .slice none 0 0], .int .i64 0, .int .i64 0, .slice none 0 0], []⟩ 8 (by kernel_rfl) (by kernel_rfl) (by kernel_rfl) (by kernel_rfl)) ?_
  intro W base args ds gs before hval0 hW hcnd hsz0 _
  have hsz : (DataW.weightsEach Try.prog (Try.f3.params.toList ++ Rows.txnAllSpec.plain.varTypes Try.prog) (ds ++ gs)).all (· ≤ reachBytes) = true := hsz0
  have hval : ∀ (j : Nat) t v, Try.f3.params[j]? = some t → args[j]? = some v → Value.okWide Try.prog W .any base t v := hval0
  have hW' := hW
  obtain ⟨p, q, hA0, hV, rfl, hfz, hnd⟩ := hW
  have hA : DataW.TrodAll enc Try.prog W 0 (fun _ => true) true Try.f3.params.toList args.toList ds p := hA0
  rw [Try.params3] at hA hval hsz
  obtain ⟨v0, vs0, d0, ds0, p0, q0, hargs, rfl, rfl, h0, r0⟩ := trodAll_cons hA
  obtain ⟨v1, vs1, d1, ds1, p1, q1, rfl, rfl, rfl, h1, r1⟩ := trodAll_cons r0
  obtain ⟨v2, vs2, d2, ds2, p2, q2, rfl, rfl, rfl, h2, r2⟩ := trodAll_cons r1
  obtain ⟨v3, vs3, d3, ds3, p3, q3, rfl, rfl, rfl, h3, r3⟩ := trodAll_cons r2
  obtain ⟨v4, vs4, d4, ds4, p4, q4, rfl, rfl, rfl, h4, r4⟩ := trodAll_cons r3
  obtain ⟨rfl, rfl, rfl⟩ := trodAll_nil r4
  obtain rfl : args = #[v0, v1, v2, v3, v4] := by cases args; simp_all
  obtain ⟨rfl, rfl⟩ := trodVars_none hV
  obtain ⟨A0, n0, c0, rfl⟩ := okWide_slice Try.underlying22 (hval 0 22 v0 rfl rfl)
  have z0 : Sz Try.prog 22 d0 := (sz_at hsz (j := 0) (t := 22) rfl rfl)
  have k0 := h0
  have lt0 : ∀ x ∈ p0, x.block < W.heap.size := by obtain ⟨m, hm⟩ := k0; exact DataW.trod_lt m _ _ _ hm
  obtain ⟨x0, e0, g0⟩ := top_one (P := Try.prog) (w := W) (rda_bytes Try.underlying22 Try.underlying5 (by kernel_rfl) (by decide +kernel)) (fun _ => rfl) rfl h0 z0
  obtain ⟨cs1, rfl, _⟩ := okWide_struct Try.underlying26 (hval 1 26 v1 rfl rfl)
  have z1 : Sz Try.prog 26 d1 := (sz_at hsz (j := 1) (t := 26) rfl rfl)
  have k1 := h1
  have lt1 : ∀ x ∈ p1, x.block < W.heap.size := by obtain ⟨m, hm⟩ := k1; exact DataW.trod_lt m _ _ _ hm
  obtain ⟨x1, e1, g1⟩ := top_agg (P := Try.prog) (w := W) (rda_struct Try.underlying26 rfl (by kernel_rfl) (rdf_cons (by kernel_rfl) (by decide) (rda_int Try.underlying3) (rdf_cons (by kernel_rfl) (by decide) (rda_int Try.underlying3) (rdf_cons (by kernel_rfl) (by decide) (rda_slice Try.underlying23 (by kernel_rfl) (by decide) (by decide +kernel) (rda_struct Try.underlying67 rfl (by kernel_rfl) (rdf_cons (by kernel_rfl) (by decide) (rda_string Try.underlying9) (rdf_cons (by kernel_rfl) (by decide) (rda_int Try.underlying3) (rdf_cons (by kernel_rfl) (by decide) (rda_string Try.underlying9) (rdf_last (by kernel_rfl) (rda_bool Try.underlying4))))))) (rdf_last (by kernel_rfl) (rda_slice Try.underlying24 (by kernel_rfl) (by decide) (by decide +kernel) (rda_struct Try.underlying65 rfl (by kernel_rfl) (rdf_cons (by kernel_rfl) (by decide) (rda_string Try.underlying9) (rdf_cons (by kernel_rfl) (by decide) (rda_string Try.underlying9) (rdf_last (by kernel_rfl) (rda_bool Try.underlying4))))))))))) h1 z1
  obtain ⟨x2, rfl, rfl, rfl, g2⟩ := open_int Try.underlying3 (hval 2 3 v2 rfl rfl) h2
  have e2 : VR (Old W) W rho0 (.int .i64 x2) (.int .i64 x2) := .int
  obtain ⟨x3, rfl, rfl, rfl, g3⟩ := open_int Try.underlying3 (hval 3 3 v3 rfl rfl) h3
  have e3 : VR (Old W) W rho0 (.int .i64 x3) (.int .i64 x3) := .int
  obtain ⟨A4, n4, c4, rfl⟩ := okWide_slice Try.underlying22 (hval 4 22 v4 rfl rfl)
  have z4 : Sz Try.prog 22 d4 := (sz_at hsz (j := 4) (t := 22) rfl rfl)
  have k4 := h4
  have lt4 : ∀ x ∈ p4, x.block < W.heap.size := by obtain ⟨m, hm⟩ := k4; exact DataW.trod_lt m _ _ _ hm
  obtain ⟨x4, e4, g4⟩ := top_one (P := Try.prog) (w := W) (rda_bytes Try.underlying22 Try.underlying5 (by kernel_rfl) (by decide +kernel)) (fun _ => rfl) rfl h4 z4
  clear hA0 hval0 hsz0
  refine (law_calls (law_TxnAll x0 x1 x2 x3 x4 g0 g1 g2 g3 g4) (vrs_of (vrs_cons e0 (vrs_cons e1 (vrs_cons e2 (vrs_cons e3 (vrs_cons e4 vrs_nil'))))))).mono fun e W' ⟨he, bel⟩ => ?_
  subst he
  exact ⟨_, rfl, _, _, _, [], _, [], hW', trodAll_mk1 (shut_bool Try.underlying4 _), (trodAll_cons_mk (Below.trod laidOut (by kernel_rfl) (of_decide_eq_true (by kernel_rfl)) k0 bel lt0) (trodAll_cons_mk (Below.trod laidOut (by kernel_rfl) (of_decide_eq_true (by kernel_rfl)) k1 bel lt1) (trodAll_cons_mk (shut_int Try.underlying3 g2) (trodAll_cons_mk (shut_int Try.underlying3 g3) (trodAll_cons_mk (Below.trod laidOut (by kernel_rfl) (of_decide_eq_true (by kernel_rfl)) k4 bel lt4) trodAll_mk0))))), rfl, bel.frame _, fun h => by cases h⟩
theorem over : Rows.txnAllRow.holds Try.pinned (OpenSpec.ofChange Rows.txnAllSpec) :=
  OpenClaim.holds_of_wide 3 Try.f3 rfl rfl rfl rfl rfl rfl rfl ⟨rfl, rfl, rfl, rfl, rfl⟩ rfl rfl rfl rfl rfl (by kernel_rfl) Try.func3 (by kernel_rfl)
    (of_decide_eq_true (by kernel_rfl)) (by unfold Func.isWrapper; first | (rw [if_pos (by decide +kernel)]; kernel_rfl) | (rw [if_neg (by decide +kernel)]; exact ⟨rfl, rfl⟩))
    (fun os started H enc _ => lifted os started H enc)
theorem proved : Rows.TxnAllSaid := over
#print axioms proved
end Go.Proofs.Ytpggknkhldecaaa.txnAll
namespace Go.Proofs.Ytpggknkhldecaaa
/-- The row, under a short name, for the claim. -/
theorem txnAll_holds : Rows.TxnAllSaid := txnAll.proved
end Go.Proofs.Ytpggknkhldecaaa
