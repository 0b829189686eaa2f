/- Texts of this session, merged: AbsFE, ATakeB, ATakeC, ATakeR, ATakeS, ATakeU, ATakeV, AbsFJ, ALent, AbsFF, AbsFG, AbsFK, ALentB, AbsFI, ABegunFive. -/
import Derived.Test.YtpggknkhldecaaaBTxnAll3
import Derived.Test.YtpggknkhldecaaaBTxnAll2
import Derived.OpenShut
import Derived.Lib.AppendZerosOnto
import Derived.Lib.Overlaps
import Derived.Laws.Append
set_option linter.unusedVariables false
set_option linter.unusedSimpArgs false
section
namespace Go.Proofs.Ytpggknkhldecaaa.Abs

theorem AC.le {P : Program} {f : FuncId} {args : List AV} {h0 : Heap} {nx0 : Nat} {al : Bool} {Q Q' : AV → Heap → Nat → Prop} (k : AC P f args h0 nx0 al Q)
  (hq : ∀ r h nx, Q r h nx → nx0 ≤ nx ∧ ∃ r' h' nx', Q' r' h' nx' ∧ ∀ c : Ctx, c.nx0 = nx0 → Le c 1 ⟨[(0, r)], h, nx⟩ ⟨[(0, r')], h', nx'⟩) : AC P f args h0 nx0 al Q' := by
 intro ρ S w vals h1 h2 h3
 refine (k ρ S w vals h1 h2 h3).mono fun e w' ⟨v, r, h, nx, ρ', S', a1, a2, a3, a4, a5, a6, a7⟩ => ?_
 obtain ⟨q1, r', h', nx', q2, q3⟩ := hq r h nx a2
 have hr : Rep ⟨w, Own ρ h0, S', ρ, nx0⟩ 1 ⟨[(0, r)], h, nx⟩ ρ' S' { tmps := #[v], defers := [] } w' := by
  refine ⟨rfl, rfl, fun i => ?_, a4, ⟨a7.os, a7.tape, a7.output, a7.size, a7.keep, fun _ h => h, fun _ h => .inl h, fun b B q o1 o2 => a7.own q.blk ⟨b, B, q, o1, o2, rfl⟩, a7.ids⟩, a5, q1, a6⟩
  cases i with
  | zero => exact a3
  | succ i => exact .top
 obtain ⟨ρ2, hr2⟩ := q3 _ rfl _ _ _ _ hr
 refine ⟨v, r', h', nx', ρ2, S', a1, q2, hr2.tmps 0, hr2.sim, hr2.fresh, hr2.dom, a7.os, a7.tape, a7.output, a7.size, a7.keep, fun b ⟨i, B, q, o1, o2, o3⟩ => ?_, a7.s, hr2.post.ids⟩
 subst o3
 exact hr2.post.own i B q o1 o2

theorem le_val {c : Ctx} {n : Nat} {r r' : AV} {h : Heap} {nx : Nat} (hv : ∀ S w ρ v, VR S w ρ r v → VR S w ρ r' v) : Le c n ⟨[(0, r)], h, nx⟩ ⟨[(0, r')], h, nx⟩ := fun ρ S a w hr =>
 ⟨ρ, hr.size, hr.defers, fun i => by
  have := hr.tmps i
  cases i with
  | zero => exact hv _ _ _ _ this
  | succ i => exact .top, hr.sim, hr.post, hr.fresh, hr.le, hr.dom⟩

theorem aw_cutB {P : Program} {c : Ctx} {n : Nat} {a b : Code} {id : Nat} {Q : Exit → St → Prop} {st : St} (J : St) (h : AW P c n a (inBlockA id (thenA (fun st' => Le c n st' J) Q)) st) (k : AW P c n b Q J) : AW P c n a (inBlockA id (thenA (AW P c n b Q) Q)) st := by
 refine aw_mono (fun e st' hq => ?_) h
 have key : ∀ e, thenA (fun st' => Le c n st' J) Q e st' → thenA (AW P c n b Q) Q e st' := fun e hq => by
  cases e with
  | normal => exact aw_le hq k
  | _ => exact hq
 cases e with
 | exit id' =>
  have hq : (if id' = id then thenA (fun st' => Le c n st' J) Q .normal st' else thenA (fun st' => Le c n st' J) Q (.exit id') st') := hq
  show (if id' = id then thenA (AW P c n b Q) Q .normal st' else thenA (AW P c n b Q) Q (.exit id') st')
  split at hq
  ·rename_i h; rw [if_pos h]; exact key _ hq
  ·rename_i h; rw [if_neg h]; exact key _ hq
 | normal => exact key .normal hq
 | ret => exact key .ret hq
 | goto l => exact key (.goto l) hq
 | panic ch => exact key (.panic ch) hq
 | outgrown => exact key .outgrown hq

end Go.Proofs.Ytpggknkhldecaaa.Abs
end
section
namespace Go.Proofs.Ytpggknkhldecaaa.Abs

def takeRdS (b : List UInt8) (s : Nat × Bool) : RD × Nat × Bool :=
 (⟨(textS b s).1, (numS b (textS b s).2).1, (textS b (numS b (textS b s).2).2).1, decide (((numS b (textS b (numS b (textS b s).2).2).2).1 : Int) = 1)⟩, (numS b (textS b (numS b (textS b s).2).2).2).2)
def takeWrS (b : List UInt8) (s : Nat × Bool) : WR × Nat × Bool :=
 (⟨(textS b s).1, (textS b (textS b s).2).1, decide (((numS b (textS b (textS b s).2).2).1 : Int) = 1)⟩, (numS b (textS b (textS b s).2).2).2)
def loopS {α : Type} (f : Nat × Bool → α × Nat × Bool) : Nat → Nat × Bool → List α × Nat × Bool
 | 0, s => ([], s)
 | i + 1, s => if s.2 then ([], s) else ((f s).1 :: (loopS f i (f s).2).1, (loopS f i (f s).2).2)

theorem loopS_bad {α : Type} (f : Nat × Bool → α × Nat × Bool) (i : Nat) (s : Nat × Bool) (h : s.2 = true) : loopS f i s = ([], s) := by
 cases i with
 | zero => rfl
 | succ i => simp only [loopS, h, if_true]

theorem takeRdS_le (b : List UInt8) (s : Nat × Bool) (h : s.1 ≤ b.length) : (takeRdS b s).2.1 ≤ b.length ∧ s.1 ≤ (takeRdS b s).2.1 ∧ ((takeRdS b s).2.2 = false → s.1 + 1 ≤ (takeRdS b s).2.1) := by
 obtain ⟨a1, a2, a3, a4⟩ := textS_le b s h
 obtain ⟨b1, b2, b3, b4⟩ := numS_le b _ a1
 obtain ⟨c1, c2, c3, c4⟩ := textS_le b _ b1
 obtain ⟨d1, d2, d3, d4⟩ := numS_le b _ c1
 exact ⟨d1, by unfold takeRdS; dsimp only; omega, fun e => by have := (d4 e).2; unfold takeRdS; dsimp only; omega⟩
theorem takeWrS_le (b : List UInt8) (s : Nat × Bool) (h : s.1 ≤ b.length) : (takeWrS b s).2.1 ≤ b.length ∧ s.1 ≤ (takeWrS b s).2.1 ∧ ((takeWrS b s).2.2 = false → s.1 + 1 ≤ (takeWrS b s).2.1) := by
 obtain ⟨a1, a2, a3, a4⟩ := textS_le b s h
 obtain ⟨c1, c2, c3, c4⟩ := textS_le b _ a1
 obtain ⟨d1, d2, d3, d4⟩ := numS_le b _ c1
 exact ⟨d1, by unfold takeWrS; dsimp only; omega, fun e => by have := (d4 e).2; unfold takeWrS; dsimp only; omega⟩

def takeA (b : List UInt8) := numS b (0, false)
def takeQ (b : List UInt8) := numS b (takeA b).2
def takeC (b : List UInt8) := numS b (takeQ b).2
def takeR (b : List UInt8) := loopS (takeRdS b) (takeC b).1 (takeC b).2
def takeD (b : List UInt8) := numS b (takeR b).2
def takeW (b : List UInt8) := loopS (takeWrS b) (takeD b).1 (takeD b).2
def takeT (b : List UInt8) : TX := ⟨(takeA b).1, (takeQ b).1, (takeR b).1, (takeW b).1⟩
def takeOk (b : List UInt8) : Bool := !(takeW b).2.2 && (mayTxB (takeT b) && (preB b (putTx (takeT b)) && decide ((putTx (takeT b)).length = (takeW b).2.1)))

theorem ren_rds (σ : Nat → Nat) (l : List RD) : (Blk.cells 4 (l.map rdA)).ren σ = .cells 4 (l.map rdA) := by simp [Blk.ren, AV.ren, rens, rdA, sb, Function.comp_def]
theorem ren_wrs (σ : Nat → Nat) (l : List WR) : (Blk.cells 3 (l.map wrA)).ren σ = .cells 3 (l.map wrA) := by simp [Blk.ren, AV.ren, rens, wrA, sb, Function.comp_def]

theorem putTx_pos2 (t : TX) : 1 ≤ (putTx t).length := by
 have := putNum_pos t.ses.toNat
 unfold putTx txMid txHead
 simp only [List.flatten_cons, List.length_append]
 omega

theorem take_eqs (b : List UInt8) : takeQ b = numS b (takeA b).2 ∧ takeC b = numS b (takeQ b).2 ∧ takeR b = loopS (takeRdS b) (takeC b).1 (takeC b).2 ∧ takeD b = numS b (takeR b).2 ∧ takeW b = loopS (takeWrS b) (takeD b).1 (takeD b).2 := ⟨rfl, rfl, rfl, rfl, rfl⟩

theorem loopS_le {α : Type} (b : List UInt8) (f : Nat × Bool → α × Nat × Bool) (hf : ∀ s, s.1 ≤ b.length → (f s).2.1 ≤ b.length) : ∀ (i : Nat) (s : Nat × Bool), s.1 ≤ b.length → (loopS f i s).2.1 ≤ b.length := by
 intro i
 induction i with
 | zero => intro s h; exact h
 | succ i ih =>
  intro s h
  simp only [loopS]
  split
  ·exact h
  ·exact ih _ (hf s h)

theorem loopS_ver (b : List UInt8) : ∀ (i : Nat) (s : Nat × Bool), s.1 ≤ b.length → ∀ r ∈ (loopS (takeRdS b) i s).1, r.ver ≤ 9223372036854775807 ∧ r.key.length ≤ 255 := by
 intro i
 induction i with
 | zero => intro s _ r hr; cases hr
 | succ i ih =>
  intro s hs r hr
  simp only [loopS] at hr
  split at hr
  ·cases hr
  ·rcases List.mem_cons.1 hr with rfl | hr
   ·obtain ⟨q1, _, q2, _⟩ := textS_le b s hs
    obtain ⟨_, _, q3, _⟩ := numS_le b _ q1
    exact ⟨by unfold takeRdS; dsimp only; omega, q2⟩
   ·exact ih _ (takeRdS_le b s hs).1 r hr
theorem loopS_key (b : List UInt8) : ∀ (i : Nat) (s : Nat × Bool), s.1 ≤ b.length → ∀ r ∈ (loopS (takeWrS b) i s).1, r.key.length ≤ 255 := by
 intro i
 induction i with
 | zero => intro s _ r hr; cases hr
 | succ i ih =>
  intro s hs r hr
  simp only [loopS] at hr
  split at hr
  ·cases hr
  ·rcases List.mem_cons.1 hr with rfl | hr
   ·exact (textS_le b s hs).2.2.1
   ·exact ih _ (takeWrS_le b s hs).1 r hr

theorem loopS_len {α : Type} (b : List UInt8) (f : Nat × Bool → α × Nat × Bool) (hf : ∀ s, s.1 ≤ b.length → (f s).2.1 ≤ b.length ∧ s.1 ≤ (f s).2.1 ∧ ((f s).2.2 = false → s.1 + 1 ≤ (f s).2.1)) : ∀ (i : Nat) (s : Nat × Bool), s.1 ≤ b.length → (loopS f i s).1.length + s.1 ≤ b.length + 1 := by
 intro i
 induction i with
 | zero => intro s h; simp [loopS]; omega
 | succ i ih =>
  intro s h
  simp only [loopS]
  split
  ·simp; omega
  ·obtain ⟨h1, h2, h3⟩ := hf s h
   have := ih _ h1
   simp only [List.length_cons]
   cases hb : (f s).2.2 with
   | true => rw [loopS_bad _ _ _ hb]; simp; omega
   | false => have := h3 hb; omega

set_option maxRecDepth 100000 in
set_option maxHeartbeats 8000000 in
theorem txn_Take0 (b : List UInt8) (hb : b.length ≤ 100000) :
  AC Try.prog 21 [.sl 1 (bl b)] [] 0 false (fun v h nx =>
   v = cond (takeOk b) (.tup [.agg [.int .i64 ((takeA b).1 : Nat), .int .i64 ((takeQ b).1 : Nat), .own 2 0 (takeR b).1.length, .own 3 0 (takeW b).1.length], .int .i64 ((takeW b).2.1 : Nat), .bool true]) (.tup [.agg [.int .i64 0, .int .i64 0, .nils, .nils], .int .i64 0, .bool false]) ∧
   h = cond (takeOk b) [(0, .cells 4 [.agg [.int .i64 ((takeA b).1 : Nat), .int .i64 ((takeQ b).1 : Nat), .own 2 0 (takeR b).1.length, .own 3 0 (takeW b).1.length]]), (2, .cells 4 ((takeR b).1.map rdA)), (3, .cells 3 ((takeW b).1.map wrA))] [(0, .cells 4 [.agg [.int .i64 0, .int .i64 0, .nils, .nils]])] ∧ nx = cond (takeOk b) 4 1) := by
 have hnum : ∀ s : Nat × Bool, s.1 ≤ b.length → AC Try.prog 65 [.ptr 0 0 0] [(0, rdrB b s.1 s.2)] 1 true (fun v h nx => v = .int .i64 (numS b s).1 ∧ h = [(0, rdrB b (numS b s).2.1 (numS b s).2.2)] ∧ nx = 1) := fun s hs => rdr_num b s.1 s.2 hb hs
 have htext : ∀ s : Nat × Bool, s.1 ≤ b.length → AC Try.prog 66 [.ptr 0 0 0] [(0, rdrB b s.1 s.2)] 1 true (fun v h nx => v = sb (textS b s).1 ∧ h = [(0, rdrB b (textS b s).2.1 (textS b s).2.2)] ∧ nx = 1) := fun s hs => rdr_text b s.1 s.2 hb hs
 obtain ⟨eQ, eC, eR, eD, eW⟩ := take_eqs b
 obtain ⟨lA, _, mA, _⟩ := numS_le b (0, false) (Nat.zero_le _)
 have hA := hnum (0, false) (Nat.zero_le _)
 rw [show numS b (0, false) = takeA b from rfl] at hA lA mA
 obtain ⟨lQ, _, mQ, _⟩ := numS_le b _ lA
 have hQ := hnum _ lA
 rw [← eQ] at hQ lQ mQ
 obtain ⟨lC, _, mC, _⟩ := numS_le b _ lQ
 have hC := hnum _ lQ
 rw [← eC] at hC lC mC
 have lR := loopS_le b (takeRdS b) (fun s hs => (takeRdS_le b s hs).1) (takeC b).1 _ lC
 rw [← eR] at lR
 obtain ⟨lD, _, mD, _⟩ := numS_le b _ lR
 have hD := hnum _ lR
 rw [← eD] at hD lD mD
 have lW := loopS_le b (takeWrS b) (fun s hs => (takeWrS_le b s hs).1) (takeD b).1 _ lD
 rw [← eW] at lW
 have hO : takeOk b = (!(takeW b).2.2 && (mayTxB (takeT b) && (preB b (putTx (takeT b)) && decide ((putTx (takeT b)).length = (takeW b).2.1)))) := rfl
 unfold takeT at *
 generalize takeOk b = ok at hO ⊢
 have vR := loopS_ver b (takeC b).1 (takeC b).2 lC
 rw [← eR] at vR
 have kW := loopS_key b (takeD b).1 (takeD b).2 lD
 rw [← eW] at kW
 have nR := loopS_len b (takeRdS b) (takeRdS_le b) (takeC b).1 (takeC b).2 lC
 rw [← eR] at nR
 have nW := loopS_len b (takeWrS b) (takeWrS_le b) (takeD b).1 (takeD b).2 lD
 rw [← eW] at nW
 clear eQ eC
 generalize takeA b = A at *
 generalize takeQ b = Q at *
 generalize takeC b = C at *
 generalize takeR b = R at *
 generalize takeD b = D at *
 generalize takeW b = W at *
 obtain ⟨vA, nA, bA⟩ := A
 obtain ⟨vQ, nQ, bQ⟩ := Q
 obtain ⟨vC, sC⟩ := C
 dsimp only at *
 refine ac_fn Try.func21 rfl rfl rfl rfl (fun w0 S0 r0 => ?_)
 refine aw_seq ?_
 refine aw_region ?_
 refine st_o (op_alloc a26 rfl rfl) rfl ?_
 refine st_p (mva rfl) rfl ?_
 refine st_p (mva rfl) rfl ?_
 refine al_nil ?_
 refine nm ?_
 refine aw_seq ?_
 refine aw_region ?_
 refine st_p (mv rfl) rfl ?_
 refine st_p (op_build Try.underlying95 a95 rfl rfl (by intro f hf; simp only [List.mem_cons, List.not_mem_nil, or_false] at hf; rcases hf with rfl | rfl | rfl <;> exact ⟨_, by first | exact z3 | exact z4 | exact z22⟩) (pcons rfl rfl z22 rfl .nil) rfl) rfl ?_
 refine st_o (bx rfl rfl) rfl ?_
 refine st_p (mva rfl) rfl ?_
 refine al_nil ?_
 refine nm ?_
 refine aw_seq ?_
 refine aw_region ?_
 refine st_p (mv rfl) rfl ?_
 refine st_p (mkf rfl rfl) rfl ?_
 refine st_p (mv rfl) rfl ?_
 refine st_p (mkf rfl rfl) rfl ?_
 refine st_p (mva rfl) rfl ?_
 refine st_p (mva rfl) rfl ?_
 refine al_nil ?_
 refine nm ?_
 refine aw_seq ?_
 refine aw_region ?_
 refine st_p (mv rfl) rfl ?_
 refine st_o (op_callg [(0, 1)] 1 true [(0, rdrB b 0 false)] [1] (hA) Try.func65 ⟨rfl, rfl⟩ rfl rfl rfl rfl (by omega) (by intro p hp; simp only [List.mem_cons, List.not_mem_nil, or_false] at hp; rcases hp with rfl <;> exact ⟨by first | rfl | ((simp [hget, swp, Blk.ren, AV.ren, ints, Function.comp_def]) <;> rfl), rfl⟩) rfl (.cons (.same (by rfl)) .nil) rfl rfl rfl) rfl ?_
 refine st_p (mv rfl) rfl ?_
 refine st_o (op_callg [(0, 1)] 1 true [(0, rdrB b nA bA)] [1] (hQ) Try.func65 ⟨rfl, rfl⟩ rfl rfl rfl rfl (by omega) (by intro p hp; simp only [List.mem_cons, List.not_mem_nil, or_false] at hp; rcases hp with rfl <;> exact ⟨by first | rfl | ((simp [hget, swp, Blk.ren, AV.ren, ints, Function.comp_def]) <;> rfl), rfl⟩) rfl (.cons (.same (by rfl)) .nil) rfl rfl rfl) rfl ?_
 refine st_p (op_fieldAddr Try.underlying26 rfl z3 (by decide) rfl) rfl ?_
 refine st_n (stA z3 rfl rfl rfl rfl rfl rfl rfl rfl rfl rfl) ?_
 refine st_p (op_fieldAddr Try.underlying26 rfl z3 (by decide) rfl) rfl ?_
 refine st_n (stA z3 rfl rfl rfl rfl rfl rfl rfl rfl rfl rfl) ?_
 refine al_nil ?_
 refine nm ?_
 refine aw_seq ?_
 refine aw_seq ?_
 refine aw_region ?_
 refine st_p (mv rfl) rfl ?_
 refine st_o (op_callg [(0, 1)] 1 true [(0, rdrB b nQ bQ)] [1] (hC) Try.func65 ⟨rfl, rfl⟩ rfl rfl rfl rfl (by omega) (by intro p hp; simp only [List.mem_cons, List.not_mem_nil, or_false] at hp; rcases hp with rfl <;> exact ⟨by first | rfl | ((simp [hget, swp, Blk.ren, AV.ren, ints, Function.comp_def]) <;> rfl), rfl⟩) rfl (.cons (.same (by rfl)) .nil) rfl rfl rfl) rfl ?_
 refine st_p (mva rfl) rfl ?_
 refine al_nil ?_
 refine nm ?_
 refine aw_block ?_
 refine aw_virtB 0 2 4 rfl rfl rfl rfl ?_
 refine aw_cutB (⟨[(0, .sl 1 (bl b)), (2, .ptr 0 0 0), (3, .int .i64 0), (4, .bool false), (5, .ptr 1 0 0), (6, .fn (.func 65) [.ptr 1 0 0] []), (7, .fn (.func 66) [.ptr 1 0 0] [])], [(0, .cells 4 [.agg [.int .i64 vA, .int .i64 vQ, .own 2 0 R.1.length, .nils]]), (1, rdrB b R.2.1 R.2.2), (2, .cells 4 (R.1.map rdA))], 3⟩) ?_ ?_
 ·skip
  refine aw_loop (fun p : {p : Nat × List RD × Nat × Bool // p.1 ≤ 9223372036854775807 ∧ p.2.2.1 ≤ b.length ∧ p.2.1.length ≤ p.2.2.1 + 1 ∧ (p.2.2.2 = false → p.2.1.length ≤ p.2.2.1) ∧ p.2.1 ++ (loopS (takeRdS b) p.1 p.2.2).1 = R.1 ∧ (loopS (takeRdS b) p.1 p.2.2).2 = R.2} => ⟨[(0, .sl 1 (bl b)), (2, .ptr 0 0 0), (3, .int .i64 0), (4, .bool false), (5, .ptr 1 0 0), (6, .fn (.func 65) [.ptr 1 0 0] []), (7, .fn (.func 66) [.ptr 1 0 0] []), (8, .int .i64 p.1.1)], [(0, .cells 4 [.agg [.int .i64 vA, .int .i64 vQ, .own 2 0 p.1.2.1.length, .nils]]), (1, rdrB b p.1.2.2.1 p.1.2.2.2), (2, .cells 4 (p.1.2.1.map rdA))], 3⟩) (fun p => p.1.1) ⟨(vC, [], sC), by dsimp only; exact ⟨mC, lC, Nat.zero_le _, fun _ => Nat.zero_le _, by rw [eR]; rfl, by rw [eR]⟩⟩ ?_ ?_
  ·exact le_to [(2, 5)] rfl rfl rfl rfl rfl ⟨rfl, rfl, rfl, rfl, rfl, rfl, rfl, rfl, trivial⟩ ⟨rfl, rfl, rfl, trivial⟩
  ·rintro ⟨⟨i, acc, n, bad⟩, h0, h1, h2, h3, h4, h5⟩
   dsimp only at h0 h1 h2 h3 h4 h5 ⊢
   have hal : (acc.map rdA).length = acc.length := List.length_map _
   unfold rdrB
   cases i with
   | zero =>
    have h4 : acc = R.1 := by simpa [loopS] using h4
    have h5 : (n, bad) = R.2 := h5
    refine aw_seq ?_
    refine aw_seq ?_
    refine aw_region ?_
    refine st_p (mv rfl) rfl ?_
    refine st_p (OpP.conv (op_gt rfl rfl) (no (by first | assumption | omega))) rfl ?_
    refine st_p (mv rfl) rfl ?_
    refine st_s rfl rfl rfl rfl rfl ?_
    refine st_s rfl rfl rfl rfl rfl ?_
    refine st_s rfl rfl rfl rfl rfl ?_
    refine st_s rfl rfl rfl rfl rfl ?_
    refine st_s rfl rfl rfl rfl rfl ?_
    refine st_p (pkF rfl rfl) rfl ?_
    refine al_nil ?_
    refine nm ?_
    refine aw_no (rfl) ?_
    refine aw_exit ?_
    refine xs ?_
    refine xs ?_
    refine xb ?_
    refine nm ?_
    exact le_to [] rfl rfl rfl rfl rfl ⟨rfl, rfl, rfl, rfl, rfl, rfl, rfl, trivial⟩ ⟨by rw [← h4]; rfl, by rw [← h5]; rfl, by rw [ren_rds, ← h4]; rfl, trivial⟩
   | succ i =>
    cases bad with
    | true =>
     rw [loopS_bad _ _ _ rfl] at h4 h5
     have h4 : acc = R.1 := by simpa using h4
     refine aw_seq ?_
     refine aw_seq ?_
     refine aw_region ?_
     refine st_p (mv rfl) rfl ?_
     refine st_p (OpP.conv (op_gt rfl rfl) (yes (by first | assumption | omega))) rfl ?_
     refine st_p (mv rfl) rfl ?_
     refine st_pg rfl rfl rfl (mv rfl) rfl ?_
     refine st_pg rfl rfl rfl (op_nilCheck rfl trivial) rfl ?_
     refine st_pg rfl rfl rfl (op_fieldAddr Try.underlying95 rfl z4 (by decide) rfl) rfl ?_
     refine st_pg rfl rfl rfl (op_load1 Try.underlying4 rfl rfl rfl rfl rfl) rfl ?_
     refine st_pg rfl rfl rfl (op_notT rfl) rfl ?_
     refine st_p (pkT rfl rfl) rfl ?_
     refine al_nil ?_
     refine nm ?_
     refine aw_no (rfl) ?_
     refine aw_exit ?_
     refine xs ?_
     refine xs ?_
     refine xb ?_
     refine nm ?_
     exact le_to [] rfl rfl rfl rfl rfl ⟨rfl, rfl, rfl, rfl, rfl, rfl, rfl, trivial⟩ ⟨by rw [← h4]; rfl, by rw [← h5]; rfl, by rw [ren_rds, ← h4]; rfl, trivial⟩
    | false =>
     have hst : ∀ s : Nat × Bool, takeRdS b s = (⟨(textS b s).1, (numS b (textS b s).2).1, (textS b (numS b (textS b s).2).2).1, decide (((numS b (textS b (numS b (textS b s).2).2).2).1 : Int) = 1)⟩, (numS b (textS b (numS b (textS b s).2).2).2).2) := fun _ => rfl
     simp only [loopS, Bool.false_eq_true, if_false] at h4 h5
     obtain ⟨g1, g2, g3⟩ := takeRdS_le b (n, false) h1
     rw [hst (n, false)] at h4 h5 g1 g2 g3
     have k1 := htext (n, false) h1
     obtain ⟨q1, _⟩ := textS_le b (n, false) h1
     have k2 := hnum _ q1
     obtain ⟨q2, _, q2m, _⟩ := numS_le b _ q1
     have k3 := htext _ q2
     obtain ⟨q3, _⟩ := textS_le b _ q2
     have k4 := hnum _ q3
     generalize textS b (n, false) = X1 at *
     generalize numS b X1.2 = X2 at *
     generalize textS b X2.2 = X3 at *
     generalize numS b X3.2 = X4 at *
     obtain ⟨y1, n1, b1⟩ := X1
     obtain ⟨y2, n2, b2⟩ := X2
     obtain ⟨y3, n3, b3⟩ := X3
     obtain ⟨y4, n4, b4⟩ := X4
     dsimp only at *
     unfold rdrB at k1 k2 k3 k4
     refine aw_seq ?_
     refine aw_seq ?_
     refine aw_region ?_
     refine st_p (mv rfl) rfl ?_
     refine st_p (OpP.conv (op_gt rfl rfl) (yes (by first | assumption | omega))) rfl ?_
     refine st_p (mv rfl) rfl ?_
     refine st_pg rfl rfl rfl (mv rfl) rfl ?_
     refine st_pg rfl rfl rfl (op_nilCheck rfl trivial) rfl ?_
     refine st_pg rfl rfl rfl (op_fieldAddr Try.underlying95 rfl z4 (by decide) rfl) rfl ?_
     refine st_pg rfl rfl rfl (op_load1 Try.underlying4 rfl rfl rfl rfl rfl) rfl ?_
     refine st_pg rfl rfl rfl (op_notF rfl) rfl ?_
     refine st_p (pkT rfl rfl) rfl ?_
     refine al_nil ?_
     refine nm ?_
     refine aw_yes (rfl) ?_
     refine aw_skip ?_
     refine nm ?_
     refine aw_seq ?_
     refine aw_block ?_
     refine aw_seq ?_
     refine aw_region ?_
     refine st_p (mv rfl) rfl ?_
     refine st_o (op_callg [(0, 1)] 1 true [(0, .cells 3 [.agg [.sl 1 (bl b), .int .i64 n, .bool false]])] [1] (k1) Try.func66 ⟨rfl, rfl⟩ rfl rfl rfl rfl (by omega) (by intro p hp; simp only [List.mem_cons, List.not_mem_nil, or_false] at hp; rcases hp with rfl | rfl <;> exact ⟨by first | rfl | ((simp [hget, swp, Blk.ren, AV.ren, ints, Function.comp_def]) <;> rfl), rfl⟩) rfl (.cons (.same (by rfl)) .nil) rfl rfl rfl) rfl ?_
     refine st_p (mv rfl) rfl ?_
     refine st_o (op_callg [(0, 1)] 1 true [(0, .cells 3 [.agg [.sl 1 (bl b), .int .i64 n1, .bool b1]])] [1] (k2) Try.func65 ⟨rfl, rfl⟩ rfl rfl rfl rfl (by omega) (by intro p hp; simp only [List.mem_cons, List.not_mem_nil, or_false] at hp; rcases hp with rfl | rfl <;> exact ⟨by first | rfl | ((simp [hget, swp, Blk.ren, AV.ren, ints, Function.comp_def]) <;> rfl), rfl⟩) rfl (.cons (.same (by rfl)) .nil) rfl rfl rfl) rfl ?_
     refine st_p (mv rfl) rfl ?_
     refine st_o (op_callg [(0, 1)] 1 true [(0, .cells 3 [.agg [.sl 1 (bl b), .int .i64 n2, .bool b2]])] [1] (k3) Try.func66 ⟨rfl, rfl⟩ rfl rfl rfl rfl (by omega) (by intro p hp; simp only [List.mem_cons, List.not_mem_nil, or_false] at hp; rcases hp with rfl | rfl <;> exact ⟨by first | rfl | ((simp [hget, swp, Blk.ren, AV.ren, ints, Function.comp_def]) <;> rfl), rfl⟩) rfl (.cons (.same (by rfl)) .nil) rfl rfl rfl) rfl ?_
     refine st_p (op_build Try.underlying67 a67 rfl rfl (by intro f hf; simp only [List.mem_cons, List.not_mem_nil, or_false] at hf; rcases hf with rfl | rfl | rfl | rfl <;> exact ⟨_, by first | exact z3 | exact z4 | exact z9⟩) (pcons rfl rfl z9 rfl (pcons rfl rfl z3 rfl (pcons rfl rfl z9 rfl .nil))) rfl) rfl ?_
     refine st_o (op_alloc a67 rfl rfl) rfl ?_
     refine st_n (stA z67 rfl rfl rfl rfl rfl rfl rfl rfl rfl rfl) ?_
     refine al_nil ?_
     refine nm ?_
     refine aw_seq ?_
     refine aw_region ?_
     refine st_p (mv rfl) rfl ?_
     refine st_o (op_callg [(0, 1)] 1 true [(0, .cells 3 [.agg [.sl 1 (bl b), .int .i64 n3, .bool b3]])] [1] (k4) Try.func65 ⟨rfl, rfl⟩ rfl rfl rfl rfl (by omega) (by intro p hp; simp only [List.mem_cons, List.not_mem_nil, or_false] at hp; rcases hp with rfl | rfl <;> exact ⟨by first | rfl | ((simp [hget, swp, Blk.ren, AV.ren, ints, Function.comp_def]) <;> rfl), rfl⟩) rfl (.cons (.same (by rfl)) .nil) rfl rfl rfl) rfl ?_
     refine st_p (op_eq rfl rfl) rfl ?_
     refine st_p (op_fieldAddr Try.underlying67 rfl z4 (by decide) rfl) rfl ?_
     refine st_n (stA z4 rfl rfl rfl rfl rfl rfl rfl rfl rfl rfl) ?_
     refine al_nil ?_
     refine nm ?_
     refine aw_region ?_
     refine st_p (op_fieldAddr Try.underlying26 rfl z23 (by decide) rfl) rfl ?_
     refine st_p (op_load1 Try.underlying23 rfl rfl rfl rfl rfl) rfl ?_
     refine st_p (op_loadA Try.underlying67 rfl z67 rfl rfl rfl rfl) rfl ?_
     refine st_o (bsl Try.underlying23 i67 o67 (by decide) rfl rfl rfl (by decide)) rfl ?_
     refine st_o (op_app Try.underlying23 Try.underlying23 (.inl ⟨_, rfl⟩) i67 o67 rfl rfl rfl (by first | rfl | omega | (simp; done) | (simp; omega)) ((SrcA.whole rfl (by first | rfl | (simp; done))).ok rfl (by first | assumption | intro z hz; simp only [List.mem_singleton, List.drop_zero, List.take_succ_cons, List.take_zero, List.mem_cons, List.not_mem_nil, or_false, List.mem_map] at hz; first | (subst hz; rfl) | (obtain ⟨_, _, rfl⟩ := hz; rfl) | (rcases hz with rfl | rfl <;> rfl))) (by first | omega | (simp; try omega)) rfl) rfl ?_
     refine st_p (op_fieldAddr Try.underlying26 rfl z23 (by decide) rfl) rfl ?_
     refine st_n (stA z23 rfl rfl rfl rfl rfl rfl rfl rfl rfl rfl) ?_
     refine al_nil ?_
     refine nmb ?_
     refine nm ?_
     refine aw_region ?_
     refine st_p (mv rfl) rfl ?_
     refine st_p (op_subi rfl rfl (by omega)) rfl ?_
     refine st_p (mva rfl) rfl ?_
     refine al_nil ?_
     refine nm ?_
     have hl : (acc ++ [(⟨y1, y2, y3, decide ((y4 : Int) = 1)⟩ : RD)]).length = acc.length + 1 := by simp
     have h3 := h3 rfl
     refine ⟨⟨(i, acc ++ [⟨y1, y2, y3, decide ((y4 : Int) = 1)⟩], n4, b4), by dsimp only; exact ⟨by omega, g1, by omega, fun e => by have := g3 e; omega, by rw [List.append_assoc]; exact h4, h5⟩⟩, by dsimp only; omega, le_to [(2, 9)] rfl rfl rfl rfl rfl ⟨rfl, rfl, rfl, rfl, rfl, rfl, rfl, ?_, trivial⟩ ⟨?_, rfl, ?_, trivial⟩⟩
     ·show AV.int .i64 (((i + 1 : Nat) : Int) - 1) = AV.int .i64 (i : Int)
      congr 1
      omega
     ·simp [Blk.ren, hget, swp, AV.ren, rens]
     ·simp [Blk.ren, hget, swp, AV.ren, rens, sb, rdA]
 ·obtain ⟨rl, sR⟩ := R
  obtain ⟨vD, sD⟩ := D
  dsimp only at *
  have hrl : (rl.map rdA).length = rl.length := List.length_map _
  unfold rdrB at hD
  unfold rdrB
  refine aw_seq ?_
  refine aw_seq ?_
  refine aw_region ?_
  refine st_p (mv rfl) rfl ?_
  refine st_o (op_callg [(0, 1)] 1 true [(0, .cells 3 [.agg [.sl 1 (bl b), .int .i64 sR.1, .bool sR.2]])] [1] (hD) Try.func65 ⟨rfl, rfl⟩ rfl rfl rfl rfl (by omega) (by intro p hp; simp only [List.mem_cons, List.not_mem_nil, or_false] at hp; rcases hp with rfl | rfl <;> exact ⟨by first | rfl | ((simp [hget, swp, Blk.ren, AV.ren, ints, Function.comp_def]) <;> rfl), rfl⟩) rfl (.cons (.same (by rfl)) .nil) rfl rfl rfl) rfl ?_
  refine st_p (mva rfl) rfl ?_
  refine al_nil ?_
  refine nm ?_
  refine aw_block ?_
  refine aw_virtB 0 3 3 rfl rfl rfl rfl ?_
  refine aw_cutB (⟨[(0, .sl 1 (bl b)), (2, .ptr 0 0 0), (3, .int .i64 0), (4, .bool false), (5, .ptr 1 0 0), (6, .fn (.func 65) [.ptr 1 0 0] []), (7, .fn (.func 66) [.ptr 1 0 0] [])], [(0, .cells 4 [.agg [.int .i64 vA, .int .i64 vQ, .own 2 0 rl.length, .own 3 0 W.1.length]]), (1, .cells 3 [.agg [.sl 1 (bl b), .int .i64 W.2.1, .bool W.2.2]]), (2, .cells 4 (rl.map rdA)), (3, .cells 3 (W.1.map wrA))], 4⟩) ?_ ?_
  ·skip
   refine aw_loop (fun p : {p : Nat × List WR × Nat × Bool // p.1 ≤ 9223372036854775807 ∧ p.2.2.1 ≤ b.length ∧ p.2.1.length ≤ p.2.2.1 + 1 ∧ (p.2.2.2 = false → p.2.1.length ≤ p.2.2.1) ∧ p.2.1 ++ (loopS (takeWrS b) p.1 p.2.2).1 = W.1 ∧ (loopS (takeWrS b) p.1 p.2.2).2 = W.2} => ⟨[(0, .sl 1 (bl b)), (2, .ptr 0 0 0), (3, .int .i64 0), (4, .bool false), (5, .ptr 1 0 0), (6, .fn (.func 65) [.ptr 1 0 0] []), (7, .fn (.func 66) [.ptr 1 0 0] []), (10, .int .i64 p.1.1)], [(0, .cells 4 [.agg [.int .i64 vA, .int .i64 vQ, .own 2 0 rl.length, .own 3 0 p.1.2.1.length]]), (1, .cells 3 [.agg [.sl 1 (bl b), .int .i64 p.1.2.2.1, .bool p.1.2.2.2]]), (2, .cells 4 (rl.map rdA)), (3, .cells 3 (p.1.2.1.map wrA))], 4⟩) (fun p => p.1.1) ⟨(vD, [], sD), by dsimp only; exact ⟨mD, lD, Nat.zero_le _, fun _ => Nat.zero_le _, by rw [eW]; rfl, by rw [eW]⟩⟩ ?_ ?_
   ·exact le_to [(3, 4)] rfl rfl rfl rfl rfl ⟨rfl, rfl, rfl, rfl, rfl, rfl, rfl, rfl, trivial⟩ ⟨rfl, rfl, by rw [ren_rds]; rfl, rfl, trivial⟩
   ·rintro ⟨⟨i, acc, n, bad⟩, h0, h1, h2, h3, h4, h5⟩
    dsimp only at h0 h1 h2 h3 h4 h5 ⊢
    have hal : (acc.map wrA).length = acc.length := List.length_map _
    cases i with
    | zero =>
     have h4 : acc = W.1 := by simpa [loopS] using h4
     have h5 : (n, bad) = W.2 := h5
     refine aw_seq ?_
     refine aw_seq ?_
     refine aw_region ?_
     refine st_p (mv rfl) rfl ?_
     refine st_p (OpP.conv (op_gt rfl rfl) (no (by first | assumption | omega))) rfl ?_
     refine st_p (mv rfl) rfl ?_
     refine st_s rfl rfl rfl rfl rfl ?_
     refine st_s rfl rfl rfl rfl rfl ?_
     refine st_s rfl rfl rfl rfl rfl ?_
     refine st_s rfl rfl rfl rfl rfl ?_
     refine st_s rfl rfl rfl rfl rfl ?_
     refine st_p (pkF rfl rfl) rfl ?_
     refine al_nil ?_
     refine nm ?_
     refine aw_no (rfl) ?_
     refine aw_exit ?_
     refine xs ?_
     refine xs ?_
     refine xb ?_
     refine nm ?_
     exact le_to [] rfl rfl rfl rfl rfl ⟨rfl, rfl, rfl, rfl, rfl, rfl, rfl, trivial⟩ ⟨by rw [← h4]; rfl, by rw [← h5]; rfl, by rw [ren_rds]; rfl, by rw [ren_wrs, ← h4]; rfl, trivial⟩
    | succ i =>
     cases bad with
     | true =>
      rw [loopS_bad _ _ _ rfl] at h4 h5
      have h4 : acc = W.1 := by simpa using h4
      refine aw_seq ?_
      refine aw_seq ?_
      refine aw_region ?_
      refine st_p (mv rfl) rfl ?_
      refine st_p (OpP.conv (op_gt rfl rfl) (yes (by first | assumption | omega))) rfl ?_
      refine st_p (mv rfl) rfl ?_
      refine st_pg rfl rfl rfl (mv rfl) rfl ?_
      refine st_pg rfl rfl rfl (op_nilCheck rfl trivial) rfl ?_
      refine st_pg rfl rfl rfl (op_fieldAddr Try.underlying95 rfl z4 (by decide) rfl) rfl ?_
      refine st_pg rfl rfl rfl (op_load1 Try.underlying4 rfl rfl rfl rfl rfl) rfl ?_
      refine st_pg rfl rfl rfl (op_notT rfl) rfl ?_
      refine st_p (pkT rfl rfl) rfl ?_
      refine al_nil ?_
      refine nm ?_
      refine aw_no (rfl) ?_
      refine aw_exit ?_
      refine xs ?_
      refine xs ?_
      refine xb ?_
      refine nm ?_
      exact le_to [] rfl rfl rfl rfl rfl ⟨rfl, rfl, rfl, rfl, rfl, rfl, rfl, trivial⟩ ⟨by rw [← h4]; rfl, by rw [← h5]; rfl, by rw [ren_rds]; rfl, by rw [ren_wrs, ← h4]; rfl, trivial⟩
     | false =>
      have hst : ∀ s : Nat × Bool, takeWrS b s = (⟨(textS b s).1, (textS b (textS b s).2).1, decide (((numS b (textS b (textS b s).2).2).1 : Int) = 1)⟩, (numS b (textS b (textS b s).2).2).2) := fun _ => rfl
      simp only [loopS, Bool.false_eq_true, if_false] at h4 h5
      obtain ⟨g1, g2, g3⟩ := takeWrS_le b (n, false) h1
      rw [hst (n, false)] at h4 h5 g1 g2 g3
      have k1 := htext (n, false) h1
      obtain ⟨q1, _⟩ := textS_le b (n, false) h1
      have k2 := htext _ q1
      obtain ⟨q2, _⟩ := textS_le b _ q1
      have k3 := hnum _ q2
      obtain ⟨q3, _, q3m, _⟩ := numS_le b _ q2
      generalize textS b (n, false) = X1 at *
      generalize textS b X1.2 = X2 at *
      generalize numS b X2.2 = X3 at *
      obtain ⟨y1, n1, b1⟩ := X1
      obtain ⟨y2, n2, b2⟩ := X2
      obtain ⟨y3, n3, b3⟩ := X3
      dsimp only at *
      unfold rdrB at k1 k2 k3
      refine aw_seq ?_
      refine aw_seq ?_
      refine aw_region ?_
      refine st_p (mv rfl) rfl ?_
      refine st_p (OpP.conv (op_gt rfl rfl) (yes (by first | assumption | omega))) rfl ?_
      refine st_p (mv rfl) rfl ?_
      refine st_pg rfl rfl rfl (mv rfl) rfl ?_
      refine st_pg rfl rfl rfl (op_nilCheck rfl trivial) rfl ?_
      refine st_pg rfl rfl rfl (op_fieldAddr Try.underlying95 rfl z4 (by decide) rfl) rfl ?_
      refine st_pg rfl rfl rfl (op_load1 Try.underlying4 rfl rfl rfl rfl rfl) rfl ?_
      refine st_pg rfl rfl rfl (op_notF rfl) rfl ?_
      refine st_p (pkT rfl rfl) rfl ?_
      refine al_nil ?_
      refine nm ?_
      refine aw_yes (rfl) ?_
      refine aw_skip ?_
      refine nm ?_
      refine aw_seq ?_
      refine aw_block ?_
      refine aw_seq ?_
      refine aw_region ?_
      refine st_p (mv rfl) rfl ?_
      refine st_o (op_callg [(0, 1)] 1 true [(0, .cells 3 [.agg [.sl 1 (bl b), .int .i64 n, .bool false]])] [1] (k1) Try.func66 ⟨rfl, rfl⟩ rfl rfl rfl rfl (by omega) (by intro p hp; simp only [List.mem_cons, List.not_mem_nil, or_false] at hp; rcases hp with rfl | rfl <;> exact ⟨by first | rfl | ((simp [hget, swp, Blk.ren, AV.ren, ints, Function.comp_def]) <;> rfl), rfl⟩) rfl (.cons (.same (by rfl)) .nil) rfl rfl rfl) rfl ?_
      refine st_p (mv rfl) rfl ?_
      refine st_o (op_callg [(0, 1)] 1 true [(0, .cells 3 [.agg [.sl 1 (bl b), .int .i64 n1, .bool b1]])] [1] (k2) Try.func66 ⟨rfl, rfl⟩ rfl rfl rfl rfl (by omega) (by intro p hp; simp only [List.mem_cons, List.not_mem_nil, or_false] at hp; rcases hp with rfl | rfl <;> exact ⟨by first | rfl | ((simp [hget, swp, Blk.ren, AV.ren, ints, Function.comp_def]) <;> rfl), rfl⟩) rfl (.cons (.same (by rfl)) .nil) rfl rfl rfl) rfl ?_
      refine st_p (op_build Try.underlying65 a65 rfl rfl (by intro f hf; simp only [List.mem_cons, List.not_mem_nil, or_false] at hf; rcases hf with rfl | rfl | rfl <;> exact ⟨_, by first | exact z4 | exact z9⟩) (pcons rfl rfl z9 rfl (pcons rfl rfl z9 rfl .nil)) rfl) rfl ?_
      refine st_o (op_alloc a65 rfl rfl) rfl ?_
      refine st_n (stA z65 rfl rfl rfl rfl rfl rfl rfl rfl rfl rfl) ?_
      refine al_nil ?_
      refine nm ?_
      refine aw_seq ?_
      refine aw_region ?_
      refine st_p (mv rfl) rfl ?_
      refine st_o (op_callg [(0, 1)] 1 true [(0, .cells 3 [.agg [.sl 1 (bl b), .int .i64 n2, .bool b2]])] [1] (k3) Try.func65 ⟨rfl, rfl⟩ rfl rfl rfl rfl (by omega) (by intro p hp; simp only [List.mem_cons, List.not_mem_nil, or_false] at hp; rcases hp with rfl | rfl <;> exact ⟨by first | rfl | ((simp [hget, swp, Blk.ren, AV.ren, ints, Function.comp_def]) <;> rfl), rfl⟩) rfl (.cons (.same (by rfl)) .nil) rfl rfl rfl) rfl ?_
      refine st_p (op_eq rfl rfl) rfl ?_
      refine st_p (op_fieldAddr Try.underlying65 rfl z4 (by decide) rfl) rfl ?_
      refine st_n (stA z4 rfl rfl rfl rfl rfl rfl rfl rfl rfl rfl) ?_
      refine al_nil ?_
      refine nm ?_
      refine aw_region ?_
      refine st_p (op_fieldAddr Try.underlying26 rfl z24 (by decide) rfl) rfl ?_
      refine st_p (op_load1 Try.underlying24 rfl rfl rfl rfl rfl) rfl ?_
      refine st_p (op_loadA Try.underlying65 rfl z65 rfl rfl rfl rfl) rfl ?_
      refine st_o (bsl Try.underlying24 i65 o65 (by decide) rfl rfl rfl (by decide)) rfl ?_
      refine st_o (op_app Try.underlying24 Try.underlying24 (.inl ⟨_, rfl⟩) i65 o65 rfl rfl rfl (by first | rfl | omega | (simp; done) | (simp; omega)) ((SrcA.whole rfl (by first | rfl | (simp; done))).ok rfl (by first | assumption | intro z hz; simp only [List.mem_singleton, List.drop_zero, List.take_succ_cons, List.take_zero, List.mem_cons, List.not_mem_nil, or_false, List.mem_map] at hz; first | (subst hz; rfl) | (obtain ⟨_, _, rfl⟩ := hz; rfl) | (rcases hz with rfl | rfl <;> rfl))) (by first | omega | (simp; try omega)) rfl) rfl ?_
      refine st_p (op_fieldAddr Try.underlying26 rfl z24 (by decide) rfl) rfl ?_
      refine st_n (stA z24 rfl rfl rfl rfl rfl rfl rfl rfl rfl rfl) ?_
      refine al_nil ?_
      refine nmb ?_
      refine nm ?_
      refine aw_region ?_
      refine st_p (mv rfl) rfl ?_
      refine st_p (op_subi rfl rfl (by omega)) rfl ?_
      refine st_p (mva rfl) rfl ?_
      refine al_nil ?_
      refine nm ?_
      have hl : (acc ++ [(⟨y1, y2, decide ((y3 : Int) = 1)⟩ : WR)]).length = acc.length + 1 := by simp
      have h3 := h3 rfl
      refine ⟨⟨(i, acc ++ [⟨y1, y2, decide ((y3 : Int) = 1)⟩], n3, b3), by dsimp only; exact ⟨by omega, g1, by omega, fun e => by have := g3 e; omega, by rw [List.append_assoc]; exact h4, h5⟩⟩, by dsimp only; omega, le_to [(3, 9)] rfl rfl rfl rfl rfl ⟨rfl, rfl, rfl, rfl, rfl, rfl, rfl, ?_, trivial⟩ ⟨?_, rfl, ?_, ?_, trivial⟩⟩
      ·show AV.int .i64 (((i + 1 : Nat) : Int) - 1) = AV.int .i64 (i : Int)
       congr 1
       omega
      ·simp [Blk.ren, hget, swp, AV.ren, rens]
      ·rw [ren_rds]; rfl
      ·simp [Blk.ren, hget, swp, AV.ren, rens, sb, wrA]
  ·obtain ⟨wl, nZ, bW⟩ := W
   dsimp only at *
   have hwl : (wl.map wrA).length = wl.length := List.length_map _
   have hput := txn_Put ⟨(vA : Nat), (vQ : Nat), rl, wl⟩
   have hno := txn_Put_no ⟨(vA : Nat), (vQ : Nat), rl, wl⟩
   have hpre := bytes_HasPrefix b (putTx ⟨(vA : Nat), (vQ : Nat), rl, wl⟩)
   have hpos := putTx_pos2 ⟨(vA : Nat), (vQ : Nat), rl, wl⟩
   have hbp : (bl (putTx ⟨(vA : Nat), (vQ : Nat), rl, wl⟩)).length = (putTx ⟨(vA : Nat), (vQ : Nat), rl, wl⟩).length := bl_len _
   have hbne : bl (putTx ⟨(vA : Nat), (vQ : Nat), rl, wl⟩) ≠ [] := fun e => by rw [e] at hbp; simp at hbp; omega
   have hno := fun h => hno h (by dsimp only; omega) (by dsimp only; omega) (fun r hr => by have := (vR r hr).2; omega) (fun r hr => by have := kW r hr; omega)
   have hput := fun h => hput h (fun r hr => (vR r hr).1)
   generalize putTx ⟨(vA : Nat), (vQ : Nat), rl, wl⟩ = X at *
   generalize mayTxB ⟨(vA : Nat), (vQ : Nat), rl, wl⟩ = m at *
   generalize preB b X = pb at *
   dsimp only [txA] at hput hno
   cases bW with
   | true =>
    have hO : ok = false := by rw [hO]; rfl
    subst hO
    cases m with
    | true =>
     have hput := hput rfl
     refine aw_seq ?_
     refine aw_seq ?_
     refine aw_region ?_
     refine st_p (op_loadA Try.underlying26 rfl z26 rfl rfl rfl rfl) rfl ?_
     refine st_o ((op_callq (hput) Try.func12 ⟨rfl, rfl⟩ rfl rfl (fun nx => (.cons (.of_list (.cons (.same (by rfl)) (.cons (.same (by rfl)) (.cons (.whole rfl rfl rfl (by first | rfl | simp) (by first | rfl | simp [Function.comp_def, AV.ren, rens, sb, rdA, wrA]) (by first | rfl | simp [AV.plain, plains, bl_plain, sb, AV.ren, rdA, wrA])) (.cons (.whole rfl rfl rfl (by first | rfl | simp) (by first | rfl | simp [Function.comp_def, AV.ren, rens, sb, rdA, wrA]) (by first | rfl | simp [AV.plain, plains, bl_plain, sb, AV.ren, rdA, wrA])) .nil))))) .nil)) (by rintro _ _ _ ⟨rfl, rfl, rfl⟩; exact .whole rfl (by simp) (by first | rfl | simp [AV.plain, plains, bl_plain]))).ok) rfl ?_
     refine st_p (mva rfl) rfl ?_
     refine al_nil ?_
     refine nm ?_
     refine aw_seq ?_
     refine aw_region ?_
     refine st_p (mv rfl) rfl ?_
     refine st_p (op_nilCheck rfl trivial) rfl ?_
     refine st_p (op_fieldAddr Try.underlying95 rfl z4 (by decide) rfl) rfl ?_
     refine st_p (op_load1 Try.underlying4 rfl rfl rfl rfl rfl) rfl ?_
     refine st_p (mv rfl) rfl ?_
     refine st_s rfl rfl rfl rfl rfl ?_
     refine st_s rfl rfl rfl rfl rfl ?_
     refine st_p (pkT rfl rfl) rfl ?_
     refine st_p (mv rfl) rfl ?_
     refine st_s rfl rfl rfl rfl rfl ?_
     refine st_s rfl rfl rfl rfl rfl ?_
     refine st_s rfl rfl rfl rfl rfl ?_
     refine st_s rfl rfl rfl rfl rfl ?_
     refine st_p (pkT rfl rfl) rfl ?_
     refine st_p (mv rfl) rfl ?_
     refine st_s rfl rfl rfl rfl rfl ?_
     refine st_s rfl rfl rfl rfl rfl ?_
     refine st_s rfl rfl rfl rfl rfl ?_
     refine st_s rfl rfl rfl rfl rfl ?_
     refine st_s rfl rfl rfl rfl rfl ?_
     refine st_s rfl rfl rfl rfl rfl ?_
     refine st_s rfl rfl rfl rfl rfl ?_
     refine st_p (pkT rfl rfl) rfl ?_
     refine al_nil ?_
     refine nm ?_
     refine aw_yes (rfl) ?_
     refine aw_seq ?_
     refine aw_region ?_
     refine st_p (op_build Try.underlying26 a26 rfl rfl (by intro f hf; simp only [List.mem_cons, List.not_mem_nil, or_false] at hf; rcases hf with rfl | rfl | rfl | rfl <;> exact ⟨_, by first | exact z3 | exact z23 | exact z24⟩) .nil rfl) rfl ?_
     refine st_n (stA z26 rfl rfl rfl rfl rfl rfl rfl rfl rfl rfl) ?_
     refine st_p (mva rfl) rfl ?_
     refine st_p (mva rfl) rfl ?_
     refine al_nil ?_
     refine nm ?_
     refine aw_ret ?_
     refine rs ?_
     exact ret_a ⟨[(2, .ptr 0 0 0), (3, .int .i64 0), (4, .bool false)], [(0, .cells 4 [.agg [.int .i64 0, .int .i64 0, .nils, .nils]])], 1⟩ (le_to [] rfl rfl rfl rfl rfl ⟨rfl, rfl, rfl, trivial⟩ ⟨rfl, trivial⟩) (resCn (.cons (.cell rfl (op_loadA Try.underlying26 rfl rfl rfl rfl rfl rfl)) (.cons (.tmp rfl) (.cons (.tmp rfl) .nil))) (by simp)) (.inr ⟨rfl, rfl⟩) ⟨rfl, rfl, rfl⟩
    | false =>
     have hno := hno rfl
     refine aw_seq ?_
     refine aw_seq ?_
     refine aw_region ?_
     refine st_p (op_loadA Try.underlying26 rfl z26 rfl rfl rfl rfl) rfl ?_
     refine st_o ((op_callq (hno) Try.func12 ⟨rfl, rfl⟩ rfl rfl (fun nx => (.cons (.of_list (.cons (.same (by rfl)) (.cons (.same (by rfl)) (.cons (.whole rfl rfl rfl (by first | rfl | simp) (by first | rfl | simp [Function.comp_def, AV.ren, rens, sb, rdA, wrA]) (by first | rfl | simp [AV.plain, plains, bl_plain, sb, AV.ren, rdA, wrA])) (.cons (.whole rfl rfl rfl (by first | rfl | simp) (by first | rfl | simp [Function.comp_def, AV.ren, rens, sb, rdA, wrA]) (by first | rfl | simp [AV.plain, plains, bl_plain, sb, AV.ren, rdA, wrA])) .nil))))) .nil)) (by rintro _ _ _ ⟨rfl, rfl, rfl⟩; exact .same rfl)).ok) rfl ?_
     refine st_p (mva rfl) rfl ?_
     refine al_nil ?_
     refine nm ?_
     refine aw_seq ?_
     refine aw_region ?_
     refine st_p (mv rfl) rfl ?_
     refine st_p (op_nilCheck rfl trivial) rfl ?_
     refine st_p (op_fieldAddr Try.underlying95 rfl z4 (by decide) rfl) rfl ?_
     refine st_p (op_load1 Try.underlying4 rfl rfl rfl rfl rfl) rfl ?_
     refine st_p (mv rfl) rfl ?_
     refine st_s rfl rfl rfl rfl rfl ?_
     refine st_s rfl rfl rfl rfl rfl ?_
     refine st_p (pkT rfl rfl) rfl ?_
     refine st_p (mv rfl) rfl ?_
     refine st_s rfl rfl rfl rfl rfl ?_
     refine st_s rfl rfl rfl rfl rfl ?_
     refine st_s rfl rfl rfl rfl rfl ?_
     refine st_s rfl rfl rfl rfl rfl ?_
     refine st_p (pkT rfl rfl) rfl ?_
     refine st_p (mv rfl) rfl ?_
     refine st_s rfl rfl rfl rfl rfl ?_
     refine st_s rfl rfl rfl rfl rfl ?_
     refine st_s rfl rfl rfl rfl rfl ?_
     refine st_s rfl rfl rfl rfl rfl ?_
     refine st_s rfl rfl rfl rfl rfl ?_
     refine st_s rfl rfl rfl rfl rfl ?_
     refine st_s rfl rfl rfl rfl rfl ?_
     refine st_p (pkT rfl rfl) rfl ?_
     refine al_nil ?_
     refine nm ?_
     refine aw_yes (rfl) ?_
     refine aw_seq ?_
     refine aw_region ?_
     refine st_p (op_build Try.underlying26 a26 rfl rfl (by intro f hf; simp only [List.mem_cons, List.not_mem_nil, or_false] at hf; rcases hf with rfl | rfl | rfl | rfl <;> exact ⟨_, by first | exact z3 | exact z23 | exact z24⟩) .nil rfl) rfl ?_
     refine st_n (stA z26 rfl rfl rfl rfl rfl rfl rfl rfl rfl rfl) ?_
     refine st_p (mva rfl) rfl ?_
     refine st_p (mva rfl) rfl ?_
     refine al_nil ?_
     refine nm ?_
     refine aw_ret ?_
     refine rs ?_
     exact ret_a ⟨[(2, .ptr 0 0 0), (3, .int .i64 0), (4, .bool false)], [(0, .cells 4 [.agg [.int .i64 0, .int .i64 0, .nils, .nils]])], 1⟩ (le_to [] rfl rfl rfl rfl rfl ⟨rfl, rfl, rfl, trivial⟩ ⟨rfl, trivial⟩) (resCn (.cons (.cell rfl (op_loadA Try.underlying26 rfl rfl rfl rfl rfl rfl)) (.cons (.tmp rfl) (.cons (.tmp rfl) .nil))) (by simp)) (.inr ⟨rfl, rfl⟩) ⟨rfl, rfl, rfl⟩
   | false =>
    cases m with
    | false =>
     have hO : ok = false := by rw [hO]; rfl
     subst hO
     have hno := hno rfl
     refine aw_seq ?_
     refine aw_seq ?_
     refine aw_region ?_
     refine st_p (op_loadA Try.underlying26 rfl z26 rfl rfl rfl rfl) rfl ?_
     refine st_o ((op_callq (hno) Try.func12 ⟨rfl, rfl⟩ rfl rfl (fun nx => (.cons (.of_list (.cons (.same (by rfl)) (.cons (.same (by rfl)) (.cons (.whole rfl rfl rfl (by first | rfl | simp) (by first | rfl | simp [Function.comp_def, AV.ren, rens, sb, rdA, wrA]) (by first | rfl | simp [AV.plain, plains, bl_plain, sb, AV.ren, rdA, wrA])) (.cons (.whole rfl rfl rfl (by first | rfl | simp) (by first | rfl | simp [Function.comp_def, AV.ren, rens, sb, rdA, wrA]) (by first | rfl | simp [AV.plain, plains, bl_plain, sb, AV.ren, rdA, wrA])) .nil))))) .nil)) (by rintro _ _ _ ⟨rfl, rfl, rfl⟩; exact .same rfl)).ok) rfl ?_
     refine st_p (mva rfl) rfl ?_
     refine al_nil ?_
     refine nm ?_
     refine aw_seq ?_
     refine aw_region ?_
     refine st_p (mv rfl) rfl ?_
     refine st_p (op_nilCheck rfl trivial) rfl ?_
     refine st_p (op_fieldAddr Try.underlying95 rfl z4 (by decide) rfl) rfl ?_
     refine st_p (op_load1 Try.underlying4 rfl rfl rfl rfl rfl) rfl ?_
     refine st_p (mv rfl) rfl ?_
     refine st_pg rfl rfl rfl (mv rfl) rfl ?_
     refine st_pg rfl rfl rfl (op_eqn (b := true) Try.underlying22 rfl rfl) rfl ?_
     refine st_p (pkF rfl rfl) rfl ?_
     refine st_p (mv rfl) rfl ?_
     refine st_s rfl rfl rfl rfl rfl ?_
     refine st_s rfl rfl rfl rfl rfl ?_
     refine st_s rfl rfl rfl rfl rfl ?_
     refine st_s rfl rfl rfl rfl rfl ?_
     refine st_p (pkT rfl rfl) rfl ?_
     refine st_p (mv rfl) rfl ?_
     refine st_s rfl rfl rfl rfl rfl ?_
     refine st_s rfl rfl rfl rfl rfl ?_
     refine st_s rfl rfl rfl rfl rfl ?_
     refine st_s rfl rfl rfl rfl rfl ?_
     refine st_s rfl rfl rfl rfl rfl ?_
     refine st_s rfl rfl rfl rfl rfl ?_
     refine st_s rfl rfl rfl rfl rfl ?_
     refine st_p (pkT rfl rfl) rfl ?_
     refine al_nil ?_
     refine nm ?_
     refine aw_yes (rfl) ?_
     refine aw_seq ?_
     refine aw_region ?_
     refine st_p (op_build Try.underlying26 a26 rfl rfl (by intro f hf; simp only [List.mem_cons, List.not_mem_nil, or_false] at hf; rcases hf with rfl | rfl | rfl | rfl <;> exact ⟨_, by first | exact z3 | exact z23 | exact z24⟩) .nil rfl) rfl ?_
     refine st_n (stA z26 rfl rfl rfl rfl rfl rfl rfl rfl rfl rfl) ?_
     refine st_p (mva rfl) rfl ?_
     refine st_p (mva rfl) rfl ?_
     refine al_nil ?_
     refine nm ?_
     refine aw_ret ?_
     refine rs ?_
     exact ret_a ⟨[(2, .ptr 0 0 0), (3, .int .i64 0), (4, .bool false)], [(0, .cells 4 [.agg [.int .i64 0, .int .i64 0, .nils, .nils]])], 1⟩ (le_to [] rfl rfl rfl rfl rfl ⟨rfl, rfl, rfl, trivial⟩ ⟨rfl, trivial⟩) (resCn (.cons (.cell rfl (op_loadA Try.underlying26 rfl rfl rfl rfl rfl rfl)) (.cons (.tmp rfl) (.cons (.tmp rfl) .nil))) (by simp)) (.inr ⟨rfl, rfl⟩) ⟨rfl, rfl, rfl⟩
    | true =>
     have hput := hput rfl
     cases pb with
     | false =>
      have hO : ok = false := by rw [hO]; rfl
      subst hO
      refine aw_seq ?_
      refine aw_seq ?_
      refine aw_region ?_
      refine st_p (op_loadA Try.underlying26 rfl z26 rfl rfl rfl rfl) rfl ?_
      refine st_o ((op_callq (hput) Try.func12 ⟨rfl, rfl⟩ rfl rfl (fun nx => (.cons (.of_list (.cons (.same (by rfl)) (.cons (.same (by rfl)) (.cons (.whole rfl rfl rfl (by first | rfl | simp) (by first | rfl | simp [Function.comp_def, AV.ren, rens, sb, rdA, wrA]) (by first | rfl | simp [AV.plain, plains, bl_plain, sb, AV.ren, rdA, wrA])) (.cons (.whole rfl rfl rfl (by first | rfl | simp) (by first | rfl | simp [Function.comp_def, AV.ren, rens, sb, rdA, wrA]) (by first | rfl | simp [AV.plain, plains, bl_plain, sb, AV.ren, rdA, wrA])) .nil))))) .nil)) (by rintro _ _ _ ⟨rfl, rfl, rfl⟩; exact .whole rfl (by simp) (by first | rfl | simp [AV.plain, plains, bl_plain]))).ok) rfl ?_
      refine st_p (mva rfl) rfl ?_
      refine al_nil ?_
      refine nm ?_
      refine aw_seq ?_
      refine aw_region ?_
      refine st_p (mv rfl) rfl ?_
      refine st_p (op_nilCheck rfl trivial) rfl ?_
      refine st_p (op_fieldAddr Try.underlying95 rfl z4 (by decide) rfl) rfl ?_
      refine st_p (op_load1 Try.underlying4 rfl rfl rfl rfl rfl) rfl ?_
      refine st_p (mv rfl) rfl ?_
      refine st_pg rfl rfl rfl (mv rfl) rfl ?_
      refine st_pg rfl rfl rfl (op_eqn (b := false) Try.underlying22 rfl ⟨by first | assumption | omega | simp, rfl⟩) rfl ?_
      refine st_p (pkF rfl rfl) rfl ?_
      refine st_p (mv rfl) rfl ?_
      refine st_pg rfl rfl rfl (mv rfl) rfl ?_
      refine st_pg rfl rfl rfl (mv rfl) rfl ?_
      refine st_og rfl rfl rfl ((op_callq (hpre) Try.func67 ⟨rfl, rfl⟩ rfl rfl (fun nx => (.cons (.same (by rfl)) (.cons (.same (by rfl)) .nil))) (by rintro _ _ _ ⟨rfl, rfl, rfl⟩; exact .same rfl)).ok) rfl ?_
      refine st_pg rfl rfl rfl (op_notF rfl) rfl ?_
      refine st_p (pkF rfl rfl) rfl ?_
      refine st_p (mv rfl) rfl ?_
      refine st_s rfl rfl rfl rfl rfl ?_
      refine st_s rfl rfl rfl rfl rfl ?_
      refine st_s rfl rfl rfl rfl rfl ?_
      refine st_s rfl rfl rfl rfl rfl ?_
      refine st_s rfl rfl rfl rfl rfl ?_
      refine st_s rfl rfl rfl rfl rfl ?_
      refine st_s rfl rfl rfl rfl rfl ?_
      refine st_p (pkT rfl rfl) rfl ?_
      refine al_nil ?_
      refine nm ?_
      refine aw_yes (rfl) ?_
      refine aw_seq ?_
      refine aw_region ?_
      refine st_p (op_build Try.underlying26 a26 rfl rfl (by intro f hf; simp only [List.mem_cons, List.not_mem_nil, or_false] at hf; rcases hf with rfl | rfl | rfl | rfl <;> exact ⟨_, by first | exact z3 | exact z23 | exact z24⟩) .nil rfl) rfl ?_
      refine st_n (stA z26 rfl rfl rfl rfl rfl rfl rfl rfl rfl rfl) ?_
      refine st_p (mva rfl) rfl ?_
      refine st_p (mva rfl) rfl ?_
      refine al_nil ?_
      refine nm ?_
      refine aw_ret ?_
      refine rs ?_
      exact ret_a ⟨[(2, .ptr 0 0 0), (3, .int .i64 0), (4, .bool false)], [(0, .cells 4 [.agg [.int .i64 0, .int .i64 0, .nils, .nils]])], 1⟩ (le_to [] rfl rfl rfl rfl rfl ⟨rfl, rfl, rfl, trivial⟩ ⟨rfl, trivial⟩) (resCn (.cons (.cell rfl (op_loadA Try.underlying26 rfl rfl rfl rfl rfl rfl)) (.cons (.tmp rfl) (.cons (.tmp rfl) .nil))) (by simp)) (.inr ⟨rfl, rfl⟩) ⟨rfl, rfl, rfl⟩
     | true =>
      by_cases hlen : X.length = nZ
      ·have hO : ok = true := by rw [hO, decide_eq_true hlen]; rfl
       subst hO
       refine aw_seq ?_
       refine aw_seq ?_
       refine aw_region ?_
       refine st_p (op_loadA Try.underlying26 rfl z26 rfl rfl rfl rfl) rfl ?_
       refine st_o ((op_callq (hput) Try.func12 ⟨rfl, rfl⟩ rfl rfl (fun nx => (.cons (.of_list (.cons (.same (by rfl)) (.cons (.same (by rfl)) (.cons (.whole rfl rfl rfl (by first | rfl | simp) (by first | rfl | simp [Function.comp_def, AV.ren, rens, sb, rdA, wrA]) (by first | rfl | simp [AV.plain, plains, bl_plain, sb, AV.ren, rdA, wrA])) (.cons (.whole rfl rfl rfl (by first | rfl | simp) (by first | rfl | simp [Function.comp_def, AV.ren, rens, sb, rdA, wrA]) (by first | rfl | simp [AV.plain, plains, bl_plain, sb, AV.ren, rdA, wrA])) .nil))))) .nil)) (by rintro _ _ _ ⟨rfl, rfl, rfl⟩; exact .whole rfl (by simp) (by first | rfl | simp [AV.plain, plains, bl_plain]))).ok) rfl ?_
       refine st_p (mva rfl) rfl ?_
       refine al_nil ?_
       refine nm ?_
       refine aw_seq ?_
       refine aw_region ?_
       refine st_p (mv rfl) rfl ?_
       refine st_p (op_nilCheck rfl trivial) rfl ?_
       refine st_p (op_fieldAddr Try.underlying95 rfl z4 (by decide) rfl) rfl ?_
       refine st_p (op_load1 Try.underlying4 rfl rfl rfl rfl rfl) rfl ?_
       refine st_p (mv rfl) rfl ?_
       refine st_pg rfl rfl rfl (mv rfl) rfl ?_
       refine st_pg rfl rfl rfl (op_eqn (b := false) Try.underlying22 rfl ⟨by first | assumption | omega | simp, rfl⟩) rfl ?_
       refine st_p (pkF rfl rfl) rfl ?_
       refine st_p (mv rfl) rfl ?_
       refine st_pg rfl rfl rfl (mv rfl) rfl ?_
       refine st_pg rfl rfl rfl (mv rfl) rfl ?_
       refine st_og rfl rfl rfl ((op_callq (hpre) Try.func67 ⟨rfl, rfl⟩ rfl rfl (fun nx => (.cons (.same (by rfl)) (.cons (.same (by rfl)) .nil))) (by rintro _ _ _ ⟨rfl, rfl, rfl⟩; exact .same rfl)).ok) rfl ?_
       refine st_pg rfl rfl rfl (op_notT rfl) rfl ?_
       refine st_p (pkF rfl rfl) rfl ?_
       refine st_p (mv rfl) rfl ?_
       refine st_pg rfl rfl rfl (mv rfl) rfl ?_
       refine st_pg rfl rfl rfl (op_len Try.underlying22 rfl) rfl ?_
       refine st_pg rfl rfl rfl (mv rfl) rfl ?_
       refine st_pg rfl rfl rfl (op_nilCheck rfl trivial) rfl ?_
       refine st_pg rfl rfl rfl (op_fieldAddr Try.underlying95 rfl z3 (by decide) rfl) rfl ?_
       refine st_pg rfl rfl rfl (op_load1 Try.underlying3 rfl rfl rfl rfl rfl) rfl ?_
       refine st_pg rfl rfl rfl (OpP.conv (op_ne rfl rfl) (no (by first | assumption | omega))) rfl ?_
       refine st_p (pkF rfl rfl) rfl ?_
       refine al_nil ?_
       refine nm ?_
       refine aw_no (rfl) ?_
       refine aw_skip ?_
       refine nm ?_
       refine aw_seq ?_
       refine dr_go ?_
       refine dr_q 0 0 [2] rfl (op_loadA Try.underlying26 rfl z26 rfl rfl rfl rfl) ?_
       refine dr_f 0 1 [5] rfl (fun H => mv rfl) ?_
       refine dr_f 0 1 [111] rfl (fun H => op_nilCheck rfl trivial) ?_
       refine dr_f 0 1 [112] rfl (fun H => op_fieldAddr Try.underlying95 rfl z3 (by decide) rfl) ?_
       refine dr_q 0 1 [113] rfl (op_load1 Try.underlying3 rfl rfl rfl rfl rfl) ?_
       refine dr_n 0 [2, 110] rfl (stA z26 rfl rfl rfl rfl rfl rfl rfl rfl rfl rfl) ?_
       refine dr_f 1 1 [114] rfl (fun H => mva rfl) ?_
       refine dr_f 1 1 [] rfl (fun H => mva rfl) ?_
       refine dr_end [(4, 1)] (by kernel_rfl) (by kernel_rfl) (by kernel_rfl) (by kernel_rfl) ⟨(by first | exact ⟨_, rfl, OpP.q (op_load1L Try.underlying3 rfl rfl rfl)⟩ | exact ⟨_, rfl, OpP.q (op_load1 Try.underlying3 rfl rfl rfl rfl rfl)⟩ | exact ⟨_, rfl, OpP.q (op_load1 Try.underlying3 rfl rfl rfl (by assumption) rfl)⟩ | exact ⟨_, rfl, OpP.q (op_load1 Try.underlying3 rfl rfl rfl rfl (by assumption))⟩), trivial⟩ ?_
       refine nm ?_
       refine aw_ret ?_
       exact ret_a ⟨[(2, .ptr 0 0 0), (3, .int .i64 (nZ : Nat)), (4, .bool true)], [(0, .cells 4 [.agg [.int .i64 (vA : Nat), .int .i64 (vQ : Nat), .own 2 0 rl.length, .own 3 0 wl.length]]), (2, .cells 4 (rl.map rdA)), (3, .cells 3 (wl.map wrA))], 4⟩ (le_to [] rfl rfl rfl rfl rfl ⟨rfl, rfl, rfl, trivial⟩ ⟨rfl, by rw [ren_rds]; rfl, by rw [ren_wrs]; rfl, trivial⟩) (resCn (.cons (.cell rfl (op_loadA Try.underlying26 rfl rfl rfl rfl rfl rfl)) (.cons (.tmp rfl) (.cons (.tmp rfl) .nil))) (by simp)) (.inr ⟨rfl, by simp [Blk.nosl, AV.nosl, nosls, rdA, wrA, sb]⟩) ⟨rfl, rfl, rfl⟩
      ·have hO : ok = false := by rw [hO, decide_eq_false hlen]; rfl
       subst hO
       refine aw_seq ?_
       refine aw_seq ?_
       refine aw_region ?_
       refine st_p (op_loadA Try.underlying26 rfl z26 rfl rfl rfl rfl) rfl ?_
       refine st_o ((op_callq (hput) Try.func12 ⟨rfl, rfl⟩ rfl rfl (fun nx => (.cons (.of_list (.cons (.same (by rfl)) (.cons (.same (by rfl)) (.cons (.whole rfl rfl rfl (by first | rfl | simp) (by first | rfl | simp [Function.comp_def, AV.ren, rens, sb, rdA, wrA]) (by first | rfl | simp [AV.plain, plains, bl_plain, sb, AV.ren, rdA, wrA])) (.cons (.whole rfl rfl rfl (by first | rfl | simp) (by first | rfl | simp [Function.comp_def, AV.ren, rens, sb, rdA, wrA]) (by first | rfl | simp [AV.plain, plains, bl_plain, sb, AV.ren, rdA, wrA])) .nil))))) .nil)) (by rintro _ _ _ ⟨rfl, rfl, rfl⟩; exact .whole rfl (by simp) (by first | rfl | simp [AV.plain, plains, bl_plain]))).ok) rfl ?_
       refine st_p (mva rfl) rfl ?_
       refine al_nil ?_
       refine nm ?_
       refine aw_seq ?_
       refine aw_region ?_
       refine st_p (mv rfl) rfl ?_
       refine st_p (op_nilCheck rfl trivial) rfl ?_
       refine st_p (op_fieldAddr Try.underlying95 rfl z4 (by decide) rfl) rfl ?_
       refine st_p (op_load1 Try.underlying4 rfl rfl rfl rfl rfl) rfl ?_
       refine st_p (mv rfl) rfl ?_
       refine st_pg rfl rfl rfl (mv rfl) rfl ?_
       refine st_pg rfl rfl rfl (op_eqn (b := false) Try.underlying22 rfl ⟨by first | assumption | omega | simp, rfl⟩) rfl ?_
       refine st_p (pkF rfl rfl) rfl ?_
       refine st_p (mv rfl) rfl ?_
       refine st_pg rfl rfl rfl (mv rfl) rfl ?_
       refine st_pg rfl rfl rfl (mv rfl) rfl ?_
       refine st_og rfl rfl rfl ((op_callq (hpre) Try.func67 ⟨rfl, rfl⟩ rfl rfl (fun nx => (.cons (.same (by rfl)) (.cons (.same (by rfl)) .nil))) (by rintro _ _ _ ⟨rfl, rfl, rfl⟩; exact .same rfl)).ok) rfl ?_
       refine st_pg rfl rfl rfl (op_notT rfl) rfl ?_
       refine st_p (pkF rfl rfl) rfl ?_
       refine st_p (mv rfl) rfl ?_
       refine st_pg rfl rfl rfl (mv rfl) rfl ?_
       refine st_pg rfl rfl rfl (op_len Try.underlying22 rfl) rfl ?_
       refine st_pg rfl rfl rfl (mv rfl) rfl ?_
       refine st_pg rfl rfl rfl (op_nilCheck rfl trivial) rfl ?_
       refine st_pg rfl rfl rfl (op_fieldAddr Try.underlying95 rfl z3 (by decide) rfl) rfl ?_
       refine st_pg rfl rfl rfl (op_load1 Try.underlying3 rfl rfl rfl rfl rfl) rfl ?_
       refine st_pg rfl rfl rfl (OpP.conv (op_ne rfl rfl) (yes (by first | assumption | omega))) rfl ?_
       refine st_p (pkF rfl rfl) rfl ?_
       refine al_nil ?_
       refine nm ?_
       refine aw_yes (rfl) ?_
       refine aw_seq ?_
       refine aw_region ?_
       refine st_p (op_build Try.underlying26 a26 rfl rfl (by intro f hf; simp only [List.mem_cons, List.not_mem_nil, or_false] at hf; rcases hf with rfl | rfl | rfl | rfl <;> exact ⟨_, by first | exact z3 | exact z23 | exact z24⟩) .nil rfl) rfl ?_
       refine st_n (stA z26 rfl rfl rfl rfl rfl rfl rfl rfl rfl rfl) ?_
       refine st_p (mva rfl) rfl ?_
       refine st_p (mva rfl) rfl ?_
       refine al_nil ?_
       refine nm ?_
       refine aw_ret ?_
       refine rs ?_
       exact ret_a ⟨[(2, .ptr 0 0 0), (3, .int .i64 0), (4, .bool false)], [(0, .cells 4 [.agg [.int .i64 0, .int .i64 0, .nils, .nils]])], 1⟩ (le_to [] rfl rfl rfl rfl rfl ⟨rfl, rfl, rfl, trivial⟩ ⟨rfl, trivial⟩) (resCn (.cons (.cell rfl (op_loadA Try.underlying26 rfl rfl rfl rfl rfl rfl)) (.cons (.tmp rfl) (.cons (.tmp rfl) .nil))) (by simp)) (.inr ⟨rfl, rfl⟩) ⟨rfl, rfl, rfl⟩

end Go.Proofs.Ytpggknkhldecaaa.Abs
end
section
namespace Go.Proofs.Ytpggknkhldecaaa.Abs

theorem Fzs.agg {h' : Heap} {xs ys : List AV} (h : Fzs h' xs ys) : Fz h' (.agg xs) (.agg ys) := by
 have : xs.length = ys.length ∧ ∀ (i : Nat) (x y : AV), xs[i]? = some x → ys[i]? = some y → Fz h' x y := by
  induction h with
  | nil => exact ⟨rfl, fun i x y hx => by simp at hx⟩
  | cons h _ ih =>
   refine ⟨by simp [ih.1], fun i x y hx hy => ?_⟩
   cases i with
   | zero => simp only [List.getElem?_cons_zero, Option.some.injEq] at hx hy; subst hx; subst hy; exact h
   | succ i => simp only [List.getElem?_cons_succ] at hx hy; exact ih.2 i x y hx hy
 exact .agg this.1 this.2

theorem txn_Take_yes (b : List UInt8) (hb : b.length ≤ 100000) (hok : takeOk b = true) :
  AC Try.prog 21 [.sl 1 (bl b)] [] 0 false (fun v h nx => v = .tup [.agg [.int .i64 (takeT b).ses, .int .i64 (takeT b).seq, .own 0 0 (takeT b).reads.length, .own 1 0 (takeT b).writes.length], .int .i64 ((takeW b).2.1 : Nat), .bool true] ∧
   h = [(0, .cells 4 ((takeT b).reads.map rdA)), (1, .cells 3 ((takeT b).writes.map wrA))] ∧ nx = 2) := by
 have k0 := txn_Take0 b hb
 rw [hok] at k0
 simp only [cond_true] at k0
 unfold takeT
 dsimp only
 generalize takeA b = A at k0 ⊢
 generalize takeQ b = Q at k0 ⊢
 generalize takeR b = R at k0 ⊢
 generalize takeW b = W at k0 ⊢
 refine k0.le ?_
 rintro r h nx ⟨rfl, rfl, rfl⟩
 refine ⟨Nat.zero_le _, _, _, _, ⟨rfl, rfl, rfl⟩, fun c hc => ?_⟩
 exact le_to [(0, 2), (1, 3)] rfl (by rw [hc]; rfl) (by rw [hc]; rfl) rfl rfl ⟨rfl, trivial⟩ ⟨by rw [ren_rds]; rfl, by rw [ren_wrs]; rfl, trivial⟩

theorem txn_Take_no (b : List UInt8) (hb : b.length ≤ 100000) (hok : takeOk b = false) :
  AC Try.prog 21 [.sl 1 (bl b)] [] 0 false (fun v h nx => v = .tup [txA ⟨0, 0, [], []⟩, .int .i64 0, .bool false] ∧ h = [] ∧ nx = 0) := by
 have k : AC Try.prog 21 [.sl 1 (bl b)] [] 0 false (fun v h nx => v = .tup [.agg [.int .i64 0, .int .i64 0, .nils, .nils], .int .i64 0, .bool false] ∧ h = [] ∧ nx = 0) := by
  have k0 := txn_Take0 b hb
  rw [hok] at k0
  simp only [cond_false] at k0
  refine k0.le ?_
  rintro r h nx ⟨rfl, rfl, rfl⟩
  refine ⟨Nat.zero_le _, _, _, _, ⟨rfl, rfl, rfl⟩, fun c hc => ?_⟩
  exact le_to [] rfl rfl (by rw [hc]; rfl) rfl rfl ⟨rfl, trivial⟩ trivial
 refine k.le ?_
 rintro r h nx ⟨rfl, rfl, rfl⟩
 refine ⟨Nat.zero_le _, _, _, _, ⟨rfl, rfl, rfl⟩, fun c hc => le_val fun S w ρ v hv => ?_⟩
 cases hv with
 | tup vs h1 h2 =>
  refine .tup vs h1 fun i x u hx hu => ?_
  match i with
  | 0 =>
   simp only [List.getElem?_cons_zero, Option.some.injEq] at hx
   subst hx
   have := h2 0 _ u rfl hu
   cases this with
   | agg ws k1 k2 =>
    refine .agg ws k1 fun j y z hy hz => ?_
    match j with
    | 0 => exact k2 0 y z hy hz
    | 1 => exact k2 1 y z hy hz
    | 2 =>
     simp only [List.getElem?_cons_succ, List.getElem?_cons_zero, Option.some.injEq] at hy
     subst hy
     have := k2 2 _ z rfl hz
     cases this
     exact .sl0
    | 3 =>
     simp only [List.getElem?_cons_succ, List.getElem?_cons_zero, Option.some.injEq] at hy
     subst hy
     have := k2 3 _ z rfl hz
     cases this
     exact .sl0
    | j + 4 => simp at hy
  | 1 => exact h2 1 x u hx hu
  | 2 => exact h2 2 x u hx hu
  | i + 3 => simp at hx


theorem takeN_put : ∀ (k v i v0 m : Nat) (rest : List UInt8), v ≤ k → (i = 0 ∨ 0 < v) → (putNum v).length ≤ m → takeN ((putNum v ++ rest).take m) i v0 = some (v0 + v * 128 ^ i, i + (putNum v).length) := by
 intro k
 induction k with
 | zero =>
  intro v i v0 m rest hv hi hm
  have hv0 : v = 0 := by omega
  subst hv0
  rw [putNum_lo (by omega)] at hm ⊢
  obtain ⟨q, rfl⟩ : ∃ q, m = q + 1 := ⟨m - 1, by simp at hm; omega⟩
  rw [List.cons_append, List.take_succ_cons, takeN]
  rcases hi with rfl | hi
  ·simp
  ·omega
 | succ k ih =>
  intro v i v0 m rest hv hi hm
  by_cases h : v < 128
  ·rw [putNum_lo h] at hm ⊢
   obtain ⟨q, rfl⟩ : ∃ q, m = q + 1 := ⟨m - 1, by simp at hm; omega⟩
   rw [List.cons_append, List.take_succ_cons, takeN]
   have e : (UInt8.ofNat v).toNat = v := by have := u8_nat (n := v) (by omega); omega
   rw [e, if_pos h, if_pos hi]
   rfl
  ·rw [putNum_hi h] at hm ⊢
   obtain ⟨q, rfl⟩ : ∃ q, m = q + 1 := ⟨m - 1, by simp at hm; omega⟩
   rw [List.cons_append, List.take_succ_cons, takeN]
   have e : (UInt8.ofNat (v % 128 + 128)).toNat = v % 128 + 128 := by have := u8_nat (n := v % 128 + 128) (by omega); omega
   rw [e, if_neg (by omega), ih (v / 128) (i + 1) _ q rest (by omega) (.inr (by omega)) (by simp at hm; omega)]
   have e2 : v % 128 * 128 ^ i + v / 128 * 128 ^ (i + 1) = v * 128 ^ i := by
    rw [Nat.pow_succ, Nat.mul_comm (128 ^ i) 128, ← Nat.mul_assoc, ← Nat.add_mul]
    congr 1
    omega
   rw [List.length_cons, Nat.add_sub_cancel]
   congr 2
   ·omega
   ·omega

theorem takeNum_put (v : Nat) (rest : List UInt8) (hv : v ≤ 9223372036854775807) : takeNum (putNum v ++ rest) = some (v, (putNum v).length) := by
 have := takeN_put v v 0 0 9 rest (Nat.le_refl _) (.inl rfl) (putNum_le v hv)
 unfold takeNum
 rw [this]
 simp

theorem takeText_put (s rest : List UInt8) (hs : s.length ≤ 255) : takeText (putText s ++ rest) = some (s, (putText s).length) := by
 unfold takeText putText
 rw [List.append_assoc, takeNum_put _ _ (by omega)]
 dsimp only
 rw [if_pos ⟨hs, by simp only [List.length_append]; omega⟩, List.drop_left, List.take_left, List.length_append]

theorem drop_on {b x rest : List UInt8} {n : Nat} (h : b.drop n = x ++ rest) : b.drop (n + x.length) = rest := by
 rw [← List.drop_drop, h, List.drop_left]

theorem numS_put {b rest : List UInt8} {s : Nat × Bool} {v : Nat} (hv : v ≤ 9223372036854775807) (h : b.drop s.1 = putNum v ++ rest) : numS b s = (v, s.1 + (putNum v).length, s.2) := by
 unfold numS
 rw [h, takeNum_put v rest hv]
theorem textS_put {b rest t : List UInt8} {s : Nat × Bool} (ht : t.length ≤ 255) (h : b.drop s.1 = putText t ++ rest) : textS b s = (t, s.1 + (putText t).length, s.2) := by
 unfold textS
 rw [h, takeText_put t rest ht]

theorem flag_put (x : Bool) : [flagN x] = putNum (if x then 1 else 0) := by
 cases x
 ·rw [putNum_lo (by decide)]; rfl
 ·rw [putNum_lo (by decide)]; rfl

theorem takeRdS_put {b rest : List UInt8} {s : Nat × Bool} {r : RD} (hk : r.key.length ≤ 255) (hv0 : 0 ≤ r.ver) (hv : r.ver ≤ 9223372036854775807) (hw : r.val.length ≤ 255) (h : b.drop s.1 = rdBytes r ++ rest) : takeRdS b s = (r, s.1 + (rdBytes r).length, s.2) := by
 obtain ⟨k, v, w, f⟩ := r
 dsimp only at hk hv0 hv hw
 unfold rdBytes at h ⊢
 simp only [List.flatten_cons, List.flatten_nil, List.append_nil, List.append_assoc] at h
 dsimp only at h ⊢
 rw [flag_put] at h ⊢
 have e1 := textS_put hk h
 have h2 := drop_on h
 have e2 := numS_put (s := (s.1 + (putText k).length, s.2)) (by omega) h2
 have h3 := drop_on h2
 have e3 := textS_put (s := (s.1 + (putText k).length + (putNum v.toNat).length, s.2)) hw h3
 have h4 := drop_on h3
 have e4 := numS_put (s := (s.1 + (putText k).length + (putNum v.toNat).length + (putText w).length, s.2)) (by cases f <;> decide) h4
 unfold takeRdS
 rw [e1]
 dsimp only at e2 e3 e4 ⊢
 rw [e2]
 dsimp only at e3 e4 ⊢
 rw [e3]
 dsimp only at e4 ⊢
 rw [e4]
 dsimp only
 simp only [Prod.mk.injEq, RD.mk.injEq, true_and, and_true, List.flatten_cons, List.flatten_nil, List.append_nil, List.length_append]
 refine ⟨⟨by omega, ?_⟩, by omega⟩
 cases f <;> rfl

theorem takeWrS_put {b rest : List UInt8} {s : Nat × Bool} {r : WR} (hk : r.key.length ≤ 255) (hw : r.val.length ≤ 255) (h : b.drop s.1 = wrBytes r ++ rest) : takeWrS b s = (r, s.1 + (wrBytes r).length, s.2) := by
 obtain ⟨k, w, f⟩ := r
 dsimp only at hk hw
 unfold wrBytes at h ⊢
 simp only [List.flatten_cons, List.flatten_nil, List.append_nil, List.append_assoc] at h
 dsimp only at h ⊢
 rw [flag_put] at h ⊢
 have e1 := textS_put hk h
 have h2 := drop_on h
 have e2 := textS_put (s := (s.1 + (putText k).length, s.2)) hw h2
 have h3 := drop_on h2
 have e3 := numS_put (s := (s.1 + (putText k).length + (putText w).length, s.2)) (by cases f <;> decide) h3
 unfold takeWrS
 rw [e1]
 dsimp only at e2 e3 ⊢
 rw [e2]
 dsimp only at e3 ⊢
 rw [e3]
 dsimp only
 simp only [Prod.mk.injEq, WR.mk.injEq, true_and, and_true, List.flatten_cons, List.flatten_nil, List.append_nil, List.length_append]
 refine ⟨?_, by omega⟩
 cases f <;> rfl

theorem loopS_put {α : Type} {b : List UInt8} {f : Nat × Bool → α × Nat × Bool} {g : α → List UInt8} : ∀ (l : List α) (n : Nat) (rest : List UInt8), (∀ r ∈ l, ∀ (n : Nat) (rest : List UInt8), b.drop n = g r ++ rest → f (n, false) = (r, n + (g r).length, false)) →
  b.drop n = (l.map g).flatten ++ rest → loopS f l.length (n, false) = (l, n + (l.map g).flatten.length, false) := by
 intro l
 induction l with
 | nil => intro n rest _ _; rfl
 | cons r l ih =>
  intro n rest hf h
  simp only [List.map_cons, List.flatten_cons, List.append_assoc] at h
  have e1 := hf r List.mem_cons_self n _ h
  have h2 := drop_on h
  have e2 := ih (n + (g r).length) rest (fun x hx => hf x (List.mem_cons_of_mem _ hx)) h2
  simp only [List.length_cons, loopS, Bool.false_eq_true, if_false, e1, e2]
  simp only [List.map_cons, List.flatten_cons, List.length_append, Nat.add_assoc]

theorem take_put (t : TX) (y : List UInt8) (hm : mayTxB t = true) (hv : ∀ r ∈ t.reads, r.ver ≤ 9223372036854775807) : takeT (putTx t ++ y) = t ∧ (takeW (putTx t ++ y)).2 = ((putTx t).length, false) := by
 have hm' := hm
 unfold mayTxB at hm'
 simp only [Bool.and_eq_true, decide_eq_true_eq] at hm'
 obtain ⟨t1, t2, t3, t4, t5, t6, t7, t8, t9, t10⟩ := hm'
 rw [List.all_eq_true] at t9 t10
 have hkr : ∀ r ∈ t.reads, r.key.length ≤ 255 := fun r hr => by have := (mayB_len (rising_key t6 _ (List.mem_map_of_mem hr))).2; omega
 have hkw : ∀ r ∈ t.writes, r.key.length ≤ 255 := fun r hr => by have := (mayB_len (rising_key t8 _ (List.mem_map_of_mem hr))).2; omega
 have hvr : ∀ r ∈ t.reads, r.val.length ≤ 255 := fun r hr => by have := (readB_val (t9 r hr)).2; omega
 have hvw : ∀ r ∈ t.writes, r.val.length ≤ 255 := fun r hr => by
  have := t10 r hr
  unfold writeB at this
  simp only [Bool.and_eq_true, decide_eq_true_eq] at this
  omega
 have h0 : (putTx t ++ y).drop 0 = putNum t.ses.toNat ++ (putNum t.seq.toNat ++ (putNum t.reads.length ++ ((t.reads.map rdBytes).flatten ++ (putNum t.writes.length ++ ((t.writes.map wrBytes).flatten ++ y))))) := by
  unfold putTx txMid txHead
  simp only [List.drop_zero, List.flatten_cons, List.flatten_nil, List.append_nil, List.append_assoc]
 have hlen : (putTx t).length = (putNum t.ses.toNat).length + (putNum t.seq.toNat).length + (putNum t.reads.length).length + (t.reads.map rdBytes).flatten.length + (putNum t.writes.length).length + (t.writes.map wrBytes).flatten.length := by
  unfold putTx txMid txHead
  simp only [List.flatten_cons, List.flatten_nil, List.append_nil, List.length_append]
  omega
 generalize putTx t ++ y = b at h0
 have eA : takeA b = (t.ses.toNat, 0 + (putNum t.ses.toNat).length, false) := numS_put (s := (0, false)) (by omega) h0
 have h1 := drop_on h0
 have eQ : takeQ b = (t.seq.toNat, 0 + (putNum t.ses.toNat).length + (putNum t.seq.toNat).length, false) := by
  unfold takeQ; rw [eA]; exact numS_put (s := (_, false)) (by omega) h1
 have h2 := drop_on h1
 have eC : takeC b = (t.reads.length, 0 + (putNum t.ses.toNat).length + (putNum t.seq.toNat).length + (putNum t.reads.length).length, false) := by
  unfold takeC; rw [eQ]; exact numS_put (s := (_, false)) (by omega) h2
 have h3 := drop_on h2
 have eR : takeR b = (t.reads, 0 + (putNum t.ses.toNat).length + (putNum t.seq.toNat).length + (putNum t.reads.length).length + (t.reads.map rdBytes).flatten.length, false) := by
  unfold takeR; rw [eC]
  exact loopS_put t.reads _ _ (fun r hr n rest h => takeRdS_put (s := (n, false)) (hkr r hr) (readB_val (t9 r hr)).1 (hv r hr) (hvr r hr) h) h3
 have h4 := drop_on h3
 have eD : takeD b = (t.writes.length, 0 + (putNum t.ses.toNat).length + (putNum t.seq.toNat).length + (putNum t.reads.length).length + (t.reads.map rdBytes).flatten.length + (putNum t.writes.length).length, false) := by
  unfold takeD; rw [eR]; exact numS_put (s := (_, false)) (by omega) h4
 have h5 := drop_on h4
 have eW : takeW b = (t.writes, 0 + (putNum t.ses.toNat).length + (putNum t.seq.toNat).length + (putNum t.reads.length).length + (t.reads.map rdBytes).flatten.length + (putNum t.writes.length).length + (t.writes.map wrBytes).flatten.length, false) := by
  unfold takeW; rw [eD]
  exact loopS_put t.writes _ _ (fun r hr n rest h => takeWrS_put (s := (n, false)) (hkw r hr) (hvw r hr) h) h5
 refine ⟨?_, ?_⟩
 ·unfold takeT
  rw [eA, eQ, eR, eW]
  obtain ⟨a, c, rl, wl⟩ := t
  dsimp only at *
  rw [show ((a.toNat : Nat) : Int) = a by omega, show ((c.toNat : Nat) : Int) = c by omega]
 ·rw [eW, hlen]
  simp only [Prod.mk.injEq, and_true]
  omega

theorem takeOk_put (t : TX) (y : List UInt8) (hm : mayTxB t = true) (hv : ∀ r ∈ t.reads, r.ver ≤ 9223372036854775807) : takeOk (putTx t ++ y) = true := by
 obtain ⟨h1, h2⟩ := take_put t y hm hv
 unfold takeOk
 rw [h1, h2, hm]
 simp [preB]

theorem takeOk_pre {b : List UInt8} (h : takeOk b = true) : mayTxB (takeT b) = true ∧ ∃ z, b = putTx (takeT b) ++ z := by
 unfold takeOk preB at h
 simp only [Bool.and_eq_true, decide_eq_true_eq] at h
 obtain ⟨_, h2, ⟨h3, h4⟩, _⟩ := h
 refine ⟨h2, b.drop (putTx (takeT b)).length, ?_⟩
 conv => rhs; lhs; rw [← h4]
 exact (List.take_append_drop _ _).symm

end Go.Proofs.Ytpggknkhldecaaa.Abs
end
section
namespace Go.Proofs.Ytpggknkhldecaaa.Abs

def flagS (b : List UInt8) (s : Nat × Bool) : Bool × Nat × Bool := match b[s.1]? with
 | some c => (decide (c.toNat = 1), s.1 + 1, s.2)
 | none => (false, s.1, true)
def refRdS (b : List UInt8) (s : Nat × Bool) : RD × Nat × Bool :=
 (⟨(textS b s).1, ((numS b (textS b s).2).1 : Nat), (textS b (numS b (textS b s).2).2).1, (flagS b (textS b (numS b (textS b s).2).2).2).1⟩, (flagS b (textS b (numS b (textS b s).2).2).2).2)
def refWrS (b : List UInt8) (s : Nat × Bool) : WR × Nat × Bool :=
 (⟨(textS b s).1, (textS b (textS b s).2).1, (flagS b (textS b (textS b s).2).2).1⟩, (flagS b (textS b (textS b s).2).2).2)
def loopR {α : Type} (f : Nat × Bool → α × Nat × Bool) (mx : Nat) : Nat → List α → Nat × Bool → List α × Nat × Bool
 | 0, acc, s => (acc, s)
 | i + 1, acc, s => if s.2 = true ∨ mx < acc.length then (acc, s) else loopR f mx i (acc ++ [(f s).1]) (f s).2
theorem loopR_stop {α : Type} (f : Nat × Bool → α × Nat × Bool) (mx : Nat) (i : Nat) (acc : List α) (s : Nat × Bool) (h : s.2 = true ∨ mx < acc.length) : loopR f mx i acc s = (acc, s) := by
 cases i with
 | zero => rfl
 | succ i => rw [loopR, if_pos h]
theorem loopR_go {α : Type} (f : Nat × Bool → α × Nat × Bool) (mx : Nat) (i : Nat) (acc : List α) (s : Nat × Bool) (h : ¬ (s.2 = true ∨ mx < acc.length)) : loopR f mx (i + 1) acc s = loopR f mx i (acc ++ [(f s).1]) (f s).2 := by
 rw [loopR, if_neg h]

theorem flagS_le (b : List UInt8) (s : Nat × Bool) (h : s.1 ≤ b.length) : (flagS b s).2.1 ≤ b.length ∧ s.1 ≤ (flagS b s).2.1 := by
 unfold flagS
 split
 ·rename_i c hc
  have := (List.getElem?_eq_some_iff.1 hc).1
  exact ⟨by dsimp only; omega, by dsimp only; omega⟩
 ·exact ⟨h, Nat.le_refl _⟩
theorem refRdS_le (b : List UInt8) (s : Nat × Bool) (h : s.1 ≤ b.length) : (refRdS b s).2.1 ≤ b.length ∧ (refRdS b s).1.ver ≤ 9223372036854775807 ∧ (refRdS b s).1.key.length ≤ 255 := by
 obtain ⟨h1, _, k1, _⟩ := textS_le b s h
 obtain ⟨h2, _, k2, _⟩ := numS_le b _ h1
 obtain ⟨h3, _⟩ := textS_le b _ h2
 exact ⟨(flagS_le b _ h3).1, by unfold refRdS; dsimp only; omega, k1⟩
theorem refWrS_le (b : List UInt8) (s : Nat × Bool) (h : s.1 ≤ b.length) : (refWrS b s).2.1 ≤ b.length ∧ (refWrS b s).1.key.length ≤ 255 := by
 obtain ⟨h1, _, k1, _⟩ := textS_le b s h
 obtain ⟨h2, _⟩ := textS_le b _ h1
 exact ⟨(flagS_le b _ h2).1, k1⟩
theorem loopR_all {α : Type} {b : List UInt8} {f : Nat × Bool → α × Nat × Bool} {P : α → Prop} {mx : Nat} (hf : ∀ s : Nat × Bool, s.1 ≤ b.length → (f s).2.1 ≤ b.length ∧ P (f s).1) : ∀ (i : Nat) (acc : List α) (s : Nat × Bool), s.1 ≤ b.length → (∀ r ∈ acc, P r) → acc.length ≤ mx + 1 →
  (loopR f mx i acc s).2.1 ≤ b.length ∧ (∀ r ∈ (loopR f mx i acc s).1, P r) ∧ (loopR f mx i acc s).1.length ≤ mx + 1 := by
 intro i
 induction i with
 | zero => intro acc s h1 h2 h3; exact ⟨h1, h2, h3⟩
 | succ i ih =>
  intro acc s h1 h2 h3
  rw [loopR]
  split
  ·exact ⟨h1, h2, h3⟩
  ·rename_i hc
   obtain ⟨k1, k2⟩ := hf s h1
   refine ih _ _ k1 (fun r hr => ?_) (by rw [List.length_append]; simp only [List.length_cons, List.length_nil]; omega)
   rcases List.mem_append.1 hr with h | h
   ·exact h2 r h
   ·rw [List.mem_singleton.1 h]; exact k2

def refA (b : List UInt8) := numS b (0, false)
def refQ (b : List UInt8) := numS b (refA b).2
def refC (b : List UInt8) := numS b (refQ b).2
def refR (b : List UInt8) := loopR (refRdS b) 6 (refC b).1 [] (refC b).2
def refD (b : List UInt8) := numS b (refR b).2
def refW (b : List UInt8) := loopR (refWrS b) 4 (refD b).1 [] (refD b).2
def refT (b : List UInt8) : TX := ⟨(refA b).1, (refQ b).1, (refR b).1, (refW b).1⟩
def refOk (b : List UInt8) : Bool := !(refW b).2.2 && (mayTxB (refT b) && decide (putTx (refT b) = b.take (refW b).2.1))

theorem flagS_put {b rest : List UInt8} {s : Nat × Bool} {x : Bool} (h : b.drop s.1 = [flagN x] ++ rest) : flagS b s = (x, s.1 + 1, s.2) := by
 have : b[s.1]? = some (flagN x) := by
  have e : (b.drop s.1)[0]? = some (flagN x) := by rw [h]; rfl
  rwa [List.getElem?_drop, Nat.add_zero] at e
 unfold flagS
 rw [this]
 cases x <;> rfl
theorem refRdS_put {b rest : List UInt8} {s : Nat × Bool} {r : RD} (hk : r.key.length ≤ 255) (hv0 : 0 ≤ r.ver) (hv : r.ver ≤ 9223372036854775807) (hw : r.val.length ≤ 255) (h : b.drop s.1 = rdBytes r ++ rest) : refRdS b s = (r, s.1 + (rdBytes r).length, s.2) := by
 obtain ⟨k, v, w, f⟩ := r
 dsimp only at hk hv0 hv hw
 unfold rdBytes at h ⊢
 simp only [List.flatten_cons, List.flatten_nil, List.append_nil, List.append_assoc] at h
 dsimp only at h ⊢
 have e1 := textS_put hk h
 have h2 := drop_on h
 have e2 := numS_put (s := (s.1 + (putText k).length, s.2)) (by omega) h2
 have h3 := drop_on h2
 have e3 := textS_put (s := (s.1 + (putText k).length + (putNum v.toNat).length, s.2)) hw h3
 have h4 := drop_on h3
 have e4 := flagS_put (s := (s.1 + (putText k).length + (putNum v.toNat).length + (putText w).length, s.2)) h4
 unfold refRdS
 rw [e1]
 dsimp only at e2 e3 e4 ⊢
 rw [e2]
 dsimp only at e3 e4 ⊢
 rw [e3]
 dsimp only at e4 ⊢
 rw [e4]
 dsimp only
 simp only [Prod.mk.injEq, RD.mk.injEq, true_and, and_true, List.flatten_cons, List.flatten_nil, List.append_nil, List.length_append, List.length_cons, List.length_nil]
 exact ⟨by omega, by omega⟩
theorem refWrS_put {b rest : List UInt8} {s : Nat × Bool} {r : WR} (hk : r.key.length ≤ 255) (hw : r.val.length ≤ 255) (h : b.drop s.1 = wrBytes r ++ rest) : refWrS b s = (r, s.1 + (wrBytes r).length, s.2) := by
 obtain ⟨k, w, f⟩ := r
 dsimp only at hk hw
 unfold wrBytes at h ⊢
 simp only [List.flatten_cons, List.flatten_nil, List.append_nil, List.append_assoc] at h
 dsimp only at h ⊢
 have e1 := textS_put hk h
 have h2 := drop_on h
 have e2 := textS_put (s := (s.1 + (putText k).length, s.2)) hw h2
 have h3 := drop_on h2
 have e3 := flagS_put (s := (s.1 + (putText k).length + (putText w).length, s.2)) h3
 unfold refWrS
 rw [e1]
 dsimp only at e2 e3 ⊢
 rw [e2]
 dsimp only at e3 ⊢
 rw [e3]
 dsimp only
 simp only [Prod.mk.injEq, WR.mk.injEq, true_and, and_true, List.flatten_cons, List.flatten_nil, List.append_nil, List.length_append, List.length_cons, List.length_nil]
 omega
theorem loopR_put {α : Type} {b : List UInt8} {f : Nat × Bool → α × Nat × Bool} {g : α → List UInt8} {mx : Nat} : ∀ (l acc : List α) (n : Nat) (rest : List UInt8), (∀ r ∈ l, ∀ (n : Nat) (rest : List UInt8), b.drop n = g r ++ rest → f (n, false) = (r, n + (g r).length, false)) →
  acc.length + l.length ≤ mx → b.drop n = (l.map g).flatten ++ rest → loopR f mx l.length acc (n, false) = (acc ++ l, n + (l.map g).flatten.length, false) := by
 intro l
 induction l with
 | nil => intro acc n rest _ _ _; simp [loopR]
 | cons r l ih =>
  intro acc n rest hf hm h
  simp only [List.map_cons, List.flatten_cons, List.append_assoc] at h
  rw [List.length_cons] at hm
  have e1 := hf r List.mem_cons_self n _ h
  have h2 := drop_on h
  have e2 := ih (acc ++ [r]) (n + (g r).length) rest (fun x hx => hf x (List.mem_cons_of_mem _ hx)) (by rw [List.length_append]; simp only [List.length_cons, List.length_nil]; omega) h2
  rw [List.length_cons, loopR_go _ _ _ _ _ (by simp; omega), e1]
  dsimp only
  rw [e2]
  simp only [List.map_cons, List.flatten_cons, List.length_append, Nat.add_assoc, List.append_assoc, List.cons_append, List.nil_append]

theorem ref_put (t : TX) (y : List UInt8) (hm : mayTxB t = true) (hv : ∀ r ∈ t.reads, r.ver ≤ 9223372036854775807) : refT (putTx t ++ y) = t ∧ (refW (putTx t ++ y)).2 = ((putTx t).length, false) := by
 have hm' := hm
 unfold mayTxB at hm'
 simp only [Bool.and_eq_true, decide_eq_true_eq] at hm'
 obtain ⟨t1, t2, t3, t4, t5, t6, t7, t8, t9, t10⟩ := hm'
 rw [List.all_eq_true] at t9 t10
 have hkr : ∀ r ∈ t.reads, r.key.length ≤ 255 := fun r hr => by have := (mayB_len (rising_key t6 _ (List.mem_map_of_mem hr))).2; omega
 have hkw : ∀ r ∈ t.writes, r.key.length ≤ 255 := fun r hr => by have := (mayB_len (rising_key t8 _ (List.mem_map_of_mem hr))).2; omega
 have hvr : ∀ r ∈ t.reads, r.val.length ≤ 255 := fun r hr => by have := (readB_val (t9 r hr)).2; omega
 have hvw : ∀ r ∈ t.writes, r.val.length ≤ 255 := fun r hr => by
  have := t10 r hr
  unfold writeB at this
  simp only [Bool.and_eq_true, decide_eq_true_eq] at this
  omega
 have h0 : (putTx t ++ y).drop 0 = putNum t.ses.toNat ++ (putNum t.seq.toNat ++ (putNum t.reads.length ++ ((t.reads.map rdBytes).flatten ++ (putNum t.writes.length ++ ((t.writes.map wrBytes).flatten ++ y))))) := by
  unfold putTx txMid txHead
  simp only [List.drop_zero, List.flatten_cons, List.flatten_nil, List.append_nil, List.append_assoc]
 have hlen : (putTx t).length = (putNum t.ses.toNat).length + (putNum t.seq.toNat).length + (putNum t.reads.length).length + (t.reads.map rdBytes).flatten.length + (putNum t.writes.length).length + (t.writes.map wrBytes).flatten.length := by
  unfold putTx txMid txHead
  simp only [List.flatten_cons, List.flatten_nil, List.append_nil, List.length_append]
  omega
 generalize putTx t ++ y = b at h0
 have eA : refA b = (t.ses.toNat, 0 + (putNum t.ses.toNat).length, false) := numS_put (s := (0, false)) (by omega) h0
 have h1 := drop_on h0
 have eQ : refQ b = (t.seq.toNat, 0 + (putNum t.ses.toNat).length + (putNum t.seq.toNat).length, false) := by
  unfold refQ; rw [eA]; exact numS_put (s := (_, false)) (by omega) h1
 have h2 := drop_on h1
 have eC : refC b = (t.reads.length, 0 + (putNum t.ses.toNat).length + (putNum t.seq.toNat).length + (putNum t.reads.length).length, false) := by
  unfold refC; rw [eQ]; exact numS_put (s := (_, false)) (by omega) h2
 have h3 := drop_on h2
 have eR : refR b = (t.reads, 0 + (putNum t.ses.toNat).length + (putNum t.seq.toNat).length + (putNum t.reads.length).length + (t.reads.map rdBytes).flatten.length, false) := by
  unfold refR; rw [eC]
  exact loopR_put t.reads [] _ _ (fun r hr n rest h => refRdS_put (s := (n, false)) (hkr r hr) (readB_val (t9 r hr)).1 (hv r hr) (hvr r hr) h) (by simp only [List.length_nil]; omega) h3
 have h4 := drop_on h3
 have eD : refD b = (t.writes.length, 0 + (putNum t.ses.toNat).length + (putNum t.seq.toNat).length + (putNum t.reads.length).length + (t.reads.map rdBytes).flatten.length + (putNum t.writes.length).length, false) := by
  unfold refD; rw [eR]; exact numS_put (s := (_, false)) (by omega) h4
 have h5 := drop_on h4
 have eW : refW b = (t.writes, 0 + (putNum t.ses.toNat).length + (putNum t.seq.toNat).length + (putNum t.reads.length).length + (t.reads.map rdBytes).flatten.length + (putNum t.writes.length).length + (t.writes.map wrBytes).flatten.length, false) := by
  unfold refW; rw [eD]
  exact loopR_put t.writes [] _ _ (fun r hr n rest h => refWrS_put (s := (n, false)) (hkw r hr) (hvw r hr) h) (by simp only [List.length_nil]; omega) h5
 refine ⟨?_, ?_⟩
 ·unfold refT
  rw [eA, eQ, eR, eW]
  obtain ⟨a, c, rl, wl⟩ := t
  dsimp only at *
  rw [show ((a.toNat : Nat) : Int) = a by omega, show ((c.toNat : Nat) : Int) = c by omega]
 ·rw [eW, hlen]
  simp only [Prod.mk.injEq, and_true]
  omega

theorem ref_le1 (b : List UInt8) : (refC b).2.1 ≤ b.length ∧ (refC b).1 ≤ 9223372036854775807 ∧ (refQ b).2.1 ≤ b.length ∧ (refA b).2.1 ≤ b.length := by
 have h1 := (numS_le b (0, false) (Nat.zero_le _)).1
 have h2 := (numS_le b (refA b).2 h1).1
 have h3 := numS_le b (refQ b).2 h2
 unfold refC
 exact ⟨h3.1, h3.2.2.1, h2, h1⟩
theorem ref_le2 (b : List UInt8) : (refR b).2.1 ≤ b.length ∧ (∀ r ∈ (refR b).1, r.ver ≤ 9223372036854775807 ∧ r.key.length ≤ 255) ∧ (refR b).1.length ≤ 7 := by
 unfold refR
 exact loopR_all (b := b) (f := refRdS b) (P := fun r : RD => r.ver ≤ 9223372036854775807 ∧ r.key.length ≤ 255) (mx := 6) (fun s hs => refRdS_le b s hs) (refC b).1 [] (refC b).2 (ref_le1 b).1 (by intro r hr; cases hr) (Nat.zero_le _)
theorem ref_le3 (b : List UInt8) : (refD b).2.1 ≤ b.length ∧ (refD b).1 ≤ 9223372036854775807 := by
 have h3 := numS_le b (refR b).2 (ref_le2 b).1
 unfold refD
 exact ⟨h3.1, h3.2.2.1⟩
theorem ref_le4 (b : List UInt8) : (refW b).2.1 ≤ b.length ∧ (∀ r ∈ (refW b).1, r.key.length ≤ 255) ∧ (refW b).1.length ≤ 5 := by
 unfold refW
 exact loopR_all (b := b) (f := refWrS b) (P := fun r : WR => r.key.length ≤ 255) (mx := 4) (fun s hs => refWrS_le b s hs) (refD b).1 [] (refD b).2 (ref_le3 b).1 (by intro r hr; cases hr) (Nat.zero_le _)

theorem refOk_eq (b : List UInt8) : refOk b = takeOk b ∧ (takeOk b = true → refT b = takeT b ∧ (refW b).2.1 = (takeW b).2.1) := by
 have hA : ∀ c : List UInt8, mayTxB (refT c) = true → putTx (refT c) = c.take (refW c).2.1 → takeOk c = true := fun c h1 h2 => by
  have e : c = putTx (refT c) ++ c.drop (refW c).2.1 := by rw [h2, List.take_append_drop]
  have := takeOk_put (refT c) (c.drop (refW c).2.1) h1 (fun r hr => ((ref_le2 c).2.1 r hr).1)
  rwa [← e] at this
 have hB : takeOk b = true → refT b = takeT b ∧ (refW b).2 = ((putTx (takeT b)).length, false) ∧ (takeW b).2.1 = (putTx (takeT b)).length ∧ mayTxB (takeT b) = true ∧ ∃ z, b = putTx (takeT b) ++ z := fun h => by
  obtain ⟨h1, z, h2⟩ := takeOk_pre h
  have hv : ∀ r ∈ (takeT b).reads, r.ver ≤ 9223372036854775807 := fun r hr => by
   obtain ⟨q1, _⟩ := numS_le b (0, false) (Nat.zero_le _)
   obtain ⟨q2, _⟩ := numS_le b _ q1
   obtain ⟨q3, _⟩ := numS_le b _ q2
   exact (loopS_ver b _ _ q3 r hr).1
  obtain ⟨k1, k2⟩ := ref_put (takeT b) z h1 hv
  obtain ⟨_, k4⟩ := take_put (takeT b) z h1 hv
  rw [← h2] at k1 k2 k4
  exact ⟨k1, k2, by rw [k4], h1, z, h2⟩
 constructor
 ·cases h : takeOk b with
  | true =>
   obtain ⟨k1, k2, _, k4, z, k5⟩ := hB h
   unfold refOk
   rw [k1, k2, k4]
   have key : ∀ p : List UInt8, b = p ++ z → p = b.take p.length := fun p h => by rw [h, List.take_left]
   have := key _ k5
   rw [decide_eq_true this]; rfl
  | false =>
   cases h2 : refOk b with
   | false => rfl
   | true =>
    unfold refOk at h2
    simp only [Bool.and_eq_true, decide_eq_true_eq] at h2
    rw [hA b h2.2.1 h2.2.2] at h
    cases h
 ·intro h
  obtain ⟨k1, k2, k3, _⟩ := hB h
  exact ⟨k1, by rw [k2, k3]⟩

end Go.Proofs.Ytpggknkhldecaaa.Abs
end
section
namespace Go.Proofs.Ytpggknkhldecaaa.Abs

set_option maxRecDepth 100000 in
theorem rr_num (b : List UInt8) (n : Nat) (bad : Bool) (hb : b.length ≤ 100000) (hn : n ≤ b.length) :
  AC Try.prog 68 [.ptr 0 0 0] [(0, rdrB b n bad)] 1 true (fun v h nx => v = .int .i64 (numS b (n, bad)).1 ∧ h = [(0, rdrB b (numS b (n, bad)).2.1 (numS b (n, bad)).2.2)] ∧ nx = 1) := by
 have ht := ref_TakeNum (b.drop n) (by rw [List.length_drop]; omega)
 have hbl : (bl b).length = b.length := bl_len b
 rw [← bl_from] at ht
 unfold numS
 dsimp only
 cases hq : takeNum (b.drop n) with
 | none =>
  rw [hq] at ht
  dsimp only [numA] at ht ⊢
  unfold rdrB
  refine ac_fn Try.func68 rfl rfl rfl rfl (fun w0 S0 r0 => ?_)
  refine aw_seq ?_
  refine aw_region ?_
  refine st_p (mva rfl) rfl ?_
  refine al_nil ?_
  refine nm ?_
  refine aw_seq ?_
  refine dr_go ?_
  refine dr_f 0 0 [0] rfl (fun H => mv rfl) ?_
  refine dr_f 0 0 [7] rfl (fun H => op_nilCheck rfl trivial) ?_
  refine dr_f 0 0 [8] rfl (fun H => op_fieldAddr Try.underlying99 rfl z22 (by decide) rfl) ?_
  refine dr_q 0 0 [9] rfl (op_load1 Try.underlying22 rfl rfl rfl rfl rfl) ?_
  refine dr_f 0 0 [0] rfl (fun H => mv rfl) ?_
  refine dr_f 0 0 [11] rfl (fun H => op_nilCheck rfl trivial) ?_
  refine dr_f 0 0 [12] rfl (fun H => op_fieldAddr Try.underlying99 rfl z3 (by decide) rfl) ?_
  refine dr_q 0 0 [13] rfl (op_load1 Try.underlying3 rfl rfl rfl rfl rfl) ?_
  refine dr_q 0 0 [10, 14] rfl (op_sliceL Try.underlying22 z5 rfl (by exact ⟨_, rfl⟩) (by exact rfl) (by first | omega | (simp only [bl_len, List.length_map, List.length_append, List.length_take, List.length_drop]; omega)) (by first | omega | (simp only [bl_len, List.length_map, List.length_append, List.length_take, List.length_drop]; omega)) (by first | omega | (simp only [bl_len, List.length_map, List.length_append, List.length_take, List.length_drop]; omega))) ?_
  refine dr_fq 0 0 [15] rfl (fun H => op_callq (ht) Try.func92 ⟨rfl, rfl⟩ rfl rfl (fun nx => (.cons (.same (by rfl)) .nil)) (by rintro _ _ _ ⟨rfl, rfl, rfl⟩; exact .same rfl)) ?_
  refine dr_f 0 0 [16] rfl (fun H => mv rfl) ?_
  refine dr_f 0 0 [6] rfl (fun H => op_extract rfl rfl) ?_
  refine dr_f 0 0 [6] rfl (fun H => op_extract rfl rfl) ?_
  refine dr_f 0 0 [6] rfl (fun H => op_extract rfl rfl) ?_
  refine dr_f 0 0 [17] rfl (fun H => mva rfl) ?_
  refine dr_f 0 0 [18] rfl (fun H => mva rfl) ?_
  refine dr_f 0 0 [19] rfl (fun H => mva rfl) ?_
  refine dr_end [] (by kernel_rfl) (by kernel_rfl) (by kernel_rfl) (by kernel_rfl) trivial ?_
  refine nm ?_
  refine aw_seq ?_
  refine aw_seq ?_
  refine aw_region ?_
  refine st_p (mv rfl) rfl ?_
  refine st_p (op_notF rfl) rfl ?_
  refine al_nil ?_
  refine nm ?_
  refine aw_yes (rfl) ?_
  refine aw_seq ?_
  refine aw_region ?_
  refine st_p (mv rfl) rfl ?_
  refine st_p (op_nilCheck rfl trivial) rfl ?_
  refine st_p (op_fieldAddr Try.underlying99 rfl z4 (by decide) rfl) rfl ?_
  refine st_n (stA z4 rfl rfl rfl rfl rfl rfl rfl rfl rfl rfl) ?_
  refine al_nil ?_
  refine nm ?_
  refine aw_seq ?_
  refine aw_region ?_
  refine st_p (mva rfl) rfl ?_
  refine al_nil ?_
  refine nm ?_
  refine aw_ret ?_
  refine rs ?_
  exact ret_a ⟨[(2, .int .i64 0)], [(0, .cells 3 [.agg [.sl 1 (bl b), .int .i64 n, .bool true]])], 1⟩ (le_to [] rfl rfl rfl rfl rfl ⟨rfl, trivial⟩ ⟨rfl, trivial⟩) (res1 Try.results68) (.inl rfl) ⟨rfl, rfl, rfl⟩
 | some vk =>
  obtain ⟨v, k⟩ := vk
  obtain ⟨h1, h2, h3, h4⟩ := takeNum_spec hq
  rw [List.length_drop] at h1
  rw [hq] at ht
  dsimp only [numA] at ht ⊢
  unfold rdrB
  refine ac_fn Try.func68 rfl rfl rfl rfl (fun w0 S0 r0 => ?_)
  refine aw_seq ?_
  refine aw_region ?_
  refine st_p (mva rfl) rfl ?_
  refine al_nil ?_
  refine nm ?_
  refine aw_seq ?_
  refine dr_go ?_
  refine dr_f 0 0 [0] rfl (fun H => mv rfl) ?_
  refine dr_f 0 0 [7] rfl (fun H => op_nilCheck rfl trivial) ?_
  refine dr_f 0 0 [8] rfl (fun H => op_fieldAddr Try.underlying99 rfl z22 (by decide) rfl) ?_
  refine dr_q 0 0 [9] rfl (op_load1 Try.underlying22 rfl rfl rfl rfl rfl) ?_
  refine dr_f 0 0 [0] rfl (fun H => mv rfl) ?_
  refine dr_f 0 0 [11] rfl (fun H => op_nilCheck rfl trivial) ?_
  refine dr_f 0 0 [12] rfl (fun H => op_fieldAddr Try.underlying99 rfl z3 (by decide) rfl) ?_
  refine dr_q 0 0 [13] rfl (op_load1 Try.underlying3 rfl rfl rfl rfl rfl) ?_
  refine dr_q 0 0 [10, 14] rfl (op_sliceL Try.underlying22 z5 rfl (by exact ⟨_, rfl⟩) (by exact rfl) (by first | omega | (simp only [bl_len, List.length_map, List.length_append, List.length_take, List.length_drop]; omega)) (by first | omega | (simp only [bl_len, List.length_map, List.length_append, List.length_take, List.length_drop]; omega)) (by first | omega | (simp only [bl_len, List.length_map, List.length_append, List.length_take, List.length_drop]; omega))) ?_
  refine dr_fq 0 0 [15] rfl (fun H => op_callq (ht) Try.func92 ⟨rfl, rfl⟩ rfl rfl (fun nx => (.cons (.same (by rfl)) .nil)) (by rintro _ _ _ ⟨rfl, rfl, rfl⟩; exact .same rfl)) ?_
  refine dr_f 0 0 [16] rfl (fun H => mv rfl) ?_
  refine dr_f 0 0 [6] rfl (fun H => op_extract rfl rfl) ?_
  refine dr_f 0 0 [6] rfl (fun H => op_extract rfl rfl) ?_
  refine dr_f 0 0 [6] rfl (fun H => op_extract rfl rfl) ?_
  refine dr_f 0 0 [17] rfl (fun H => mva rfl) ?_
  refine dr_f 0 0 [18] rfl (fun H => mva rfl) ?_
  refine dr_f 0 0 [19] rfl (fun H => mva rfl) ?_
  refine dr_end [] (by kernel_rfl) (by kernel_rfl) (by kernel_rfl) (by kernel_rfl) trivial ?_
  refine nm ?_
  refine aw_seq ?_
  refine aw_seq ?_
  refine aw_region ?_
  refine st_p (mv rfl) rfl ?_
  refine st_p (op_notT rfl) rfl ?_
  refine al_nil ?_
  refine nm ?_
  refine aw_no (rfl) ?_
  refine aw_skip ?_
  refine nm ?_
  refine aw_seq ?_
  refine aw_region ?_
  refine st_p (mv rfl) rfl ?_
  refine st_p (mv rfl) rfl ?_
  refine st_p (op_nilCheck rfl trivial) rfl ?_
  refine st_p (op_fieldAddr Try.underlying99 rfl z3 (by decide) rfl) rfl ?_
  refine st_p (op_load1 Try.underlying3 rfl rfl rfl rfl rfl) rfl ?_
  refine st_p (mv rfl) rfl ?_
  refine st_p (op_addi rfl rfl (by omega)) rfl ?_
  refine st_p (op_nilCheck rfl trivial) rfl ?_
  refine st_p (op_fieldAddr Try.underlying99 rfl z3 (by decide) rfl) rfl ?_
  refine st_n (stA z3 rfl rfl rfl rfl rfl rfl rfl rfl rfl rfl) ?_
  refine al_nil ?_
  refine nm ?_
  refine aw_seq ?_
  refine aw_region ?_
  refine st_p (mv rfl) rfl ?_
  refine st_p (mva rfl) rfl ?_
  refine al_nil ?_
  refine nm ?_
  refine aw_ret ?_
  exact ret_a ⟨[(2, .int .i64 v)], [(0, .cells 3 [.agg [.sl 1 (bl b), .int .i64 (n + k : Nat), .bool bad]])], 1⟩ (le_to [] rfl rfl rfl rfl rfl ⟨rfl, trivial⟩ ⟨rfl, trivial⟩) (res1 Try.results68) (.inl rfl) ⟨rfl, rfl, rfl⟩

set_option maxRecDepth 100000 in
theorem rr_text (b : List UInt8) (n : Nat) (bad : Bool) (hb : b.length ≤ 100000) (hn : n ≤ b.length) :
  AC Try.prog 69 [.ptr 0 0 0] [(0, rdrB b n bad)] 1 true (fun v h nx => v = sb (textS b (n, bad)).1 ∧ h = [(0, rdrB b (textS b (n, bad)).2.1 (textS b (n, bad)).2.2)] ∧ nx = 1) := by
 have ht := ref_TakeText (b.drop n) (by rw [List.length_drop]; omega)
 have hbl : (bl b).length = b.length := bl_len b
 rw [← bl_from] at ht
 unfold textS
 dsimp only
 cases hq : takeText (b.drop n) with
 | none =>
  rw [hq] at ht
  dsimp only [textA] at ht ⊢
  unfold rdrB
  refine ac_fn Try.func69 rfl rfl rfl rfl (fun w0 S0 r0 => ?_)
  refine aw_seq ?_
  refine aw_region ?_
  refine st_p (mva rfl) rfl ?_
  refine al_nil ?_
  refine nm ?_
  refine aw_seq ?_
  refine dr_go ?_
  refine dr_f 0 0 [0] rfl (fun H => mv rfl) ?_
  refine dr_f 0 0 [7] rfl (fun H => op_nilCheck rfl trivial) ?_
  refine dr_f 0 0 [8] rfl (fun H => op_fieldAddr Try.underlying99 rfl z22 (by decide) rfl) ?_
  refine dr_q 0 0 [9] rfl (op_load1 Try.underlying22 rfl rfl rfl rfl rfl) ?_
  refine dr_f 0 0 [0] rfl (fun H => mv rfl) ?_
  refine dr_f 0 0 [11] rfl (fun H => op_nilCheck rfl trivial) ?_
  refine dr_f 0 0 [12] rfl (fun H => op_fieldAddr Try.underlying99 rfl z3 (by decide) rfl) ?_
  refine dr_q 0 0 [13] rfl (op_load1 Try.underlying3 rfl rfl rfl rfl rfl) ?_
  refine dr_q 0 0 [10, 14] rfl (op_sliceL Try.underlying22 z5 rfl (by exact ⟨_, rfl⟩) (by exact rfl) (by first | omega | (simp only [bl_len, List.length_map, List.length_append, List.length_take, List.length_drop]; omega)) (by first | omega | (simp only [bl_len, List.length_map, List.length_append, List.length_take, List.length_drop]; omega)) (by first | omega | (simp only [bl_len, List.length_map, List.length_append, List.length_take, List.length_drop]; omega))) ?_
  refine dr_fq 0 0 [15] rfl (fun H => op_callq (ht) Try.func93 ⟨rfl, rfl⟩ rfl rfl (fun nx => (.cons (.same (by rfl)) .nil)) (by rintro _ _ _ ⟨rfl, rfl, rfl⟩; exact .same rfl)) ?_
  refine dr_f 0 0 [16] rfl (fun H => mv rfl) ?_
  refine dr_f 0 0 [6] rfl (fun H => op_extract rfl rfl) ?_
  refine dr_f 0 0 [6] rfl (fun H => op_extract rfl rfl) ?_
  refine dr_f 0 0 [6] rfl (fun H => op_extract rfl rfl) ?_
  refine dr_f 0 0 [17] rfl (fun H => mva rfl) ?_
  refine dr_f 0 0 [18] rfl (fun H => mva rfl) ?_
  refine dr_f 0 0 [19] rfl (fun H => mva rfl) ?_
  refine dr_end [] (by kernel_rfl) (by kernel_rfl) (by kernel_rfl) (by kernel_rfl) trivial ?_
  refine nm ?_
  refine aw_seq ?_
  refine aw_seq ?_
  refine aw_region ?_
  refine st_p (mv rfl) rfl ?_
  refine st_p (op_notF rfl) rfl ?_
  refine al_nil ?_
  refine nm ?_
  refine aw_yes (rfl) ?_
  refine aw_seq ?_
  refine aw_region ?_
  refine st_p (mv rfl) rfl ?_
  refine st_p (op_nilCheck rfl trivial) rfl ?_
  refine st_p (op_fieldAddr Try.underlying99 rfl z4 (by decide) rfl) rfl ?_
  refine st_n (stA z4 rfl rfl rfl rfl rfl rfl rfl rfl rfl rfl) ?_
  refine al_nil ?_
  refine nm ?_
  refine aw_seq ?_
  refine aw_region ?_
  refine st_p (mva rfl) rfl ?_
  refine al_nil ?_
  refine nm ?_
  refine aw_ret ?_
  refine rs ?_
  exact ret_a ⟨[(2, sb [])], [(0, .cells 3 [.agg [.sl 1 (bl b), .int .i64 n, .bool true]])], 1⟩ (le_to [] rfl rfl rfl rfl rfl ⟨rfl, trivial⟩ ⟨rfl, trivial⟩) (res1 Try.results69) (.inl rfl) ⟨rfl, rfl, rfl⟩
 | some vk =>
  obtain ⟨v, k⟩ := vk
  obtain ⟨h1, h2, h3⟩ := takeText_spec hq
  rw [List.length_drop] at h1
  rw [hq] at ht
  dsimp only [textA] at ht ⊢
  unfold rdrB
  refine ac_fn Try.func69 rfl rfl rfl rfl (fun w0 S0 r0 => ?_)
  refine aw_seq ?_
  refine aw_region ?_
  refine st_p (mva rfl) rfl ?_
  refine al_nil ?_
  refine nm ?_
  refine aw_seq ?_
  refine dr_go ?_
  refine dr_f 0 0 [0] rfl (fun H => mv rfl) ?_
  refine dr_f 0 0 [7] rfl (fun H => op_nilCheck rfl trivial) ?_
  refine dr_f 0 0 [8] rfl (fun H => op_fieldAddr Try.underlying99 rfl z22 (by decide) rfl) ?_
  refine dr_q 0 0 [9] rfl (op_load1 Try.underlying22 rfl rfl rfl rfl rfl) ?_
  refine dr_f 0 0 [0] rfl (fun H => mv rfl) ?_
  refine dr_f 0 0 [11] rfl (fun H => op_nilCheck rfl trivial) ?_
  refine dr_f 0 0 [12] rfl (fun H => op_fieldAddr Try.underlying99 rfl z3 (by decide) rfl) ?_
  refine dr_q 0 0 [13] rfl (op_load1 Try.underlying3 rfl rfl rfl rfl rfl) ?_
  refine dr_q 0 0 [10, 14] rfl (op_sliceL Try.underlying22 z5 rfl (by exact ⟨_, rfl⟩) (by exact rfl) (by first | omega | (simp only [bl_len, List.length_map, List.length_append, List.length_take, List.length_drop]; omega)) (by first | omega | (simp only [bl_len, List.length_map, List.length_append, List.length_take, List.length_drop]; omega)) (by first | omega | (simp only [bl_len, List.length_map, List.length_append, List.length_take, List.length_drop]; omega))) ?_
  refine dr_fq 0 0 [15] rfl (fun H => op_callq (ht) Try.func93 ⟨rfl, rfl⟩ rfl rfl (fun nx => (.cons (.same (by rfl)) .nil)) (by rintro _ _ _ ⟨rfl, rfl, rfl⟩; exact .same rfl)) ?_
  refine dr_f 0 0 [16] rfl (fun H => mv rfl) ?_
  refine dr_f 0 0 [6] rfl (fun H => op_extract rfl rfl) ?_
  refine dr_f 0 0 [6] rfl (fun H => op_extract rfl rfl) ?_
  refine dr_f 0 0 [6] rfl (fun H => op_extract rfl rfl) ?_
  refine dr_f 0 0 [17] rfl (fun H => mva rfl) ?_
  refine dr_f 0 0 [18] rfl (fun H => mva rfl) ?_
  refine dr_f 0 0 [19] rfl (fun H => mva rfl) ?_
  refine dr_end [] (by kernel_rfl) (by kernel_rfl) (by kernel_rfl) (by kernel_rfl) trivial ?_
  refine nm ?_
  refine aw_seq ?_
  refine aw_seq ?_
  refine aw_region ?_
  refine st_p (mv rfl) rfl ?_
  refine st_p (op_notT rfl) rfl ?_
  refine al_nil ?_
  refine nm ?_
  refine aw_no (rfl) ?_
  refine aw_skip ?_
  refine nm ?_
  refine aw_seq ?_
  refine aw_region ?_
  refine st_p (mv rfl) rfl ?_
  refine st_p (mv rfl) rfl ?_
  refine st_p (op_nilCheck rfl trivial) rfl ?_
  refine st_p (op_fieldAddr Try.underlying99 rfl z3 (by decide) rfl) rfl ?_
  refine st_p (op_load1 Try.underlying3 rfl rfl rfl rfl rfl) rfl ?_
  refine st_p (mv rfl) rfl ?_
  refine st_p (op_addi rfl rfl (by omega)) rfl ?_
  refine st_p (op_nilCheck rfl trivial) rfl ?_
  refine st_p (op_fieldAddr Try.underlying99 rfl z3 (by decide) rfl) rfl ?_
  refine st_n (stA z3 rfl rfl rfl rfl rfl rfl rfl rfl rfl rfl) ?_
  refine al_nil ?_
  refine nm ?_
  refine aw_seq ?_
  refine aw_region ?_
  refine st_p (mv rfl) rfl ?_
  refine st_p (mva rfl) rfl ?_
  refine al_nil ?_
  refine nm ?_
  refine aw_ret ?_
  exact ret_a ⟨[(2, sb v)], [(0, .cells 3 [.agg [.sl 1 (bl b), .int .i64 (n + k : Nat), .bool bad]])], 1⟩ (le_to [] rfl rfl rfl rfl rfl ⟨rfl, trivial⟩ ⟨rfl, trivial⟩) (res1 Try.results69) (.inl rfl) ⟨rfl, rfl, rfl⟩

set_option maxRecDepth 100000 in
theorem rr_flag (b : List UInt8) (n : Nat) (bad : Bool) (hb : b.length ≤ 100000) (hn : n ≤ b.length) :
  AC Try.prog 70 [.ptr 0 0 0] [(0, rdrB b n bad)] 1 true (fun v h nx => v = .bool (flagS b (n, bad)).1 ∧ h = [(0, rdrB b (flagS b (n, bad)).2.1 (flagS b (n, bad)).2.2)] ∧ nx = 1) := by
 have hbl : (bl b).length = b.length := bl_len b
 unfold flagS
 dsimp only
 by_cases hlt : n < b.length
 ·obtain ⟨c, hc⟩ : ∃ c, b[n]? = some c := ⟨_, List.getElem?_eq_getElem hlt⟩
  have hcb : (bl b)[(((n : Nat) : Int) + 1 - 1).toNat]? = some (.int .u8 (c.toNat : Int)) := by rw [show (((n : Nat) : Int) + 1 - 1).toNat = n by omega]; simp [bl, hc]
  have hdc : decide (((c.toNat : Nat) : Int) = 1) = decide (c.toNat = 1) := by
   by_cases h : c.toNat = 1
   ·rw [decide_eq_true h, decide_eq_true (by omega)]
   ·rw [decide_eq_false h, decide_eq_false (by omega)]
  rw [hc]
  dsimp only
  unfold rdrB
  refine ac_fn Try.func70 rfl rfl rfl rfl (fun w0 S0 r0 => ?_)
  refine aw_seq ?_
  refine aw_region ?_
  refine st_p (mva rfl) rfl ?_
  refine al_nil ?_
  refine nm ?_
  refine aw_seq ?_
  refine aw_seq ?_
  refine dr_go ?_
  refine dr_f 0 0 [0] rfl (fun H => mv rfl) ?_
  refine dr_f 0 0 [3] rfl (fun H => op_nilCheck rfl trivial) ?_
  refine dr_f 0 0 [4] rfl (fun H => op_fieldAddr Try.underlying99 rfl z3 (by decide) rfl) ?_
  refine dr_q 0 0 [5] rfl (op_load1 Try.underlying3 rfl rfl rfl rfl rfl) ?_
  refine dr_f 0 0 [0] rfl (fun H => mv rfl) ?_
  refine dr_f 0 0 [7] rfl (fun H => op_nilCheck rfl trivial) ?_
  refine dr_f 0 0 [8] rfl (fun H => op_fieldAddr Try.underlying99 rfl z22 (by decide) rfl) ?_
  refine dr_q 0 0 [9] rfl (op_load1 Try.underlying22 rfl rfl rfl rfl rfl) ?_
  refine dr_f 0 0 [10] rfl (fun H => op_len Try.underlying22 rfl) ?_
  refine dr_f 0 0 [6, 11] rfl (fun H => OpP.conv (op_ge rfl rfl) (no (by first | assumption | omega))) ?_
  refine dr_end [] (by kernel_rfl) (by kernel_rfl) (by kernel_rfl) (by kernel_rfl) trivial ?_
  refine nm ?_
  refine aw_no (rfl) ?_
  refine aw_skip ?_
  refine nm ?_
  refine aw_seq ?_
  refine aw_region ?_
  refine st_p (mv rfl) rfl ?_
  refine st_p (op_nilCheck rfl trivial) rfl ?_
  refine st_p (op_fieldAddr Try.underlying99 rfl z3 (by decide) rfl) rfl ?_
  refine st_p (op_load1 Try.underlying3 rfl rfl rfl rfl rfl) rfl ?_
  refine st_p (op_addi rfl rfl (by omega)) rfl ?_
  refine st_p (op_nilCheck rfl trivial) rfl ?_
  refine st_p (op_fieldAddr Try.underlying99 rfl z3 (by decide) rfl) rfl ?_
  refine st_n (stA z3 rfl rfl rfl rfl rfl rfl rfl rfl rfl rfl) ?_
  refine al_nil ?_
  refine nm ?_
  refine aw_seq ?_
  refine dr_go ?_
  refine dr_f 0 0 [0] rfl (fun H => mv rfl) ?_
  refine dr_f 0 0 [23] rfl (fun H => op_nilCheck rfl trivial) ?_
  refine dr_f 0 0 [24] rfl (fun H => op_fieldAddr Try.underlying99 rfl z22 (by decide) rfl) ?_
  refine dr_q 0 0 [25] rfl (op_load1 Try.underlying22 rfl rfl rfl rfl rfl) ?_
  refine dr_f 0 0 [0] rfl (fun H => mv rfl) ?_
  refine dr_f 0 0 [27] rfl (fun H => op_nilCheck rfl trivial) ?_
  refine dr_f 0 0 [28] rfl (fun H => op_fieldAddr Try.underlying99 rfl z3 (by decide) rfl) ?_
  refine dr_q 0 0 [29] rfl (op_load1 Try.underlying3 rfl rfl rfl rfl rfl) ?_
  refine dr_f 0 0 [30] rfl (fun H => op_subi rfl rfl (by omega)) ?_
  refine dr_q 0 0 [26, 31] rfl (op_indexAddrL Try.underlying22 z5 rfl rfl (by omega) (by first | assumption | rfl)) ?_
  refine dr_q 0 0 [32] rfl (op_load1L Try.underlying5 rfl rfl rfl) ?_
  refine dr_f 0 0 [33] rfl (fun H => op_eq rfl rfl) ?_
  refine dr_f 0 0 [34] rfl (fun H => mva rfl) ?_
  refine dr_end [] (by kernel_rfl) (by kernel_rfl) (by kernel_rfl) (by kernel_rfl) trivial ?_
  refine nm ?_
  refine aw_ret ?_
  exact ret_a ⟨[(2, .bool (decide (c.toNat = 1)))], [(0, .cells 3 [.agg [.sl 1 (bl b), .int .i64 (n + 1 : Nat), .bool bad]])], 1⟩ (le_to [] rfl rfl rfl rfl rfl ⟨congrArg AV.bool hdc, trivial⟩ ⟨rfl, trivial⟩) (res1 Try.results70) (.inl rfl) ⟨rfl, rfl, rfl⟩
 ·rw [List.getElem?_eq_none (by omega)]
  dsimp only
  unfold rdrB
  refine ac_fn Try.func70 rfl rfl rfl rfl (fun w0 S0 r0 => ?_)
  refine aw_seq ?_
  refine aw_region ?_
  refine st_p (mva rfl) rfl ?_
  refine al_nil ?_
  refine nm ?_
  refine aw_seq ?_
  refine aw_seq ?_
  refine dr_go ?_
  refine dr_f 0 0 [0] rfl (fun H => mv rfl) ?_
  refine dr_f 0 0 [3] rfl (fun H => op_nilCheck rfl trivial) ?_
  refine dr_f 0 0 [4] rfl (fun H => op_fieldAddr Try.underlying99 rfl z3 (by decide) rfl) ?_
  refine dr_q 0 0 [5] rfl (op_load1 Try.underlying3 rfl rfl rfl rfl rfl) ?_
  refine dr_f 0 0 [0] rfl (fun H => mv rfl) ?_
  refine dr_f 0 0 [7] rfl (fun H => op_nilCheck rfl trivial) ?_
  refine dr_f 0 0 [8] rfl (fun H => op_fieldAddr Try.underlying99 rfl z22 (by decide) rfl) ?_
  refine dr_q 0 0 [9] rfl (op_load1 Try.underlying22 rfl rfl rfl rfl rfl) ?_
  refine dr_f 0 0 [10] rfl (fun H => op_len Try.underlying22 rfl) ?_
  refine dr_f 0 0 [6, 11] rfl (fun H => OpP.conv (op_ge rfl rfl) (yes (by first | assumption | omega))) ?_
  refine dr_end [] (by kernel_rfl) (by kernel_rfl) (by kernel_rfl) (by kernel_rfl) trivial ?_
  refine nm ?_
  refine aw_yes (rfl) ?_
  refine aw_seq ?_
  refine aw_region ?_
  refine st_p (mv rfl) rfl ?_
  refine st_p (op_nilCheck rfl trivial) rfl ?_
  refine st_p (op_fieldAddr Try.underlying99 rfl z4 (by decide) rfl) rfl ?_
  refine st_n (stA z4 rfl rfl rfl rfl rfl rfl rfl rfl rfl rfl) ?_
  refine al_nil ?_
  refine nm ?_
  refine aw_seq ?_
  refine aw_region ?_
  refine st_p (mva rfl) rfl ?_
  refine al_nil ?_
  refine nm ?_
  refine aw_ret ?_
  refine rs ?_
  exact ret_a ⟨[(2, .bool false)], [(0, .cells 3 [.agg [.sl 1 (bl b), .int .i64 n, .bool true]])], 1⟩ (le_to [] rfl rfl rfl rfl rfl ⟨rfl, trivial⟩ ⟨rfl, trivial⟩) (res1 Try.results70) (.inl rfl) ⟨rfl, rfl, rfl⟩

end Go.Proofs.Ytpggknkhldecaaa.Abs
end
section
namespace Go.Proofs.Ytpggknkhldecaaa.Abs

theorem ref_eqs (b : List UInt8) : refR b = loopR (refRdS b) 6 (refC b).1 [] (refC b).2 ∧ refW b = loopR (refWrS b) 4 (refD b).1 [] (refD b).2 := ⟨rfl, rfl⟩

set_option maxRecDepth 100000 in
set_option maxHeartbeats 8000000 in
theorem ref_Take0 (b : List UInt8) (hb : b.length ≤ 100000) :
  AC Try.prog 22 [.sl 1 (bl b)] [] 0 false (fun v h nx =>
   v = cond (refOk b) (.tup [.agg [.int .i64 ((refA b).1 : Nat), .int .i64 ((refQ b).1 : Nat), .own 3 0 (refR b).1.length, .own 4 0 (refW b).1.length], .int .i64 ((refW b).2.1 : Nat), .bool true]) (.tup [.agg [.int .i64 0, .int .i64 0, .nils, .nils], .int .i64 0, .bool false]) ∧
   h = cond (refOk b) [(0, .cells 4 [.agg [.int .i64 ((refA b).1 : Nat), .int .i64 ((refQ b).1 : Nat), .own 3 0 (refR b).1.length, .own 4 0 (refW b).1.length]]), (3, .cells 4 ((refR b).1.map rdA)), (4, .cells 3 ((refW b).1.map wrA))] [(0, .cells 4 [.agg [.int .i64 0, .int .i64 0, .nils, .nils]])] ∧ nx = cond (refOk b) 5 1) := by
 have hnum : ∀ s : Nat × Bool, s.1 ≤ b.length → AC Try.prog 68 [.ptr 0 0 0] [(0, rdrB b s.1 s.2)] 1 true (fun v h nx => v = .int .i64 (numS b s).1 ∧ h = [(0, rdrB b (numS b s).2.1 (numS b s).2.2)] ∧ nx = 1) := fun s hs => rr_num b s.1 s.2 hb hs
 have htext : ∀ s : Nat × Bool, s.1 ≤ b.length → AC Try.prog 69 [.ptr 0 0 0] [(0, rdrB b s.1 s.2)] 1 true (fun v h nx => v = sb (textS b s).1 ∧ h = [(0, rdrB b (textS b s).2.1 (textS b s).2.2)] ∧ nx = 1) := fun s hs => rr_text b s.1 s.2 hb hs
 have hflag : ∀ s : Nat × Bool, s.1 ≤ b.length → AC Try.prog 70 [.ptr 0 0 0] [(0, rdrB b s.1 s.2)] 1 true (fun v h nx => v = .bool (flagS b s).1 ∧ h = [(0, rdrB b (flagS b s).2.1 (flagS b s).2.2)] ∧ nx = 1) := fun s hs => rr_flag b s.1 s.2 hb hs
 obtain ⟨eR, eW⟩ := ref_eqs b
 obtain ⟨lC, mC, lQ, lA⟩ := ref_le1 b
 obtain ⟨lR, vR, nR⟩ := ref_le2 b
 obtain ⟨lD, mD⟩ := ref_le3 b
 obtain ⟨lW, kW, nW⟩ := ref_le4 b
 have hA := hnum (0, false) (Nat.zero_le _)
 rw [show numS b (0, false) = refA b from rfl] at hA
 have hQ := hnum (refA b).2 lA
 rw [show numS b (refA b).2 = refQ b from rfl] at hQ
 have hC := hnum (refQ b).2 lQ
 rw [show numS b (refQ b).2 = refC b from rfl] at hC
 have hD := hnum (refR b).2 lR
 rw [show numS b (refR b).2 = refD b from rfl] at hD
 have hO : refOk b = (!(refW b).2.2 && (mayTxB (refT b) && decide (putTx (refT b) = b.take (refW b).2.1))) := rfl
 unfold refT at *
 generalize refOk b = ok at hO ⊢
 generalize refA b = A at *
 generalize refQ b = Q at *
 generalize refC b = C at *
 generalize refR b = R at *
 generalize refD b = D at *
 generalize refW b = W at *
 obtain ⟨vA, nA, bA⟩ := A
 obtain ⟨vQ, nQ, bQ⟩ := Q
 obtain ⟨vC, sC⟩ := C
 dsimp only at *
 refine ac_fn Try.func22 rfl rfl rfl rfl (fun w0 S0 r0 => ?_)
 refine aw_seq ?_
 refine aw_region ?_
 refine st_o (op_alloc a26 rfl rfl) rfl ?_
 refine st_p (mva rfl) rfl ?_
 refine st_p (mva rfl) rfl ?_
 refine al_nil ?_
 refine nm ?_
 refine aw_seq ?_
 refine aw_region ?_
 refine st_p (mv rfl) rfl ?_
 refine st_p (op_build Try.underlying99 a99 rfl rfl (by intro f hf; simp only [List.mem_cons, List.not_mem_nil, or_false] at hf; rcases hf with rfl | rfl | rfl <;> exact ⟨_, by first | exact z3 | exact z4 | exact z22⟩) (pcons rfl rfl z22 rfl .nil) rfl) rfl ?_
 refine st_o (bx rfl rfl) rfl ?_
 refine st_p (mva rfl) rfl ?_
 refine al_nil ?_
 refine nm ?_
 refine aw_seq ?_
 refine aw_region ?_
 refine st_p (mv rfl) rfl ?_
 refine st_o (op_callg [(0, 1)] 1 true [(0, rdrB b 0 false)] [1] (hA) Try.func68 ⟨rfl, rfl⟩ rfl rfl rfl rfl (by omega) (by intro p hp; simp only [List.mem_cons, List.not_mem_nil, or_false] at hp; rcases hp with rfl <;> exact ⟨by first | rfl | ((simp [hget, swp, Blk.ren, AV.ren, ints, Function.comp_def]) <;> rfl), rfl⟩) rfl (.cons (.same (by rfl)) .nil) rfl rfl rfl) rfl ?_
 refine st_p (op_build Try.underlying26 a26 rfl rfl (by intro f hf; simp only [List.mem_cons, List.not_mem_nil, or_false] at hf; rcases hf with rfl | rfl | rfl | rfl <;> exact ⟨_, by first | exact z3 | exact z23 | exact z24⟩) (pcons rfl rfl z3 rfl (pcons rfl rfl z3 rfl .nil)) rfl) rfl ?_
 refine st_o (op_alloc a26 rfl rfl) rfl ?_
 refine st_n (stA z26 rfl rfl rfl rfl rfl rfl rfl rfl rfl rfl) ?_
 refine al_nil ?_
 refine nm ?_
 refine aw_seq ?_
 refine aw_region ?_
 refine st_p (mv rfl) rfl ?_
 refine st_o (op_callg [(0, 1)] 1 true [(0, rdrB b nA bA)] [1] (hQ) Try.func68 ⟨rfl, rfl⟩ rfl rfl rfl rfl (by omega) (by intro p hp; simp only [List.mem_cons, List.not_mem_nil, or_false] at hp; rcases hp with rfl <;> exact ⟨by first | rfl | ((simp [hget, swp, Blk.ren, AV.ren, ints, Function.comp_def]) <;> rfl), rfl⟩) rfl (.cons (.same (by rfl)) .nil) rfl rfl rfl) rfl ?_
 refine st_p (op_fieldAddr Try.underlying26 rfl z3 (by decide) rfl) rfl ?_
 refine st_n (stA z3 rfl rfl rfl rfl rfl rfl rfl rfl rfl rfl) ?_
 refine al_nil ?_
 refine nm ?_
 refine aw_seq ?_
 refine aw_seq ?_
 refine aw_region ?_
 refine st_p (mv rfl) rfl ?_
 refine st_o (op_callg [(0, 1)] 1 true [(0, rdrB b nQ bQ)] [1] (hC) Try.func68 ⟨rfl, rfl⟩ rfl rfl rfl rfl (by omega) (by intro p hp; simp only [List.mem_cons, List.not_mem_nil, or_false] at hp; rcases hp with rfl <;> exact ⟨by first | rfl | ((simp [hget, swp, Blk.ren, AV.ren, ints, Function.comp_def]) <;> rfl), rfl⟩) rfl (.cons (.same (by rfl)) .nil) rfl rfl rfl) rfl ?_
 refine st_p (mva rfl) rfl ?_
 refine al_nil ?_
 refine nm ?_
 refine aw_block ?_
 refine aw_virtB 3 2 4 rfl rfl rfl rfl ?_
 refine aw_cutB (⟨[(0, .sl 1 (bl b)), (2, .ptr 0 0 0), (3, .int .i64 0), (4, .bool false), (5, .ptr 1 0 0), (6, .ptr 2 0 0)], [(0, .cells 4 [.agg [.int .i64 0, .int .i64 0, .nils, .nils]]), (1, rdrB b R.2.1 R.2.2), (2, .cells 4 [.agg [.int .i64 vA, .int .i64 vQ, .own 3 0 R.1.length, .nils]]), (3, .cells 4 (R.1.map rdA))], 4⟩) ?_ ?_
 ·skip
  refine aw_loop (fun p : {p : Nat × List RD × Nat × Bool // p.1 ≤ 9223372036854775807 ∧ p.2.2.1 ≤ b.length ∧ p.2.1.length ≤ 7 ∧ loopR (refRdS b) 6 p.1 p.2.1 p.2.2 = R} => ⟨[(0, .sl 1 (bl b)), (2, .ptr 0 0 0), (3, .int .i64 0), (4, .bool false), (5, .ptr 1 0 0), (6, .ptr 2 0 0), (7, .int .i64 p.1.1)], [(0, .cells 4 [.agg [.int .i64 0, .int .i64 0, .nils, .nils]]), (1, rdrB b p.1.2.2.1 p.1.2.2.2), (2, .cells 4 [.agg [.int .i64 vA, .int .i64 vQ, .own 3 0 p.1.2.1.length, .nils]]), (3, .cells 4 (p.1.2.1.map rdA))], 4⟩) (fun p => p.1.1) ⟨(vC, [], sC), by dsimp only; exact ⟨mC, lC, Nat.zero_le _, eR.symm⟩⟩ ?_ ?_
  ·exact le_to [(2, 3), (3, 6)] rfl rfl rfl rfl rfl ⟨rfl, rfl, rfl, rfl, rfl, rfl, rfl, trivial⟩ ⟨rfl, rfl, rfl, rfl, trivial⟩
  ·rintro ⟨⟨i, acc, n, bad⟩, h0, h1, h2, h4⟩
   dsimp only at h0 h1 h2 h4 ⊢
   have hal : (acc.map rdA).length = acc.length := List.length_map _
   unfold rdrB
   cases i with
   | zero =>
    have h4 : (acc, n, bad) = R := h4
    subst h4
    dsimp only
    refine aw_seq ?_
    refine aw_seq ?_
    refine aw_region ?_
    refine st_p (mv rfl) rfl ?_
    refine st_p (OpP.conv (op_gt rfl rfl) (no (by first | assumption | omega))) rfl ?_
    refine st_p (mv rfl) rfl ?_
    refine st_s rfl rfl rfl rfl rfl ?_
    refine st_s rfl rfl rfl rfl rfl ?_
    refine st_s rfl rfl rfl rfl rfl ?_
    refine st_s rfl rfl rfl rfl rfl ?_
    refine st_s rfl rfl rfl rfl rfl ?_
    refine st_p (pkF rfl rfl) rfl ?_
    refine st_p (mv rfl) rfl ?_
    refine st_s rfl rfl rfl rfl rfl ?_
    refine st_s rfl rfl rfl rfl rfl ?_
    refine st_s rfl rfl rfl rfl rfl ?_
    refine st_s rfl rfl rfl rfl rfl ?_
    refine st_p (pkF rfl rfl) rfl ?_
    refine al_nil ?_
    refine nm ?_
    refine aw_no (rfl) ?_
    refine aw_exit ?_
    refine xs ?_
    refine xs ?_
    refine xb ?_
    refine nm ?_
    exact le_to [] rfl rfl rfl rfl rfl ⟨rfl, rfl, rfl, rfl, rfl, rfl, trivial⟩ ⟨rfl, rfl, rfl, by rw [ren_rds]; rfl, trivial⟩
   | succ i =>
    cases bad with
    | true =>
     rw [loopR_stop _ _ _ _ _ (.inl rfl)] at h4
     subst h4
     dsimp only
     refine aw_seq ?_
     refine aw_seq ?_
     refine aw_region ?_
     refine st_p (mv rfl) rfl ?_
     refine st_p (OpP.conv (op_gt rfl rfl) (yes (by first | assumption | omega))) rfl ?_
     refine st_p (mv rfl) rfl ?_
     refine st_pg rfl rfl rfl (mv rfl) rfl ?_
     refine st_pg rfl rfl rfl (op_nilCheck rfl trivial) rfl ?_
     refine st_pg rfl rfl rfl (op_fieldAddr Try.underlying99 rfl z4 (by decide) rfl) rfl ?_
     refine st_pg rfl rfl rfl (op_load1 Try.underlying4 rfl rfl rfl rfl rfl) rfl ?_
     refine st_pg rfl rfl rfl (op_notT rfl) rfl ?_
     refine st_p (pkT rfl rfl) rfl ?_
     refine st_p (mv rfl) rfl ?_
     refine st_s rfl rfl rfl rfl rfl ?_
     refine st_s rfl rfl rfl rfl rfl ?_
     refine st_s rfl rfl rfl rfl rfl ?_
     refine st_s rfl rfl rfl rfl rfl ?_
     refine st_p (pkF rfl rfl) rfl ?_
     refine al_nil ?_
     refine nm ?_
     refine aw_no (rfl) ?_
     refine aw_exit ?_
     refine xs ?_
     refine xs ?_
     refine xb ?_
     refine nm ?_
     exact le_to [] rfl rfl rfl rfl rfl ⟨rfl, rfl, rfl, rfl, rfl, rfl, trivial⟩ ⟨rfl, rfl, rfl, by rw [ren_rds]; rfl, trivial⟩
    | false =>
     by_cases h6 : acc.length ≤ 6
     ·have hst : ∀ s : Nat × Bool, refRdS b s = (⟨(textS b s).1, ((numS b (textS b s).2).1 : Nat), (textS b (numS b (textS b s).2).2).1, (flagS b (textS b (numS b (textS b s).2).2).2).1⟩, (flagS b (textS b (numS b (textS b s).2).2).2).2) := fun _ => rfl
      rw [loopR_go _ _ _ _ _ (by simp; omega)] at h4
      obtain ⟨g1, _⟩ := refRdS_le b (n, false) h1
      rw [hst (n, false)] at h4 g1
      have k1 := htext (n, false) h1
      obtain ⟨q1, _⟩ := textS_le b (n, false) h1
      have k2 := hnum _ q1
      obtain ⟨q2, _, q2m, _⟩ := numS_le b _ q1
      have k3 := htext _ q2
      obtain ⟨q3, _⟩ := textS_le b _ q2
      have k4 := hflag _ q3
      generalize textS b (n, false) = X1 at *
      generalize numS b X1.2 = X2 at *
      generalize textS b X2.2 = X3 at *
      generalize flagS b X3.2 = X4 at *
      obtain ⟨y1, n1, b1⟩ := X1
      obtain ⟨y2, n2, b2⟩ := X2
      obtain ⟨y3, n3, b3⟩ := X3
      obtain ⟨y4, n4, b4⟩ := X4
      dsimp only at *
      unfold rdrB at k1 k2 k3 k4
      refine aw_seq ?_
      refine aw_seq ?_
      refine aw_region ?_
      refine st_p (mv rfl) rfl ?_
      refine st_p (OpP.conv (op_gt rfl rfl) (yes (by first | assumption | omega))) rfl ?_
      refine st_p (mv rfl) rfl ?_
      refine st_pg rfl rfl rfl (mv rfl) rfl ?_
      refine st_pg rfl rfl rfl (op_nilCheck rfl trivial) rfl ?_
      refine st_pg rfl rfl rfl (op_fieldAddr Try.underlying99 rfl z4 (by decide) rfl) rfl ?_
      refine st_pg rfl rfl rfl (op_load1 Try.underlying4 rfl rfl rfl rfl rfl) rfl ?_
      refine st_pg rfl rfl rfl (op_notF rfl) rfl ?_
      refine st_p (pkT rfl rfl) rfl ?_
      refine st_p (mv rfl) rfl ?_
      refine st_pg rfl rfl rfl (op_fieldAddr Try.underlying26 rfl z23 (by decide) rfl) rfl ?_
      refine st_pg rfl rfl rfl (op_load1 Try.underlying23 rfl rfl rfl rfl rfl) rfl ?_
      refine st_pg rfl rfl rfl (op_leno Try.underlying23 rfl) rfl ?_
      refine st_pg rfl rfl rfl (OpP.conv (op_le rfl rfl) (yes (by first | assumption | omega))) rfl ?_
      refine st_p (pkT rfl rfl) rfl ?_
      refine al_nil ?_
      refine nm ?_
      refine aw_yes (rfl) ?_
      refine aw_skip ?_
      refine nm ?_
      refine aw_seq ?_
      refine aw_block ?_
      refine aw_seq ?_
      refine aw_region ?_
      refine st_p (mv rfl) rfl ?_
      refine st_o (op_callg [(0, 1)] 1 true [(0, .cells 3 [.agg [.sl 1 (bl b), .int .i64 n, .bool false]])] [1] (k1) Try.func69 ⟨rfl, rfl⟩ rfl rfl rfl rfl (by omega) (by intro p hp; simp only [List.mem_cons, List.not_mem_nil, or_false] at hp; rcases hp with rfl | rfl <;> exact ⟨by first | rfl | ((simp [hget, swp, Blk.ren, AV.ren, ints, Function.comp_def]) <;> rfl), rfl⟩) rfl (.cons (.same (by rfl)) .nil) rfl rfl rfl) rfl ?_
      refine st_p (op_build Try.underlying67 a67 rfl rfl (by intro f hf; simp only [List.mem_cons, List.not_mem_nil, or_false] at hf; rcases hf with rfl | rfl | rfl | rfl <;> exact ⟨_, by first | exact z3 | exact z4 | exact z9⟩) (pcons rfl rfl z9 rfl .nil) rfl) rfl ?_
      refine st_o (op_alloc a67 rfl rfl) rfl ?_
      refine st_n (stA z67 rfl rfl rfl rfl rfl rfl rfl rfl rfl rfl) ?_
      refine al_nil ?_
      refine nm ?_
      refine aw_seq ?_
      refine aw_region ?_
      refine st_p (mv rfl) rfl ?_
      refine st_o (op_callg [(0, 1)] 1 true [(0, .cells 3 [.agg [.sl 1 (bl b), .int .i64 n1, .bool b1]])] [1] (k2) Try.func68 ⟨rfl, rfl⟩ rfl rfl rfl rfl (by omega) (by intro p hp; simp only [List.mem_cons, List.not_mem_nil, or_false] at hp; rcases hp with rfl | rfl <;> exact ⟨by first | rfl | ((simp [hget, swp, Blk.ren, AV.ren, ints, Function.comp_def]) <;> rfl), rfl⟩) rfl (.cons (.same (by rfl)) .nil) rfl rfl rfl) rfl ?_
      refine st_p (op_fieldAddr Try.underlying67 rfl z3 (by decide) rfl) rfl ?_
      refine st_n (stA z3 rfl rfl rfl rfl rfl rfl rfl rfl rfl rfl) ?_
      refine al_nil ?_
      refine nm ?_
      refine aw_seq ?_
      refine aw_region ?_
      refine st_p (mv rfl) rfl ?_
      refine st_o (op_callg [(0, 1)] 1 true [(0, .cells 3 [.agg [.sl 1 (bl b), .int .i64 n2, .bool b2]])] [1] (k3) Try.func69 ⟨rfl, rfl⟩ rfl rfl rfl rfl (by omega) (by intro p hp; simp only [List.mem_cons, List.not_mem_nil, or_false] at hp; rcases hp with rfl | rfl <;> exact ⟨by first | rfl | ((simp [hget, swp, Blk.ren, AV.ren, ints, Function.comp_def]) <;> rfl), rfl⟩) rfl (.cons (.same (by rfl)) .nil) rfl rfl rfl) rfl ?_
      refine st_p (op_fieldAddr Try.underlying67 rfl z9 (by decide) rfl) rfl ?_
      refine st_n (stA z9 rfl rfl rfl rfl rfl rfl rfl rfl rfl rfl) ?_
      refine al_nil ?_
      refine nm ?_
      refine aw_seq ?_
      refine aw_region ?_
      refine st_p (mv rfl) rfl ?_
      refine st_o (op_callg [(0, 1)] 1 true [(0, .cells 3 [.agg [.sl 1 (bl b), .int .i64 n3, .bool b3]])] [1] (k4) Try.func70 ⟨rfl, rfl⟩ rfl rfl rfl rfl (by omega) (by intro p hp; simp only [List.mem_cons, List.not_mem_nil, or_false] at hp; rcases hp with rfl | rfl <;> exact ⟨by first | rfl | ((simp [hget, swp, Blk.ren, AV.ren, ints, Function.comp_def]) <;> rfl), rfl⟩) rfl (.cons (.same (by rfl)) .nil) rfl rfl rfl) rfl ?_
      refine st_p (op_fieldAddr Try.underlying67 rfl z4 (by decide) rfl) rfl ?_
      refine st_n (stA z4 rfl rfl rfl rfl rfl rfl rfl rfl rfl rfl) ?_
      refine al_nil ?_
      refine nm ?_
      refine aw_region ?_
      refine st_p (op_fieldAddr Try.underlying26 rfl z23 (by decide) rfl) rfl ?_
      refine st_p (op_load1 Try.underlying23 rfl rfl rfl rfl rfl) rfl ?_
      refine st_p (op_loadA Try.underlying67 rfl z67 rfl rfl rfl rfl) rfl ?_
      refine st_o (bsl Try.underlying23 i67 o67 (by decide) rfl rfl rfl (by decide)) rfl ?_
      refine st_o (op_app Try.underlying23 Try.underlying23 (.inl ⟨_, rfl⟩) i67 o67 rfl rfl rfl (by first | rfl | omega | (simp; done) | (simp; omega)) ((SrcA.whole rfl (by first | rfl | (simp; done))).ok rfl (by first | assumption | intro z hz; simp only [List.mem_singleton, List.drop_zero, List.take_succ_cons, List.take_zero, List.mem_cons, List.not_mem_nil, or_false, List.mem_map] at hz; first | (subst hz; rfl) | (obtain ⟨_, _, rfl⟩ := hz; rfl) | (rcases hz with rfl | rfl <;> rfl))) (by first | omega | (simp; try omega)) rfl) rfl ?_
      refine st_p (op_fieldAddr Try.underlying26 rfl z23 (by decide) rfl) rfl ?_
      refine st_n (stA z23 rfl rfl rfl rfl rfl rfl rfl rfl rfl rfl) ?_
      refine al_nil ?_
      refine nmb ?_
      refine nm ?_
      refine aw_region ?_
      refine st_p (mv rfl) rfl ?_
      refine st_p (op_subi rfl rfl (by omega)) rfl ?_
      refine st_p (mva rfl) rfl ?_
      refine al_nil ?_
      refine nm ?_
      have hl : (acc ++ [(⟨y1, (y2 : Nat), y3, y4⟩ : RD)]).length = acc.length + 1 := by simp
      refine ⟨⟨(i, acc ++ [⟨y1, (y2 : Nat), y3, y4⟩], n4, b4), by dsimp only; exact ⟨by omega, g1, by omega, h4⟩⟩, by dsimp only; omega, le_to [(3, 10)] rfl rfl rfl rfl rfl ⟨rfl, rfl, rfl, rfl, rfl, rfl, ?_, trivial⟩ ⟨rfl, rfl, ?_, ?_, trivial⟩⟩
      ·show AV.int .i64 (((i + 1 : Nat) : Int) - 1) = AV.int .i64 (i : Int)
       congr 1
       omega
      ·simp [Blk.ren, hget, swp, AV.ren, rens]
      ·simp [Blk.ren, hget, swp, AV.ren, rens, sb, rdA]
     ·rw [loopR_stop _ _ _ _ _ (.inr (by omega))] at h4
      subst h4
      dsimp only
      refine aw_seq ?_
      refine aw_seq ?_
      refine aw_region ?_
      refine st_p (mv rfl) rfl ?_
      refine st_p (OpP.conv (op_gt rfl rfl) (yes (by first | assumption | omega))) rfl ?_
      refine st_p (mv rfl) rfl ?_
      refine st_pg rfl rfl rfl (mv rfl) rfl ?_
      refine st_pg rfl rfl rfl (op_nilCheck rfl trivial) rfl ?_
      refine st_pg rfl rfl rfl (op_fieldAddr Try.underlying99 rfl z4 (by decide) rfl) rfl ?_
      refine st_pg rfl rfl rfl (op_load1 Try.underlying4 rfl rfl rfl rfl rfl) rfl ?_
      refine st_pg rfl rfl rfl (op_notF rfl) rfl ?_
      refine st_p (pkT rfl rfl) rfl ?_
      refine st_p (mv rfl) rfl ?_
      refine st_pg rfl rfl rfl (op_fieldAddr Try.underlying26 rfl z23 (by decide) rfl) rfl ?_
      refine st_pg rfl rfl rfl (op_load1 Try.underlying23 rfl rfl rfl rfl rfl) rfl ?_
      refine st_pg rfl rfl rfl (op_leno Try.underlying23 rfl) rfl ?_
      refine st_pg rfl rfl rfl (OpP.conv (op_le rfl rfl) (no (by first | assumption | omega))) rfl ?_
      refine st_p (pkT rfl rfl) rfl ?_
      refine al_nil ?_
      refine nm ?_
      refine aw_no (rfl) ?_
      refine aw_exit ?_
      refine xs ?_
      refine xs ?_
      refine xb ?_
      refine nm ?_
      exact le_to [] rfl rfl rfl rfl rfl ⟨rfl, rfl, rfl, rfl, rfl, rfl, trivial⟩ ⟨rfl, rfl, rfl, by rw [ren_rds]; rfl, trivial⟩
 ·obtain ⟨rl, sR⟩ := R
  obtain ⟨vD, sD⟩ := D
  dsimp only at *
  have hrl : (rl.map rdA).length = rl.length := List.length_map _
  unfold rdrB at hD
  unfold rdrB
  refine aw_seq ?_
  refine aw_seq ?_
  refine aw_region ?_
  refine st_p (mv rfl) rfl ?_
  refine st_o (op_callg [(0, 1)] 1 true [(0, .cells 3 [.agg [.sl 1 (bl b), .int .i64 sR.1, .bool sR.2]])] [1] (hD) Try.func68 ⟨rfl, rfl⟩ rfl rfl rfl rfl (by omega) (by intro p hp; simp only [List.mem_cons, List.not_mem_nil, or_false] at hp; rcases hp with rfl | rfl <;> exact ⟨by first | rfl | ((simp [hget, swp, Blk.ren, AV.ren, ints, Function.comp_def]) <;> rfl), rfl⟩) rfl (.cons (.same (by rfl)) .nil) rfl rfl rfl) rfl ?_
  refine st_p (mva rfl) rfl ?_
  refine al_nil ?_
  refine nm ?_
  refine aw_block ?_
  refine aw_virtB 2 3 3 rfl rfl rfl rfl ?_
  refine aw_cutB (⟨[(0, .sl 1 (bl b)), (2, .ptr 0 0 0), (3, .int .i64 0), (4, .bool false), (5, .ptr 1 0 0), (6, .ptr 2 0 0)], [(0, .cells 4 [.agg [.int .i64 0, .int .i64 0, .nils, .nils]]), (1, .cells 3 [.agg [.sl 1 (bl b), .int .i64 W.2.1, .bool W.2.2]]), (2, .cells 4 [.agg [.int .i64 vA, .int .i64 vQ, .own 3 0 rl.length, .own 4 0 W.1.length]]), (3, .cells 4 (rl.map rdA)), (4, .cells 3 (W.1.map wrA))], 5⟩) ?_ ?_
  ·skip
   refine aw_loop (fun p : {p : Nat × List WR × Nat × Bool // p.1 ≤ 9223372036854775807 ∧ p.2.2.1 ≤ b.length ∧ p.2.1.length ≤ 5 ∧ loopR (refWrS b) 4 p.1 p.2.1 p.2.2 = W} => ⟨[(0, .sl 1 (bl b)), (2, .ptr 0 0 0), (3, .int .i64 0), (4, .bool false), (5, .ptr 1 0 0), (6, .ptr 2 0 0), (9, .int .i64 p.1.1)], [(0, .cells 4 [.agg [.int .i64 0, .int .i64 0, .nils, .nils]]), (1, .cells 3 [.agg [.sl 1 (bl b), .int .i64 p.1.2.2.1, .bool p.1.2.2.2]]), (2, .cells 4 [.agg [.int .i64 vA, .int .i64 vQ, .own 3 0 rl.length, .own 4 0 p.1.2.1.length]]), (3, .cells 4 (rl.map rdA)), (4, .cells 3 (p.1.2.1.map wrA))], 5⟩) (fun p => p.1.1) ⟨(vD, [], sD), by dsimp only; exact ⟨mD, lD, Nat.zero_le _, eW.symm⟩⟩ ?_ ?_
   ·exact le_to [(4, 5)] rfl rfl rfl rfl rfl ⟨rfl, rfl, rfl, rfl, rfl, rfl, rfl, trivial⟩ ⟨rfl, rfl, rfl, by rw [ren_rds]; rfl, rfl, trivial⟩
   ·rintro ⟨⟨i, acc, n, bad⟩, h0, h1, h2, h4⟩
    dsimp only at h0 h1 h2 h4 ⊢
    have hal : (acc.map wrA).length = acc.length := List.length_map _
    cases i with
    | zero =>
     have h4 : (acc, n, bad) = W := h4
     subst h4
     dsimp only
     refine aw_seq ?_
     refine aw_seq ?_
     refine aw_region ?_
     refine st_p (mv rfl) rfl ?_
     refine st_p (OpP.conv (op_gt rfl rfl) (no (by first | assumption | omega))) rfl ?_
     refine st_p (mv rfl) rfl ?_
     refine st_s rfl rfl rfl rfl rfl ?_
     refine st_s rfl rfl rfl rfl rfl ?_
     refine st_s rfl rfl rfl rfl rfl ?_
     refine st_s rfl rfl rfl rfl rfl ?_
     refine st_s rfl rfl rfl rfl rfl ?_
     refine st_p (pkF rfl rfl) rfl ?_
     refine st_p (mv rfl) rfl ?_
     refine st_s rfl rfl rfl rfl rfl ?_
     refine st_s rfl rfl rfl rfl rfl ?_
     refine st_s rfl rfl rfl rfl rfl ?_
     refine st_s rfl rfl rfl rfl rfl ?_
     refine st_p (pkF rfl rfl) rfl ?_
     refine al_nil ?_
     refine nm ?_
     refine aw_no (rfl) ?_
     refine aw_exit ?_
     refine xs ?_
     refine xs ?_
     refine xb ?_
     refine nm ?_
     exact le_to [] rfl rfl rfl rfl rfl ⟨rfl, rfl, rfl, rfl, rfl, rfl, trivial⟩ ⟨rfl, rfl, rfl, by rw [ren_rds]; rfl, by rw [ren_wrs]; rfl, trivial⟩
    | succ i =>
     cases bad with
     | true =>
      rw [loopR_stop _ _ _ _ _ (.inl rfl)] at h4
      subst h4
      dsimp only
      refine aw_seq ?_
      refine aw_seq ?_
      refine aw_region ?_
      refine st_p (mv rfl) rfl ?_
      refine st_p (OpP.conv (op_gt rfl rfl) (yes (by first | assumption | omega))) rfl ?_
      refine st_p (mv rfl) rfl ?_
      refine st_pg rfl rfl rfl (mv rfl) rfl ?_
      refine st_pg rfl rfl rfl (op_nilCheck rfl trivial) rfl ?_
      refine st_pg rfl rfl rfl (op_fieldAddr Try.underlying99 rfl z4 (by decide) rfl) rfl ?_
      refine st_pg rfl rfl rfl (op_load1 Try.underlying4 rfl rfl rfl rfl rfl) rfl ?_
      refine st_pg rfl rfl rfl (op_notT rfl) rfl ?_
      refine st_p (pkT rfl rfl) rfl ?_
      refine st_p (mv rfl) rfl ?_
      refine st_s rfl rfl rfl rfl rfl ?_
      refine st_s rfl rfl rfl rfl rfl ?_
      refine st_s rfl rfl rfl rfl rfl ?_
      refine st_s rfl rfl rfl rfl rfl ?_
      refine st_p (pkF rfl rfl) rfl ?_
      refine al_nil ?_
      refine nm ?_
      refine aw_no (rfl) ?_
      refine aw_exit ?_
      refine xs ?_
      refine xs ?_
      refine xb ?_
      refine nm ?_
      exact le_to [] rfl rfl rfl rfl rfl ⟨rfl, rfl, rfl, rfl, rfl, rfl, trivial⟩ ⟨rfl, rfl, rfl, by rw [ren_rds]; rfl, by rw [ren_wrs]; rfl, trivial⟩
     | false =>
      by_cases h6 : acc.length ≤ 4
      ·have hst : ∀ s : Nat × Bool, refWrS b s = (⟨(textS b s).1, (textS b (textS b s).2).1, (flagS b (textS b (textS b s).2).2).1⟩, (flagS b (textS b (textS b s).2).2).2) := fun _ => rfl
       rw [loopR_go _ _ _ _ _ (by simp; omega)] at h4
       obtain ⟨g1, _⟩ := refWrS_le b (n, false) h1
       rw [hst (n, false)] at h4 g1
       have k1 := htext (n, false) h1
       obtain ⟨q1, _⟩ := textS_le b (n, false) h1
       have k2 := htext _ q1
       obtain ⟨q2, _⟩ := textS_le b _ q1
       have k3 := hflag _ q2
       generalize textS b (n, false) = X1 at *
       generalize textS b X1.2 = X2 at *
       generalize flagS b X2.2 = X3 at *
       obtain ⟨y1, n1, b1⟩ := X1
       obtain ⟨y2, n2, b2⟩ := X2
       obtain ⟨y3, n3, b3⟩ := X3
       dsimp only at *
       unfold rdrB at k1 k2 k3
       refine aw_seq ?_
       refine aw_seq ?_
       refine aw_region ?_
       refine st_p (mv rfl) rfl ?_
       refine st_p (OpP.conv (op_gt rfl rfl) (yes (by first | assumption | omega))) rfl ?_
       refine st_p (mv rfl) rfl ?_
       refine st_pg rfl rfl rfl (mv rfl) rfl ?_
       refine st_pg rfl rfl rfl (op_nilCheck rfl trivial) rfl ?_
       refine st_pg rfl rfl rfl (op_fieldAddr Try.underlying99 rfl z4 (by decide) rfl) rfl ?_
       refine st_pg rfl rfl rfl (op_load1 Try.underlying4 rfl rfl rfl rfl rfl) rfl ?_
       refine st_pg rfl rfl rfl (op_notF rfl) rfl ?_
       refine st_p (pkT rfl rfl) rfl ?_
       refine st_p (mv rfl) rfl ?_
       refine st_pg rfl rfl rfl (op_fieldAddr Try.underlying26 rfl z24 (by decide) rfl) rfl ?_
       refine st_pg rfl rfl rfl (op_load1 Try.underlying24 rfl rfl rfl rfl rfl) rfl ?_
       refine st_pg rfl rfl rfl (op_leno Try.underlying24 rfl) rfl ?_
       refine st_pg rfl rfl rfl (OpP.conv (op_le rfl rfl) (yes (by first | assumption | omega))) rfl ?_
       refine st_p (pkT rfl rfl) rfl ?_
       refine al_nil ?_
       refine nm ?_
       refine aw_yes (rfl) ?_
       refine aw_skip ?_
       refine nm ?_
       refine aw_seq ?_
       refine aw_block ?_
       refine aw_seq ?_
       refine aw_region ?_
       refine st_p (mv rfl) rfl ?_
       refine st_o (op_callg [(0, 1)] 1 true [(0, .cells 3 [.agg [.sl 1 (bl b), .int .i64 n, .bool false]])] [1] (k1) Try.func69 ⟨rfl, rfl⟩ rfl rfl rfl rfl (by omega) (by intro p hp; simp only [List.mem_cons, List.not_mem_nil, or_false] at hp; rcases hp with rfl | rfl <;> exact ⟨by first | rfl | ((simp [hget, swp, Blk.ren, AV.ren, ints, Function.comp_def]) <;> rfl), rfl⟩) rfl (.cons (.same (by rfl)) .nil) rfl rfl rfl) rfl ?_
       refine st_p (op_build Try.underlying65 a65 rfl rfl (by intro f hf; simp only [List.mem_cons, List.not_mem_nil, or_false] at hf; rcases hf with rfl | rfl | rfl <;> exact ⟨_, by first | exact z4 | exact z9⟩) (pcons rfl rfl z9 rfl .nil) rfl) rfl ?_
       refine st_o (op_alloc a65 rfl rfl) rfl ?_
       refine st_n (stA z65 rfl rfl rfl rfl rfl rfl rfl rfl rfl rfl) ?_
       refine al_nil ?_
       refine nm ?_
       refine aw_seq ?_
       refine aw_region ?_
       refine st_p (mv rfl) rfl ?_
       refine st_o (op_callg [(0, 1)] 1 true [(0, .cells 3 [.agg [.sl 1 (bl b), .int .i64 n1, .bool b1]])] [1] (k2) Try.func69 ⟨rfl, rfl⟩ rfl rfl rfl rfl (by omega) (by intro p hp; simp only [List.mem_cons, List.not_mem_nil, or_false] at hp; rcases hp with rfl | rfl <;> exact ⟨by first | rfl | ((simp [hget, swp, Blk.ren, AV.ren, ints, Function.comp_def]) <;> rfl), rfl⟩) rfl (.cons (.same (by rfl)) .nil) rfl rfl rfl) rfl ?_
       refine st_p (op_fieldAddr Try.underlying65 rfl z9 (by decide) rfl) rfl ?_
       refine st_n (stA z9 rfl rfl rfl rfl rfl rfl rfl rfl rfl rfl) ?_
       refine al_nil ?_
       refine nm ?_
       refine aw_seq ?_
       refine aw_region ?_
       refine st_p (mv rfl) rfl ?_
       refine st_o (op_callg [(0, 1)] 1 true [(0, .cells 3 [.agg [.sl 1 (bl b), .int .i64 n2, .bool b2]])] [1] (k3) Try.func70 ⟨rfl, rfl⟩ rfl rfl rfl rfl (by omega) (by intro p hp; simp only [List.mem_cons, List.not_mem_nil, or_false] at hp; rcases hp with rfl | rfl <;> exact ⟨by first | rfl | ((simp [hget, swp, Blk.ren, AV.ren, ints, Function.comp_def]) <;> rfl), rfl⟩) rfl (.cons (.same (by rfl)) .nil) rfl rfl rfl) rfl ?_
       refine st_p (op_fieldAddr Try.underlying65 rfl z4 (by decide) rfl) rfl ?_
       refine st_n (stA z4 rfl rfl rfl rfl rfl rfl rfl rfl rfl rfl) ?_
       refine al_nil ?_
       refine nm ?_
       refine aw_region ?_
       refine st_p (op_fieldAddr Try.underlying26 rfl z24 (by decide) rfl) rfl ?_
       refine st_p (op_load1 Try.underlying24 rfl rfl rfl rfl rfl) rfl ?_
       refine st_p (op_loadA Try.underlying65 rfl z65 rfl rfl rfl rfl) rfl ?_
       refine st_o (bsl Try.underlying24 i65 o65 (by decide) rfl rfl rfl (by decide)) rfl ?_
       refine st_o (op_app Try.underlying24 Try.underlying24 (.inl ⟨_, rfl⟩) i65 o65 rfl rfl rfl (by first | rfl | omega | (simp; done) | (simp; omega)) ((SrcA.whole rfl (by first | rfl | (simp; done))).ok rfl (by first | assumption | intro z hz; simp only [List.mem_singleton, List.drop_zero, List.take_succ_cons, List.take_zero, List.mem_cons, List.not_mem_nil, or_false, List.mem_map] at hz; first | (subst hz; rfl) | (obtain ⟨_, _, rfl⟩ := hz; rfl) | (rcases hz with rfl | rfl <;> rfl))) (by first | omega | (simp; try omega)) rfl) rfl ?_
       refine st_p (op_fieldAddr Try.underlying26 rfl z24 (by decide) rfl) rfl ?_
       refine st_n (stA z24 rfl rfl rfl rfl rfl rfl rfl rfl rfl rfl) ?_
       refine al_nil ?_
       refine nmb ?_
       refine nm ?_
       refine aw_region ?_
       refine st_p (mv rfl) rfl ?_
       refine st_p (op_subi rfl rfl (by omega)) rfl ?_
       refine st_p (mva rfl) rfl ?_
       refine al_nil ?_
       refine nm ?_
       have hl : (acc ++ [(⟨y1, y2, y3⟩ : WR)]).length = acc.length + 1 := by simp
       refine ⟨⟨(i, acc ++ [⟨y1, y2, y3⟩], n3, b3), by dsimp only; exact ⟨by omega, g1, by omega, h4⟩⟩, by dsimp only; omega, le_to [(4, 10)] rfl rfl rfl rfl rfl ⟨rfl, rfl, rfl, rfl, rfl, rfl, ?_, trivial⟩ ⟨rfl, rfl, ?_, ?_, ?_, trivial⟩⟩
       ·show AV.int .i64 (((i + 1 : Nat) : Int) - 1) = AV.int .i64 (i : Int)
        congr 1
        omega
       ·simp [Blk.ren, hget, swp, AV.ren, rens]
       ·rw [ren_rds]; rfl
       ·simp [Blk.ren, hget, swp, AV.ren, rens, sb, wrA]
      ·rw [loopR_stop _ _ _ _ _ (.inr (by omega))] at h4
       subst h4
       dsimp only
       refine aw_seq ?_
       refine aw_seq ?_
       refine aw_region ?_
       refine st_p (mv rfl) rfl ?_
       refine st_p (OpP.conv (op_gt rfl rfl) (yes (by first | assumption | omega))) rfl ?_
       refine st_p (mv rfl) rfl ?_
       refine st_pg rfl rfl rfl (mv rfl) rfl ?_
       refine st_pg rfl rfl rfl (op_nilCheck rfl trivial) rfl ?_
       refine st_pg rfl rfl rfl (op_fieldAddr Try.underlying99 rfl z4 (by decide) rfl) rfl ?_
       refine st_pg rfl rfl rfl (op_load1 Try.underlying4 rfl rfl rfl rfl rfl) rfl ?_
       refine st_pg rfl rfl rfl (op_notF rfl) rfl ?_
       refine st_p (pkT rfl rfl) rfl ?_
       refine st_p (mv rfl) rfl ?_
       refine st_pg rfl rfl rfl (op_fieldAddr Try.underlying26 rfl z24 (by decide) rfl) rfl ?_
       refine st_pg rfl rfl rfl (op_load1 Try.underlying24 rfl rfl rfl rfl rfl) rfl ?_
       refine st_pg rfl rfl rfl (op_leno Try.underlying24 rfl) rfl ?_
       refine st_pg rfl rfl rfl (OpP.conv (op_le rfl rfl) (no (by first | assumption | omega))) rfl ?_
       refine st_p (pkT rfl rfl) rfl ?_
       refine al_nil ?_
       refine nm ?_
       refine aw_no (rfl) ?_
       refine aw_exit ?_
       refine xs ?_
       refine xs ?_
       refine xb ?_
       refine nm ?_
       exact le_to [] rfl rfl rfl rfl rfl ⟨rfl, rfl, rfl, rfl, rfl, rfl, trivial⟩ ⟨rfl, rfl, rfl, by rw [ren_rds]; rfl, by rw [ren_wrs]; rfl, trivial⟩
  ·obtain ⟨wl, nZ, bW⟩ := W
   dsimp only at *
   have hwl : (wl.map wrA).length = wl.length := List.length_map _
   have hput := ref_PutTxn_yes ⟨(vA : Nat), (vQ : Nat), rl, wl⟩
   have hno := ref_PutTxn_no ⟨(vA : Nat), (vQ : Nat), rl, wl⟩
   have hpos := putTx_pos2 ⟨(vA : Nat), (vQ : Nat), rl, wl⟩
   have hbp : (bl (putTx ⟨(vA : Nat), (vQ : Nat), rl, wl⟩)).length = (putTx ⟨(vA : Nat), (vQ : Nat), rl, wl⟩).length := bl_len _
   have hbl : (bl b).length = b.length := bl_len b
   have hkr : ∀ r ∈ rl, r.key.length ≤ 281474976710656 := fun r hr => by have := (vR r hr).2; omega
   have hkw : ∀ r ∈ wl, r.key.length ≤ 281474976710656 := fun r hr => by have := kW r hr; omega
   have hno := fun h => hno h (by dsimp only; omega) (by dsimp only; omega) hkr hkw
   have hput := fun h => hput h (fun r hr => (vR r hr).1) (by dsimp only; omega) (by dsimp only; omega) hkr hkw
   generalize putTx ⟨(vA : Nat), (vQ : Nat), rl, wl⟩ = X at *
   generalize mayTxB ⟨(vA : Nat), (vQ : Nat), rl, wl⟩ = m at *
   dsimp only [txA] at hput hno
   cases bW with
   | true =>
    have hO : ok = false := by rw [hO]; rfl
    subst hO
    cases m with
    | true =>
     have hput := hput rfl
     refine aw_seq ?_
     refine aw_region ?_
     refine st_p (op_loadA Try.underlying26 rfl z26 rfl rfl rfl rfl) rfl ?_
     refine st_o ((op_callq (hput) Try.func13 ⟨rfl, rfl⟩ rfl rfl (fun nx => (.cons (.of_list (.cons (.same (by rfl)) (.cons (.same (by rfl)) (.cons (.whole rfl rfl rfl (by first | rfl | simp) (by first | rfl | simp [Function.comp_def, AV.ren, rens, sb, rdA, wrA]) (by first | rfl | simp [AV.plain, plains, bl_plain, sb, AV.ren, rdA, wrA])) (.cons (.whole rfl rfl rfl (by first | rfl | simp) (by first | rfl | simp [Function.comp_def, AV.ren, rens, sb, rdA, wrA]) (by first | rfl | simp [AV.plain, plains, bl_plain, sb, AV.ren, rdA, wrA])) .nil))))) .nil)) (by rintro _ _ _ ⟨rfl, rfl, rfl⟩; exact .whole rfl (by simp) (by first | rfl | simp [AV.plain, plains, bl_plain]))).ok) rfl ?_
     refine st_p (mva rfl) rfl ?_
     refine al_nil ?_
     refine nm ?_
     refine aw_seq ?_
     refine aw_seq ?_
     refine dr_go ?_
     refine dr_f 0 0 [5] rfl (fun H => mv rfl) ?_
     refine dr_f 0 0 [94] rfl (fun H => op_nilCheck rfl trivial) ?_
     refine dr_f 0 0 [95] rfl (fun H => op_fieldAddr Try.underlying99 rfl z4 (by decide) rfl) ?_
     refine dr_q 0 0 [96] rfl (op_load1 Try.underlying4 rfl rfl rfl rfl rfl) ?_
     refine dr_f 0 0 [97] rfl (fun H => mv rfl) ?_
     refine dr_s 0 0 0 rfl rfl rfl ?_
     refine dr_s 0 0 1 rfl rfl rfl ?_
     refine dr_s 0 0 2 rfl rfl rfl ?_
     refine dr_f 0 0 [98, 101] rfl (fun H => pkT rfl rfl) ?_
     refine dr_f 0 0 [102] rfl (fun H => mv rfl) ?_
     refine dr_s 0 0 0 rfl rfl rfl ?_
     refine dr_s 0 0 1 rfl rfl rfl ?_
     refine dr_s 0 0 2 rfl rfl rfl ?_
     refine dr_s 0 0 3 rfl rfl rfl ?_
     refine dr_s 0 0 4 rfl rfl rfl ?_
     refine dr_s 0 0 5 rfl rfl rfl ?_
     refine dr_s 0 0 6 rfl rfl rfl ?_
     refine dr_s 0 0 7 rfl rfl rfl ?_
     refine dr_s 0 0 8 rfl rfl rfl ?_
     refine dr_s 0 0 9 rfl rfl rfl ?_
     refine dr_f 0 0 [103, 113] rfl (fun H => pkT rfl rfl) ?_
     refine dr_end [] (by kernel_rfl) (by kernel_rfl) (by kernel_rfl) (by kernel_rfl) trivial ?_
     refine nm ?_
     refine aw_yes (rfl) ?_
     refine aw_seq ?_
     refine aw_region ?_
     refine st_p (op_build Try.underlying26 a26 rfl rfl (by intro f hf; simp only [List.mem_cons, List.not_mem_nil, or_false] at hf; rcases hf with rfl | rfl | rfl | rfl <;> exact ⟨_, by first | exact z3 | exact z23 | exact z24⟩) .nil rfl) rfl ?_
     refine st_n (stA z26 rfl rfl rfl rfl rfl rfl rfl rfl rfl rfl) ?_
     refine st_p (mva rfl) rfl ?_
     refine st_p (mva rfl) rfl ?_
     refine al_nil ?_
     refine nm ?_
     refine aw_ret ?_
     refine rs ?_
     exact ret_a ⟨[(2, .ptr 0 0 0), (3, .int .i64 0), (4, .bool false)], [(0, .cells 4 [.agg [.int .i64 0, .int .i64 0, .nils, .nils]])], 1⟩ (le_to [] rfl rfl rfl rfl rfl ⟨rfl, rfl, rfl, trivial⟩ ⟨rfl, trivial⟩) (resCn (.cons (.cell rfl (op_loadA Try.underlying26 rfl rfl rfl rfl rfl rfl)) (.cons (.tmp rfl) (.cons (.tmp rfl) .nil))) (by simp)) (.inr ⟨rfl, rfl⟩) ⟨rfl, rfl, rfl⟩
    | false =>
     have hno := hno rfl
     refine aw_seq ?_
     refine aw_region ?_
     refine st_p (op_loadA Try.underlying26 rfl z26 rfl rfl rfl rfl) rfl ?_
     refine st_o ((op_callq (hno) Try.func13 ⟨rfl, rfl⟩ rfl rfl (fun nx => (.cons (.of_list (.cons (.same (by rfl)) (.cons (.same (by rfl)) (.cons (.whole rfl rfl rfl (by first | rfl | simp) (by first | rfl | simp [Function.comp_def, AV.ren, rens, sb, rdA, wrA]) (by first | rfl | simp [AV.plain, plains, bl_plain, sb, AV.ren, rdA, wrA])) (.cons (.whole rfl rfl rfl (by first | rfl | simp) (by first | rfl | simp [Function.comp_def, AV.ren, rens, sb, rdA, wrA]) (by first | rfl | simp [AV.plain, plains, bl_plain, sb, AV.ren, rdA, wrA])) .nil))))) .nil)) (by rintro _ _ _ ⟨rfl, rfl, rfl⟩; exact .same rfl)).ok) rfl ?_
     refine st_p (mva rfl) rfl ?_
     refine al_nil ?_
     refine nm ?_
     refine aw_seq ?_
     refine aw_seq ?_
     refine dr_go ?_
     refine dr_f 0 0 [5] rfl (fun H => mv rfl) ?_
     refine dr_f 0 0 [94] rfl (fun H => op_nilCheck rfl trivial) ?_
     refine dr_f 0 0 [95] rfl (fun H => op_fieldAddr Try.underlying99 rfl z4 (by decide) rfl) ?_
     refine dr_q 0 0 [96] rfl (op_load1 Try.underlying4 rfl rfl rfl rfl rfl) ?_
     refine dr_f 0 0 [97] rfl (fun H => mv rfl) ?_
     refine dr_s 0 0 0 rfl rfl rfl ?_
     refine dr_s 0 0 1 rfl rfl rfl ?_
     refine dr_s 0 0 2 rfl rfl rfl ?_
     refine dr_f 0 0 [98, 101] rfl (fun H => pkT rfl rfl) ?_
     refine dr_f 0 0 [102] rfl (fun H => mv rfl) ?_
     refine dr_s 0 0 0 rfl rfl rfl ?_
     refine dr_s 0 0 1 rfl rfl rfl ?_
     refine dr_s 0 0 2 rfl rfl rfl ?_
     refine dr_s 0 0 3 rfl rfl rfl ?_
     refine dr_s 0 0 4 rfl rfl rfl ?_
     refine dr_s 0 0 5 rfl rfl rfl ?_
     refine dr_s 0 0 6 rfl rfl rfl ?_
     refine dr_s 0 0 7 rfl rfl rfl ?_
     refine dr_s 0 0 8 rfl rfl rfl ?_
     refine dr_s 0 0 9 rfl rfl rfl ?_
     refine dr_f 0 0 [103, 113] rfl (fun H => pkT rfl rfl) ?_
     refine dr_end [] (by kernel_rfl) (by kernel_rfl) (by kernel_rfl) (by kernel_rfl) trivial ?_
     refine nm ?_
     refine aw_yes (rfl) ?_
     refine aw_seq ?_
     refine aw_region ?_
     refine st_p (op_build Try.underlying26 a26 rfl rfl (by intro f hf; simp only [List.mem_cons, List.not_mem_nil, or_false] at hf; rcases hf with rfl | rfl | rfl | rfl <;> exact ⟨_, by first | exact z3 | exact z23 | exact z24⟩) .nil rfl) rfl ?_
     refine st_n (stA z26 rfl rfl rfl rfl rfl rfl rfl rfl rfl rfl) ?_
     refine st_p (mva rfl) rfl ?_
     refine st_p (mva rfl) rfl ?_
     refine al_nil ?_
     refine nm ?_
     refine aw_ret ?_
     refine rs ?_
     exact ret_a ⟨[(2, .ptr 0 0 0), (3, .int .i64 0), (4, .bool false)], [(0, .cells 4 [.agg [.int .i64 0, .int .i64 0, .nils, .nils]])], 1⟩ (le_to [] rfl rfl rfl rfl rfl ⟨rfl, rfl, rfl, trivial⟩ ⟨rfl, trivial⟩) (resCn (.cons (.cell rfl (op_loadA Try.underlying26 rfl rfl rfl rfl rfl rfl)) (.cons (.tmp rfl) (.cons (.tmp rfl) .nil))) (by simp)) (.inr ⟨rfl, rfl⟩) ⟨rfl, rfl, rfl⟩
   | false =>
    cases m with
    | false =>
     have hO : ok = false := by rw [hO]; rfl
     subst hO
     have hno := hno rfl
     refine aw_seq ?_
     refine aw_region ?_
     refine st_p (op_loadA Try.underlying26 rfl z26 rfl rfl rfl rfl) rfl ?_
     refine st_o ((op_callq (hno) Try.func13 ⟨rfl, rfl⟩ rfl rfl (fun nx => (.cons (.of_list (.cons (.same (by rfl)) (.cons (.same (by rfl)) (.cons (.whole rfl rfl rfl (by first | rfl | simp) (by first | rfl | simp [Function.comp_def, AV.ren, rens, sb, rdA, wrA]) (by first | rfl | simp [AV.plain, plains, bl_plain, sb, AV.ren, rdA, wrA])) (.cons (.whole rfl rfl rfl (by first | rfl | simp) (by first | rfl | simp [Function.comp_def, AV.ren, rens, sb, rdA, wrA]) (by first | rfl | simp [AV.plain, plains, bl_plain, sb, AV.ren, rdA, wrA])) .nil))))) .nil)) (by rintro _ _ _ ⟨rfl, rfl, rfl⟩; exact .same rfl)).ok) rfl ?_
     refine st_p (mva rfl) rfl ?_
     refine al_nil ?_
     refine nm ?_
     refine aw_seq ?_
     refine aw_seq ?_
     refine dr_go ?_
     refine dr_f 0 0 [5] rfl (fun H => mv rfl) ?_
     refine dr_f 0 0 [94] rfl (fun H => op_nilCheck rfl trivial) ?_
     refine dr_f 0 0 [95] rfl (fun H => op_fieldAddr Try.underlying99 rfl z4 (by decide) rfl) ?_
     refine dr_q 0 0 [96] rfl (op_load1 Try.underlying4 rfl rfl rfl rfl rfl) ?_
     refine dr_f 0 0 [97] rfl (fun H => mv rfl) ?_
     refine dr_gf 0 0 [11] rfl (fun H => mv rfl) 0 rfl rfl ?_
     refine dr_gf 0 0 [99] rfl (fun H => op_lenn Try.underlying22 rfl) 1 rfl rfl ?_
     refine dr_gf 0 0 [100] rfl (fun H => OpP.conv (op_eq rfl rfl) (yes (by first | assumption | omega))) 2 rfl rfl ?_
     refine dr_f 0 0 [98, 101] rfl (fun H => pkF rfl rfl) ?_
     refine dr_f 0 0 [102] rfl (fun H => mv rfl) ?_
     refine dr_s 0 0 0 rfl rfl rfl ?_
     refine dr_s 0 0 1 rfl rfl rfl ?_
     refine dr_s 0 0 2 rfl rfl rfl ?_
     refine dr_s 0 0 3 rfl rfl rfl ?_
     refine dr_s 0 0 4 rfl rfl rfl ?_
     refine dr_s 0 0 5 rfl rfl rfl ?_
     refine dr_s 0 0 6 rfl rfl rfl ?_
     refine dr_s 0 0 7 rfl rfl rfl ?_
     refine dr_s 0 0 8 rfl rfl rfl ?_
     refine dr_s 0 0 9 rfl rfl rfl ?_
     refine dr_f 0 0 [103, 113] rfl (fun H => pkT rfl rfl) ?_
     refine dr_end [] (by kernel_rfl) (by kernel_rfl) (by kernel_rfl) (by kernel_rfl) trivial ?_
     refine nm ?_
     refine aw_yes (rfl) ?_
     refine aw_seq ?_
     refine aw_region ?_
     refine st_p (op_build Try.underlying26 a26 rfl rfl (by intro f hf; simp only [List.mem_cons, List.not_mem_nil, or_false] at hf; rcases hf with rfl | rfl | rfl | rfl <;> exact ⟨_, by first | exact z3 | exact z23 | exact z24⟩) .nil rfl) rfl ?_
     refine st_n (stA z26 rfl rfl rfl rfl rfl rfl rfl rfl rfl rfl) ?_
     refine st_p (mva rfl) rfl ?_
     refine st_p (mva rfl) rfl ?_
     refine al_nil ?_
     refine nm ?_
     refine aw_ret ?_
     refine rs ?_
     exact ret_a ⟨[(2, .ptr 0 0 0), (3, .int .i64 0), (4, .bool false)], [(0, .cells 4 [.agg [.int .i64 0, .int .i64 0, .nils, .nils]])], 1⟩ (le_to [] rfl rfl rfl rfl rfl ⟨rfl, rfl, rfl, trivial⟩ ⟨rfl, trivial⟩) (resCn (.cons (.cell rfl (op_loadA Try.underlying26 rfl rfl rfl rfl rfl rfl)) (.cons (.tmp rfl) (.cons (.tmp rfl) .nil))) (by simp)) (.inr ⟨rfl, rfl⟩) ⟨rfl, rfl, rfl⟩
    | true =>
     have hput := hput rfl
     have hee : (b.drop (Int.toNat 0)).take (((nZ : Nat) : Int).toNat - Int.toNat 0) = b.take nZ := by simp
     by_cases heq : X = b.take nZ
     ·have hO : ok = true := by rw [hO, decide_eq_true heq]; rfl
      subst hO
      have hnn : ¬ X ≠ (b.drop (Int.toNat 0)).take (((nZ : Nat) : Int).toNat - Int.toNat 0) := fun h => h (by rw [hee]; exact heq)
      refine aw_seq ?_
      refine aw_region ?_
      refine st_p (op_loadA Try.underlying26 rfl z26 rfl rfl rfl rfl) rfl ?_
      refine st_o ((op_callq (hput) Try.func13 ⟨rfl, rfl⟩ rfl rfl (fun nx => (.cons (.of_list (.cons (.same (by rfl)) (.cons (.same (by rfl)) (.cons (.whole rfl rfl rfl (by first | rfl | simp) (by first | rfl | simp [Function.comp_def, AV.ren, rens, sb, rdA, wrA]) (by first | rfl | simp [AV.plain, plains, bl_plain, sb, AV.ren, rdA, wrA])) (.cons (.whole rfl rfl rfl (by first | rfl | simp) (by first | rfl | simp [Function.comp_def, AV.ren, rens, sb, rdA, wrA]) (by first | rfl | simp [AV.plain, plains, bl_plain, sb, AV.ren, rdA, wrA])) .nil))))) .nil)) (by rintro _ _ _ ⟨rfl, rfl, rfl⟩; exact .whole rfl (by simp) (by first | rfl | simp [AV.plain, plains, bl_plain]))).ok) rfl ?_
      refine st_p (mva rfl) rfl ?_
      refine al_nil ?_
      refine nm ?_
      refine aw_seq ?_
      refine aw_seq ?_
      refine dr_go ?_
      refine dr_f 0 0 [5] rfl (fun H => mv rfl) ?_
      refine dr_f 0 0 [94] rfl (fun H => op_nilCheck rfl trivial) ?_
      refine dr_f 0 0 [95] rfl (fun H => op_fieldAddr Try.underlying99 rfl z4 (by decide) rfl) ?_
      refine dr_q 0 0 [96] rfl (op_load1 Try.underlying4 rfl rfl rfl rfl rfl) ?_
      refine dr_f 0 0 [97] rfl (fun H => mv rfl) ?_
      refine dr_gf 0 0 [11] rfl (fun H => mv rfl) 0 rfl rfl ?_
      refine dr_gf 0 0 [99] rfl (fun H => op_len Try.underlying22 rfl) 1 rfl rfl ?_
      refine dr_gf 0 0 [100] rfl (fun H => OpP.conv (op_eq rfl rfl) (no (by first | assumption | omega))) 2 rfl rfl ?_
      refine dr_f 0 0 [98, 101] rfl (fun H => pkF rfl rfl) ?_
      refine dr_f 0 0 [102] rfl (fun H => mv rfl) ?_
      refine dr_gf 0 0 [11] rfl (fun H => mv rfl) 0 rfl rfl ?_
      refine dr_gq 0 0 [104] rfl (op_toStr Try.underlying22 Try.underlying5 Try.underlying9 rfl (.sl (.inr trivial)) rfl) 1 rfl rfl ?_
      refine dr_gf 0 0 [0] rfl (fun H => mv rfl) 2 rfl rfl ?_
      refine dr_gf 0 0 [5] rfl (fun H => mv rfl) 3 rfl rfl ?_
      refine dr_gf 0 0 [107] rfl (fun H => op_nilCheck rfl trivial) 4 rfl rfl ?_
      refine dr_gf 0 0 [108] rfl (fun H => op_fieldAddr Try.underlying99 rfl z3 (by decide) rfl) 5 rfl rfl ?_
      refine dr_gq 0 0 [109] rfl (op_load1 Try.underlying3 rfl rfl rfl rfl rfl) 6 rfl rfl ?_
      refine dr_gq 0 0 [106, 110] rfl (op_sliceL Try.underlying22 z5 rfl (by exact rfl) (by exact ⟨_, rfl⟩) (by first | omega | (simp only [bl_len, List.length_map, List.length_append, List.length_take, List.length_drop]; omega)) (by first | omega | (simp only [bl_len, List.length_map, List.length_append, List.length_take, List.length_drop]; omega)) (by first | omega | (simp only [bl_len, List.length_map, List.length_append, List.length_take, List.length_drop]; omega))) 7 rfl rfl ?_
      refine dr_gq 0 0 [111] rfl (op_toStr Try.underlying22 Try.underlying5 Try.underlying9 rfl (.sl (.inr trivial)) (by simp only [bl_take, bl_drop, bl_app, List.take_length, List.drop_zero, List.take_nil, List.drop_nil]; rfl)) 8 rfl rfl ?_
      refine dr_gf 0 0 [105, 112] rfl (fun H => OpP.conv (op_nes rfl rfl) (no (by first | assumption | omega))) 9 rfl rfl ?_
      refine dr_f 0 0 [103, 113] rfl (fun H => pkF rfl rfl) ?_
      refine dr_end [] (by kernel_rfl) (by kernel_rfl) (by kernel_rfl) (by kernel_rfl) trivial ?_
      refine nm ?_
      refine aw_no (rfl) ?_
      refine aw_skip ?_
      refine nm ?_
      refine aw_seq ?_
      refine dr_go ?_
      refine dr_q 0 0 [6] rfl (op_loadA Try.underlying26 rfl z26 rfl rfl rfl rfl) ?_
      refine dr_f 0 1 [5] rfl (fun H => mv rfl) ?_
      refine dr_f 0 1 [117] rfl (fun H => op_nilCheck rfl trivial) ?_
      refine dr_f 0 1 [118] rfl (fun H => op_fieldAddr Try.underlying99 rfl z3 (by decide) rfl) ?_
      refine dr_q 0 1 [119] rfl (op_load1 Try.underlying3 rfl rfl rfl rfl rfl) ?_
      refine dr_n 0 [2, 116] rfl (stA z26 rfl rfl rfl rfl rfl rfl rfl rfl rfl rfl) ?_
      refine dr_f 1 1 [120] rfl (fun H => mva rfl) ?_
      refine dr_f 1 1 [] rfl (fun H => mva rfl) ?_
      refine dr_end [(4, 1)] (by kernel_rfl) (by kernel_rfl) (by kernel_rfl) (by kernel_rfl) ⟨(by first | exact ⟨_, rfl, OpP.q (op_load1L Try.underlying3 rfl rfl rfl)⟩ | exact ⟨_, rfl, OpP.q (op_load1 Try.underlying3 rfl rfl rfl rfl rfl)⟩ | exact ⟨_, rfl, OpP.q (op_load1 Try.underlying3 rfl rfl rfl (by assumption) rfl)⟩ | exact ⟨_, rfl, OpP.q (op_load1 Try.underlying3 rfl rfl rfl rfl (by assumption))⟩), trivial⟩ ?_
      refine nm ?_
      refine aw_ret ?_
      exact ret_a ⟨[(2, .ptr 0 0 0), (3, .int .i64 (nZ : Nat)), (4, .bool true)], [(0, .cells 4 [.agg [.int .i64 (vA : Nat), .int .i64 (vQ : Nat), .own 3 0 rl.length, .own 4 0 wl.length]]), (3, .cells 4 (rl.map rdA)), (4, .cells 3 (wl.map wrA))], 5⟩ (le_to [] rfl rfl rfl rfl rfl ⟨rfl, rfl, rfl, trivial⟩ ⟨rfl, by rw [ren_rds]; rfl, by rw [ren_wrs]; rfl, trivial⟩) (resCn (.cons (.cell rfl (op_loadA Try.underlying26 rfl rfl rfl rfl rfl rfl)) (.cons (.tmp rfl) (.cons (.tmp rfl) .nil))) (by simp)) (.inr ⟨rfl, by simp [Blk.nosl, AV.nosl, nosls, rdA, wrA, sb]⟩) ⟨rfl, rfl, rfl⟩
     ·have hO : ok = false := by rw [hO, decide_eq_false heq]; rfl
      subst hO
      have hnn : X ≠ (b.drop (Int.toNat 0)).take (((nZ : Nat) : Int).toNat - Int.toNat 0) := fun h => heq (by rw [hee] at h; exact h)
      refine aw_seq ?_
      refine aw_region ?_
      refine st_p (op_loadA Try.underlying26 rfl z26 rfl rfl rfl rfl) rfl ?_
      refine st_o ((op_callq (hput) Try.func13 ⟨rfl, rfl⟩ rfl rfl (fun nx => (.cons (.of_list (.cons (.same (by rfl)) (.cons (.same (by rfl)) (.cons (.whole rfl rfl rfl (by first | rfl | simp) (by first | rfl | simp [Function.comp_def, AV.ren, rens, sb, rdA, wrA]) (by first | rfl | simp [AV.plain, plains, bl_plain, sb, AV.ren, rdA, wrA])) (.cons (.whole rfl rfl rfl (by first | rfl | simp) (by first | rfl | simp [Function.comp_def, AV.ren, rens, sb, rdA, wrA]) (by first | rfl | simp [AV.plain, plains, bl_plain, sb, AV.ren, rdA, wrA])) .nil))))) .nil)) (by rintro _ _ _ ⟨rfl, rfl, rfl⟩; exact .whole rfl (by simp) (by first | rfl | simp [AV.plain, plains, bl_plain]))).ok) rfl ?_
      refine st_p (mva rfl) rfl ?_
      refine al_nil ?_
      refine nm ?_
      refine aw_seq ?_
      refine aw_seq ?_
      refine dr_go ?_
      refine dr_f 0 0 [5] rfl (fun H => mv rfl) ?_
      refine dr_f 0 0 [94] rfl (fun H => op_nilCheck rfl trivial) ?_
      refine dr_f 0 0 [95] rfl (fun H => op_fieldAddr Try.underlying99 rfl z4 (by decide) rfl) ?_
      refine dr_q 0 0 [96] rfl (op_load1 Try.underlying4 rfl rfl rfl rfl rfl) ?_
      refine dr_f 0 0 [97] rfl (fun H => mv rfl) ?_
      refine dr_gf 0 0 [11] rfl (fun H => mv rfl) 0 rfl rfl ?_
      refine dr_gf 0 0 [99] rfl (fun H => op_len Try.underlying22 rfl) 1 rfl rfl ?_
      refine dr_gf 0 0 [100] rfl (fun H => OpP.conv (op_eq rfl rfl) (no (by first | assumption | omega))) 2 rfl rfl ?_
      refine dr_f 0 0 [98, 101] rfl (fun H => pkF rfl rfl) ?_
      refine dr_f 0 0 [102] rfl (fun H => mv rfl) ?_
      refine dr_gf 0 0 [11] rfl (fun H => mv rfl) 0 rfl rfl ?_
      refine dr_gq 0 0 [104] rfl (op_toStr Try.underlying22 Try.underlying5 Try.underlying9 rfl (.sl (.inr trivial)) rfl) 1 rfl rfl ?_
      refine dr_gf 0 0 [0] rfl (fun H => mv rfl) 2 rfl rfl ?_
      refine dr_gf 0 0 [5] rfl (fun H => mv rfl) 3 rfl rfl ?_
      refine dr_gf 0 0 [107] rfl (fun H => op_nilCheck rfl trivial) 4 rfl rfl ?_
      refine dr_gf 0 0 [108] rfl (fun H => op_fieldAddr Try.underlying99 rfl z3 (by decide) rfl) 5 rfl rfl ?_
      refine dr_gq 0 0 [109] rfl (op_load1 Try.underlying3 rfl rfl rfl rfl rfl) 6 rfl rfl ?_
      refine dr_gq 0 0 [106, 110] rfl (op_sliceL Try.underlying22 z5 rfl (by exact rfl) (by exact ⟨_, rfl⟩) (by first | omega | (simp only [bl_len, List.length_map, List.length_append, List.length_take, List.length_drop]; omega)) (by first | omega | (simp only [bl_len, List.length_map, List.length_append, List.length_take, List.length_drop]; omega)) (by first | omega | (simp only [bl_len, List.length_map, List.length_append, List.length_take, List.length_drop]; omega))) 7 rfl rfl ?_
      refine dr_gq 0 0 [111] rfl (op_toStr Try.underlying22 Try.underlying5 Try.underlying9 rfl (.sl (.inr trivial)) (by simp only [bl_take, bl_drop, bl_app, List.take_length, List.drop_zero, List.take_nil, List.drop_nil]; rfl)) 8 rfl rfl ?_
      refine dr_gf 0 0 [105, 112] rfl (fun H => OpP.conv (op_nes rfl rfl) (yes (by first | assumption | omega))) 9 rfl rfl ?_
      refine dr_f 0 0 [103, 113] rfl (fun H => pkF rfl rfl) ?_
      refine dr_end [] (by kernel_rfl) (by kernel_rfl) (by kernel_rfl) (by kernel_rfl) trivial ?_
      refine nm ?_
      refine aw_yes (rfl) ?_
      refine aw_seq ?_
      refine aw_region ?_
      refine st_p (op_build Try.underlying26 a26 rfl rfl (by intro f hf; simp only [List.mem_cons, List.not_mem_nil, or_false] at hf; rcases hf with rfl | rfl | rfl | rfl <;> exact ⟨_, by first | exact z3 | exact z23 | exact z24⟩) .nil rfl) rfl ?_
      refine st_n (stA z26 rfl rfl rfl rfl rfl rfl rfl rfl rfl rfl) ?_
      refine st_p (mva rfl) rfl ?_
      refine st_p (mva rfl) rfl ?_
      refine al_nil ?_
      refine nm ?_
      refine aw_ret ?_
      refine rs ?_
      exact ret_a ⟨[(2, .ptr 0 0 0), (3, .int .i64 0), (4, .bool false)], [(0, .cells 4 [.agg [.int .i64 0, .int .i64 0, .nils, .nils]])], 1⟩ (le_to [] rfl rfl rfl rfl rfl ⟨rfl, rfl, rfl, trivial⟩ ⟨rfl, trivial⟩) (resCn (.cons (.cell rfl (op_loadA Try.underlying26 rfl rfl rfl rfl rfl rfl)) (.cons (.tmp rfl) (.cons (.tmp rfl) .nil))) (by simp)) (.inr ⟨rfl, rfl⟩) ⟨rfl, rfl, rfl⟩

end Go.Proofs.Ytpggknkhldecaaa.Abs
end
section
namespace Go.Proofs.Ytpggknkhldecaaa.Abs

theorem ref_Take_yes (b : List UInt8) (hb : b.length ≤ 100000) (hok : takeOk b = true) :
  AC Try.prog 22 [.sl 1 (bl b)] [] 0 false (fun v h nx => v = .tup [.agg [.int .i64 (takeT b).ses, .int .i64 (takeT b).seq, .own 0 0 (takeT b).reads.length, .own 1 0 (takeT b).writes.length], .int .i64 ((takeW b).2.1 : Nat), .bool true] ∧
   h = [(0, .cells 4 ((takeT b).reads.map rdA)), (1, .cells 3 ((takeT b).writes.map wrA))] ∧ nx = 2) := by
 have k0 := ref_Take0 b hb
 obtain ⟨e0, e1⟩ := refOk_eq b
 obtain ⟨e1, e2⟩ := e1 hok
 rw [e0, hok] at k0
 simp only [cond_true] at k0
 rw [← e1, ← e2]
 unfold refT
 dsimp only
 generalize refA b = A at k0 ⊢
 generalize refQ b = Q at k0 ⊢
 generalize refR b = R at k0 ⊢
 generalize refW b = W at k0 ⊢
 refine k0.le ?_
 rintro r h nx ⟨rfl, rfl, rfl⟩
 refine ⟨Nat.zero_le _, _, _, _, ⟨rfl, rfl, rfl⟩, fun c hc => ?_⟩
 exact le_to [(0, 3), (1, 4)] rfl (by rw [hc]; rfl) (by rw [hc]; rfl) rfl rfl ⟨rfl, trivial⟩ ⟨by rw [ren_rds]; rfl, by rw [ren_wrs]; rfl, trivial⟩

theorem ref_Take_no (b : List UInt8) (hb : b.length ≤ 100000) (hok : takeOk b = false) :
  AC Try.prog 22 [.sl 1 (bl b)] [] 0 false (fun v h nx => v = .tup [txA ⟨0, 0, [], []⟩, .int .i64 0, .bool false] ∧ h = [] ∧ nx = 0) := by
 have k : AC Try.prog 22 [.sl 1 (bl b)] [] 0 false (fun v h nx => v = .tup [.agg [.int .i64 0, .int .i64 0, .nils, .nils], .int .i64 0, .bool false] ∧ h = [] ∧ nx = 0) := by
  have k0 := ref_Take0 b hb
  rw [(refOk_eq b).1, hok] at k0
  simp only [cond_false] at k0
  refine k0.le ?_
  rintro r h nx ⟨rfl, rfl, rfl⟩
  refine ⟨Nat.zero_le _, _, _, _, ⟨rfl, rfl, rfl⟩, fun c hc => ?_⟩
  exact le_to [] rfl rfl (by rw [hc]; rfl) rfl rfl ⟨rfl, trivial⟩ trivial
 refine k.le ?_
 rintro r h nx ⟨rfl, rfl, rfl⟩
 refine ⟨Nat.zero_le _, _, _, _, ⟨rfl, rfl, rfl⟩, fun c hc => le_val fun S w ρ v hv => ?_⟩
 cases hv with
 | tup vs h1 h2 =>
  refine .tup vs h1 fun i x u hx hu => ?_
  match i with
  | 0 =>
   simp only [List.getElem?_cons_zero, Option.some.injEq] at hx
   subst hx
   have := h2 0 _ u rfl hu
   cases this with
   | agg ws k1 k2 =>
    refine .agg ws k1 fun j y z hy hz => ?_
    match j with
    | 0 => exact k2 0 y z hy hz
    | 1 => exact k2 1 y z hy hz
    | 2 =>
     simp only [List.getElem?_cons_succ, List.getElem?_cons_zero, Option.some.injEq] at hy
     subst hy
     have := k2 2 _ z rfl hz
     cases this
     exact .sl0
    | 3 =>
     simp only [List.getElem?_cons_succ, List.getElem?_cons_zero, Option.some.injEq] at hy
     subst hy
     have := k2 3 _ z rfl hz
     cases this
     exact .sl0
    | j + 4 => simp at hy
  | 1 => exact h2 1 x u hx hu
  | 2 => exact h2 2 x u hx hu
  | i + 3 => simp at hx


end Go.Proofs.Ytpggknkhldecaaa.Abs
end
section
namespace Go.Proofs.Ytpggknkhldecaaa.Abs

section
variable {P : Program} {tm : List (Nat × AV)} {h : Heap} {nx : Nat}

end

section
variable {P : Program} {w : World} {t : TypeId} {α : Type}

end
theorem Le.trans {c : Ctx} {n : Nat} {s1 s2 s3 : St} (h1 : Le c n s1 s2) (h2 : Le c n s2 s3) : Le c n s1 s3 := fun ρ S a w hr => by
 obtain ⟨ρ2, hr2⟩ := h1 ρ S a w hr
 exact h2 ρ2 S a w hr2

end Go.Proofs.Ytpggknkhldecaaa.Abs
end
section
namespace Go.Proofs.Ytpggknkhldecaaa.Abs

def padB (i : Nat) : UInt8 := UInt8.ofNat (85 + i % 5)
def roomL (b : List UInt8) : List UInt8 := b ++ (List.range 6).map fun j => padB (b.length + j)

theorem light_tx (t : TX) (hr : t.reads.length ≤ 281474976710656) (hw : t.writes.length ≤ 281474976710656) (hkr : ∀ r ∈ t.reads, r.key.length ≤ 281474976710656 ∧ r.val.length ≤ 281474976710656) (hkw : ∀ r ∈ t.writes, r.key.length ≤ 281474976710656 ∧ r.val.length ≤ 281474976710656) :
  AC Try.prog 7 [txA t] [] 0 false (fun v h nx => v = .bool (t.reads.all (fun r => decide (r.key.length + r.val.length ≤ 60)) && (t.writes.all (fun r => decide (r.key.length + r.val.length ≤ 60)) && (decide (t.reads.length ≤ 8) && decide (t.writes.length ≤ 8)))) ∧ h = [] ∧ nx = 0) := by
 obtain ⟨ses, seq, rl, wl⟩ := t
 dsimp only [txA] at hr hw hkr hkw ⊢
 have hram : (rl.map rdA).length = rl.length := List.length_map _
 have hwam : (wl.map wrA).length = wl.length := List.length_map _
 refine ac_fn Try.func7 rfl rfl rfl rfl (fun w0 S0 r0 => ?_)
 refine aw_seq ?_
 refine aw_region ?_
 refine st_o (bx rfl rfl) rfl ?_
 refine st_p (mva rfl) rfl ?_
 refine al_nil ?_
 refine nm ?_
 refine aw_seq ?_
 refine aw_seq ?_
 refine aw_region ?_
 refine st_p (mva rfl) rfl ?_
 refine al_nil ?_
 refine nm ?_
 refine aw_block ?_
 refine aw_loop (fun i : {i : Nat // i ≤ rl.length ∧ (rl.take i).all (fun r => decide (r.key.length + r.val.length ≤ 60)) = true} => ⟨[(1, .ptr 0 0 0), (3, .int .i64 i.1)], [(0, .cells 4 [.agg [.int .i64 ses, .int .i64 seq, .sl 4 (rl.map rdA), .sl 3 (wl.map wrA)]])], 1⟩) (fun i => rl.length - i.1) ⟨0, Nat.zero_le _, rfl⟩ ?_ ?_
 ·exact le_to [] rfl rfl rfl rfl rfl ⟨rfl, rfl, trivial⟩ ⟨rfl, trivial⟩
 ·rintro ⟨i, hi, ha⟩
  dsimp only
  by_cases hlt : i < rl.length
  ·obtain ⟨x, hx⟩ : ∃ x, rl[i]? = some x := ⟨_, List.getElem?_eq_getElem hlt⟩
   have hxb : (rl.map rdA)[((i : Nat) : Int).toNat]? = some (.agg [sb x.key, .int .i64 x.ver, sb x.val, .bool x.there]) := by rw [Int.toNat_natCast, List.getElem?_map, hx]; rfl
   obtain ⟨q1, q2⟩ := hkr x (List.mem_of_getElem? hx)
   by_cases hc : x.key.length + x.val.length ≤ 60
   ·skip
    refine aw_seq ?_
    refine aw_seq ?_
    refine aw_region ?_
    refine st_p (mv rfl) rfl ?_
    refine st_p (op_fieldAddr Try.underlying26 rfl z23 (by decide) rfl) rfl ?_
    refine st_p (op_load1 Try.underlying23 rfl rfl rfl rfl rfl) rfl ?_
    refine st_p (op_len Try.underlying23 rfl) rfl ?_
    refine st_p (OpP.conv (op_lt rfl rfl) (yes (by first | assumption | omega))) rfl ?_
    refine al_nil ?_
    refine nm ?_
    refine aw_yes (rfl) ?_
    refine aw_skip ?_
    refine nm ?_
    refine aw_seq ?_
    refine aw_block ?_
    refine aw_seq ?_
    refine dr_go ?_
    refine dr_f 0 0 [1] rfl (fun H => op_fieldAddr Try.underlying26 rfl z23 (by decide) rfl) ?_
    refine dr_q 0 0 [12] rfl (op_load1 Try.underlying23 rfl rfl rfl rfl rfl) ?_
    refine dr_f 0 0 [3] rfl (fun H => mv rfl) ?_
    refine dr_q 0 0 [13, 14] rfl (op_indexAddrL Try.underlying23 z67 rfl rfl (by omega) (by first | assumption | rfl)) ?_
    refine dr_f 0 0 [15] rfl (fun H => op_fieldAddrL Try.underlying67 rfl z9 (by decide) rfl) ?_
    refine dr_q 0 0 [16] rfl (op_load1L Try.underlying9 rfl rfl rfl) ?_
    refine dr_f 0 0 [17] rfl (fun H => op_lens Try.underlying9 rfl) ?_
    refine dr_f 0 0 [1] rfl (fun H => op_fieldAddr Try.underlying26 rfl z23 (by decide) rfl) ?_
    refine dr_q 0 0 [19] rfl (op_load1 Try.underlying23 rfl rfl rfl rfl rfl) ?_
    refine dr_f 0 0 [3] rfl (fun H => mv rfl) ?_
    refine dr_q 0 0 [20, 21] rfl (op_indexAddrL Try.underlying23 z67 rfl rfl (by omega) (by first | assumption | rfl)) ?_
    refine dr_f 0 0 [22] rfl (fun H => op_fieldAddrL Try.underlying67 rfl z9 (by decide) rfl) ?_
    refine dr_q 0 0 [23] rfl (op_load1L Try.underlying9 rfl rfl rfl) ?_
    refine dr_f 0 0 [24] rfl (fun H => op_lens Try.underlying9 rfl) ?_
    refine dr_f 0 0 [18, 25] rfl (fun H => op_addi rfl rfl (by omega)) ?_
    refine dr_f 0 0 [26] rfl (fun H => OpP.conv (op_gt rfl rfl) (no (by first | assumption | omega))) ?_
    refine dr_end [] (by kernel_rfl) (by kernel_rfl) (by kernel_rfl) (by kernel_rfl) trivial ?_
    refine nm ?_
    refine aw_no (rfl) ?_
    refine aw_skip ?_
    refine nmb ?_
    refine nm ?_
    refine aw_region ?_
    refine st_p (mv rfl) rfl ?_
    refine st_p (op_addi rfl rfl (by omega)) rfl ?_
    refine st_p (mva rfl) rfl ?_
    refine al_nil ?_
    refine nm ?_
    exact ⟨⟨i + 1, hlt, by rw [List.take_add_one, hx, List.all_append, ha]; simp [hc]⟩, by dsimp only; omega, le_to [] rfl rfl rfl rfl rfl ⟨rfl, rfl, trivial⟩ ⟨rfl, trivial⟩⟩
   ·have hno : rl.all (fun r => decide (r.key.length + r.val.length ≤ 60)) = false := by
     rw [List.all_eq_false]; exact ⟨x, List.mem_of_getElem? hx, by simp [hc]⟩
    refine aw_seq ?_
    refine aw_seq ?_
    refine aw_region ?_
    refine st_p (mv rfl) rfl ?_
    refine st_p (op_fieldAddr Try.underlying26 rfl z23 (by decide) rfl) rfl ?_
    refine st_p (op_load1 Try.underlying23 rfl rfl rfl rfl rfl) rfl ?_
    refine st_p (op_len Try.underlying23 rfl) rfl ?_
    refine st_p (OpP.conv (op_lt rfl rfl) (yes (by first | assumption | omega))) rfl ?_
    refine al_nil ?_
    refine nm ?_
    refine aw_yes (rfl) ?_
    refine aw_skip ?_
    refine nm ?_
    refine aw_seq ?_
    refine aw_block ?_
    refine aw_seq ?_
    refine dr_go ?_
    refine dr_f 0 0 [1] rfl (fun H => op_fieldAddr Try.underlying26 rfl z23 (by decide) rfl) ?_
    refine dr_q 0 0 [12] rfl (op_load1 Try.underlying23 rfl rfl rfl rfl rfl) ?_
    refine dr_f 0 0 [3] rfl (fun H => mv rfl) ?_
    refine dr_q 0 0 [13, 14] rfl (op_indexAddrL Try.underlying23 z67 rfl rfl (by omega) (by first | assumption | rfl)) ?_
    refine dr_f 0 0 [15] rfl (fun H => op_fieldAddrL Try.underlying67 rfl z9 (by decide) rfl) ?_
    refine dr_q 0 0 [16] rfl (op_load1L Try.underlying9 rfl rfl rfl) ?_
    refine dr_f 0 0 [17] rfl (fun H => op_lens Try.underlying9 rfl) ?_
    refine dr_f 0 0 [1] rfl (fun H => op_fieldAddr Try.underlying26 rfl z23 (by decide) rfl) ?_
    refine dr_q 0 0 [19] rfl (op_load1 Try.underlying23 rfl rfl rfl rfl rfl) ?_
    refine dr_f 0 0 [3] rfl (fun H => mv rfl) ?_
    refine dr_q 0 0 [20, 21] rfl (op_indexAddrL Try.underlying23 z67 rfl rfl (by omega) (by first | assumption | rfl)) ?_
    refine dr_f 0 0 [22] rfl (fun H => op_fieldAddrL Try.underlying67 rfl z9 (by decide) rfl) ?_
    refine dr_q 0 0 [23] rfl (op_load1L Try.underlying9 rfl rfl rfl) ?_
    refine dr_f 0 0 [24] rfl (fun H => op_lens Try.underlying9 rfl) ?_
    refine dr_f 0 0 [18, 25] rfl (fun H => op_addi rfl rfl (by omega)) ?_
    refine dr_f 0 0 [26] rfl (fun H => OpP.conv (op_gt rfl rfl) (yes (by first | assumption | omega))) ?_
    refine dr_end [] (by kernel_rfl) (by kernel_rfl) (by kernel_rfl) (by kernel_rfl) trivial ?_
    refine nm ?_
    refine aw_yes (rfl) ?_
    refine aw_seq ?_
    refine aw_region ?_
    refine st_p (mva rfl) rfl ?_
    refine al_nil ?_
    refine nm ?_
    refine aw_ret ?_
    refine rb ?_
    refine rs ?_
    refine rs ?_
    refine rb ?_
    refine rs ?_
    exact ret_a ⟨[(2, .bool false)], [], 0⟩ (le_to [] rfl rfl rfl rfl rfl ⟨rfl, trivial⟩ trivial) (res1 Try.results7) (.inr ⟨rfl, rfl⟩) ⟨by rw [hno]; rfl, rfl, rfl⟩
  ·rw [List.take_of_length_le (by omega)] at ha
   rw [ha]
   refine aw_seq ?_
   refine aw_seq ?_
   refine aw_region ?_
   refine st_p (mv rfl) rfl ?_
   refine st_p (op_fieldAddr Try.underlying26 rfl z23 (by decide) rfl) rfl ?_
   refine st_p (op_load1 Try.underlying23 rfl rfl rfl rfl rfl) rfl ?_
   refine st_p (op_len Try.underlying23 rfl) rfl ?_
   refine st_p (OpP.conv (op_lt rfl rfl) (no (by first | assumption | omega))) rfl ?_
   refine al_nil ?_
   refine nm ?_
   refine aw_no (rfl) ?_
   refine aw_exit ?_
   refine xs ?_
   refine xs ?_
   refine xb ?_
   refine nm ?_
   refine aw_seq ?_
   refine aw_seq ?_
   refine aw_region ?_
   refine st_p (mva rfl) rfl ?_
   refine al_nil ?_
   refine nm ?_
   refine aw_block ?_
   refine aw_loop (fun i : {i : Nat // i ≤ wl.length ∧ (wl.take i).all (fun r => decide (r.key.length + r.val.length ≤ 60)) = true} => ⟨[(1, .ptr 0 0 0), (4, .int .i64 i.1)], [(0, .cells 4 [.agg [.int .i64 ses, .int .i64 seq, .sl 4 (rl.map rdA), .sl 3 (wl.map wrA)]])], 1⟩) (fun i => wl.length - i.1) ⟨0, Nat.zero_le _, rfl⟩ ?_ ?_
   ·exact le_to [] rfl rfl rfl rfl rfl ⟨rfl, rfl, trivial⟩ ⟨rfl, trivial⟩
   ·rintro ⟨i, hi, hb⟩
    dsimp only
    by_cases hlt : i < wl.length
    ·obtain ⟨x, hx⟩ : ∃ x, wl[i]? = some x := ⟨_, List.getElem?_eq_getElem hlt⟩
     have hxb : (wl.map wrA)[((i : Nat) : Int).toNat]? = some (.agg [sb x.key, sb x.val, .bool x.gone]) := by rw [Int.toNat_natCast, List.getElem?_map, hx]; rfl
     obtain ⟨q1, q2⟩ := hkw x (List.mem_of_getElem? hx)
     by_cases hc : x.key.length + x.val.length ≤ 60
     ·skip
      refine aw_seq ?_
      refine aw_seq ?_
      refine aw_region ?_
      refine st_p (mv rfl) rfl ?_
      refine st_p (op_fieldAddr Try.underlying26 rfl z24 (by decide) rfl) rfl ?_
      refine st_p (op_load1 Try.underlying24 rfl rfl rfl rfl rfl) rfl ?_
      refine st_p (op_len Try.underlying24 rfl) rfl ?_
      refine st_p (OpP.conv (op_lt rfl rfl) (yes (by first | assumption | omega))) rfl ?_
      refine al_nil ?_
      refine nm ?_
      refine aw_yes (rfl) ?_
      refine aw_skip ?_
      refine nm ?_
      refine aw_seq ?_
      refine aw_block ?_
      refine aw_seq ?_
      refine dr_go ?_
      refine dr_f 0 0 [1] rfl (fun H => op_fieldAddr Try.underlying26 rfl z24 (by decide) rfl) ?_
      refine dr_q 0 0 [35] rfl (op_load1 Try.underlying24 rfl rfl rfl rfl rfl) ?_
      refine dr_f 0 0 [4] rfl (fun H => mv rfl) ?_
      refine dr_q 0 0 [36, 37] rfl (op_indexAddrL Try.underlying24 z65 rfl rfl (by omega) (by first | assumption | rfl)) ?_
      refine dr_f 0 0 [38] rfl (fun H => op_fieldAddrL Try.underlying65 rfl z9 (by decide) rfl) ?_
      refine dr_q 0 0 [39] rfl (op_load1L Try.underlying9 rfl rfl rfl) ?_
      refine dr_f 0 0 [40] rfl (fun H => op_lens Try.underlying9 rfl) ?_
      refine dr_f 0 0 [1] rfl (fun H => op_fieldAddr Try.underlying26 rfl z24 (by decide) rfl) ?_
      refine dr_q 0 0 [42] rfl (op_load1 Try.underlying24 rfl rfl rfl rfl rfl) ?_
      refine dr_f 0 0 [4] rfl (fun H => mv rfl) ?_
      refine dr_q 0 0 [43, 44] rfl (op_indexAddrL Try.underlying24 z65 rfl rfl (by omega) (by first | assumption | rfl)) ?_
      refine dr_f 0 0 [45] rfl (fun H => op_fieldAddrL Try.underlying65 rfl z9 (by decide) rfl) ?_
      refine dr_q 0 0 [46] rfl (op_load1L Try.underlying9 rfl rfl rfl) ?_
      refine dr_f 0 0 [47] rfl (fun H => op_lens Try.underlying9 rfl) ?_
      refine dr_f 0 0 [41, 48] rfl (fun H => op_addi rfl rfl (by omega)) ?_
      refine dr_f 0 0 [49] rfl (fun H => OpP.conv (op_gt rfl rfl) (no (by first | assumption | omega))) ?_
      refine dr_end [] (by kernel_rfl) (by kernel_rfl) (by kernel_rfl) (by kernel_rfl) trivial ?_
      refine nm ?_
      refine aw_no (rfl) ?_
      refine aw_skip ?_
      refine nmb ?_
      refine nm ?_
      refine aw_region ?_
      refine st_p (mv rfl) rfl ?_
      refine st_p (op_addi rfl rfl (by omega)) rfl ?_
      refine st_p (mva rfl) rfl ?_
      refine al_nil ?_
      refine nm ?_
      exact ⟨⟨i + 1, hlt, by rw [List.take_add_one, hx, List.all_append, hb]; simp [hc]⟩, by dsimp only; omega, le_to [] rfl rfl rfl rfl rfl ⟨rfl, rfl, trivial⟩ ⟨rfl, trivial⟩⟩
     ·have hno : wl.all (fun r => decide (r.key.length + r.val.length ≤ 60)) = false := by
       rw [List.all_eq_false]; exact ⟨x, List.mem_of_getElem? hx, by simp [hc]⟩
      refine aw_seq ?_
      refine aw_seq ?_
      refine aw_region ?_
      refine st_p (mv rfl) rfl ?_
      refine st_p (op_fieldAddr Try.underlying26 rfl z24 (by decide) rfl) rfl ?_
      refine st_p (op_load1 Try.underlying24 rfl rfl rfl rfl rfl) rfl ?_
      refine st_p (op_len Try.underlying24 rfl) rfl ?_
      refine st_p (OpP.conv (op_lt rfl rfl) (yes (by first | assumption | omega))) rfl ?_
      refine al_nil ?_
      refine nm ?_
      refine aw_yes (rfl) ?_
      refine aw_skip ?_
      refine nm ?_
      refine aw_seq ?_
      refine aw_block ?_
      refine aw_seq ?_
      refine dr_go ?_
      refine dr_f 0 0 [1] rfl (fun H => op_fieldAddr Try.underlying26 rfl z24 (by decide) rfl) ?_
      refine dr_q 0 0 [35] rfl (op_load1 Try.underlying24 rfl rfl rfl rfl rfl) ?_
      refine dr_f 0 0 [4] rfl (fun H => mv rfl) ?_
      refine dr_q 0 0 [36, 37] rfl (op_indexAddrL Try.underlying24 z65 rfl rfl (by omega) (by first | assumption | rfl)) ?_
      refine dr_f 0 0 [38] rfl (fun H => op_fieldAddrL Try.underlying65 rfl z9 (by decide) rfl) ?_
      refine dr_q 0 0 [39] rfl (op_load1L Try.underlying9 rfl rfl rfl) ?_
      refine dr_f 0 0 [40] rfl (fun H => op_lens Try.underlying9 rfl) ?_
      refine dr_f 0 0 [1] rfl (fun H => op_fieldAddr Try.underlying26 rfl z24 (by decide) rfl) ?_
      refine dr_q 0 0 [42] rfl (op_load1 Try.underlying24 rfl rfl rfl rfl rfl) ?_
      refine dr_f 0 0 [4] rfl (fun H => mv rfl) ?_
      refine dr_q 0 0 [43, 44] rfl (op_indexAddrL Try.underlying24 z65 rfl rfl (by omega) (by first | assumption | rfl)) ?_
      refine dr_f 0 0 [45] rfl (fun H => op_fieldAddrL Try.underlying65 rfl z9 (by decide) rfl) ?_
      refine dr_q 0 0 [46] rfl (op_load1L Try.underlying9 rfl rfl rfl) ?_
      refine dr_f 0 0 [47] rfl (fun H => op_lens Try.underlying9 rfl) ?_
      refine dr_f 0 0 [41, 48] rfl (fun H => op_addi rfl rfl (by omega)) ?_
      refine dr_f 0 0 [49] rfl (fun H => OpP.conv (op_gt rfl rfl) (yes (by first | assumption | omega))) ?_
      refine dr_end [] (by kernel_rfl) (by kernel_rfl) (by kernel_rfl) (by kernel_rfl) trivial ?_
      refine nm ?_
      refine aw_yes (rfl) ?_
      refine aw_seq ?_
      refine aw_region ?_
      refine st_p (mva rfl) rfl ?_
      refine al_nil ?_
      refine nm ?_
      refine aw_ret ?_
      refine rb ?_
      refine rs ?_
      refine rs ?_
      refine rb ?_
      refine rs ?_
      exact ret_a ⟨[(2, .bool false)], [], 0⟩ (le_to [] rfl rfl rfl rfl rfl ⟨rfl, trivial⟩ trivial) (res1 Try.results7) (.inr ⟨rfl, rfl⟩) ⟨by rw [hno]; rfl, rfl, rfl⟩
    ·rw [List.take_of_length_le (by omega)] at hb
     rw [hb]
     by_cases h8 : rl.length ≤ 8
     ·by_cases w8 : wl.length ≤ 8
      ·skip
       refine aw_seq ?_
       refine aw_seq ?_
       refine aw_region ?_
       refine st_p (mv rfl) rfl ?_
       refine st_p (op_fieldAddr Try.underlying26 rfl z24 (by decide) rfl) rfl ?_
       refine st_p (op_load1 Try.underlying24 rfl rfl rfl rfl rfl) rfl ?_
       refine st_p (op_len Try.underlying24 rfl) rfl ?_
       refine st_p (OpP.conv (op_lt rfl rfl) (no (by first | assumption | omega))) rfl ?_
       refine al_nil ?_
       refine nm ?_
       refine aw_no (rfl) ?_
       refine aw_exit ?_
       refine xs ?_
       refine xs ?_
       refine xb ?_
       refine nm ?_
       refine aw_seq ?_
       refine aw_region ?_
       refine st_p (op_fieldAddr Try.underlying26 rfl z23 (by decide) rfl) rfl ?_
       refine st_p (op_load1 Try.underlying23 rfl rfl rfl rfl rfl) rfl ?_
       refine st_p (op_len Try.underlying23 rfl) rfl ?_
       refine st_p (OpP.conv (op_le rfl rfl) (yes (by first | assumption | omega))) rfl ?_
       refine st_p (mv rfl) rfl ?_
       refine st_pg rfl rfl rfl (op_fieldAddr Try.underlying26 rfl z24 (by decide) rfl) rfl ?_
       refine st_pg rfl rfl rfl (op_load1 Try.underlying24 rfl rfl rfl rfl rfl) rfl ?_
       refine st_pg rfl rfl rfl (op_len Try.underlying24 rfl) rfl ?_
       refine st_pg rfl rfl rfl (OpP.conv (op_le rfl rfl) (yes (by first | assumption | omega))) rfl ?_
       refine st_p (pkT rfl rfl) rfl ?_
       refine st_p (mva rfl) rfl ?_
       refine al_nil ?_
       refine nm ?_
       refine aw_ret ?_
       exact ret_a ⟨[(2, .bool true)], [], 0⟩ (le_to [] rfl rfl rfl rfl rfl ⟨rfl, trivial⟩ trivial) (res1 Try.results7) (.inr ⟨rfl, rfl⟩) ⟨by rw [decide_eq_true h8, decide_eq_true w8]; rfl, rfl, rfl⟩
      ·skip
       refine aw_seq ?_
       refine aw_seq ?_
       refine aw_region ?_
       refine st_p (mv rfl) rfl ?_
       refine st_p (op_fieldAddr Try.underlying26 rfl z24 (by decide) rfl) rfl ?_
       refine st_p (op_load1 Try.underlying24 rfl rfl rfl rfl rfl) rfl ?_
       refine st_p (op_len Try.underlying24 rfl) rfl ?_
       refine st_p (OpP.conv (op_lt rfl rfl) (no (by first | assumption | omega))) rfl ?_
       refine al_nil ?_
       refine nm ?_
       refine aw_no (rfl) ?_
       refine aw_exit ?_
       refine xs ?_
       refine xs ?_
       refine xb ?_
       refine nm ?_
       refine aw_seq ?_
       refine aw_region ?_
       refine st_p (op_fieldAddr Try.underlying26 rfl z23 (by decide) rfl) rfl ?_
       refine st_p (op_load1 Try.underlying23 rfl rfl rfl rfl rfl) rfl ?_
       refine st_p (op_len Try.underlying23 rfl) rfl ?_
       refine st_p (OpP.conv (op_le rfl rfl) (yes (by first | assumption | omega))) rfl ?_
       refine st_p (mv rfl) rfl ?_
       refine st_pg rfl rfl rfl (op_fieldAddr Try.underlying26 rfl z24 (by decide) rfl) rfl ?_
       refine st_pg rfl rfl rfl (op_load1 Try.underlying24 rfl rfl rfl rfl rfl) rfl ?_
       refine st_pg rfl rfl rfl (op_len Try.underlying24 rfl) rfl ?_
       refine st_pg rfl rfl rfl (OpP.conv (op_le rfl rfl) (no (by first | assumption | omega))) rfl ?_
       refine st_p (pkT rfl rfl) rfl ?_
       refine st_p (mva rfl) rfl ?_
       refine al_nil ?_
       refine nm ?_
       refine aw_ret ?_
       exact ret_a ⟨[(2, .bool false)], [], 0⟩ (le_to [] rfl rfl rfl rfl rfl ⟨rfl, trivial⟩ trivial) (res1 Try.results7) (.inr ⟨rfl, rfl⟩) ⟨by rw [decide_eq_true h8, decide_eq_false w8]; rfl, rfl, rfl⟩
     ·skip
      refine aw_seq ?_
      refine aw_seq ?_
      refine aw_region ?_
      refine st_p (mv rfl) rfl ?_
      refine st_p (op_fieldAddr Try.underlying26 rfl z24 (by decide) rfl) rfl ?_
      refine st_p (op_load1 Try.underlying24 rfl rfl rfl rfl rfl) rfl ?_
      refine st_p (op_len Try.underlying24 rfl) rfl ?_
      refine st_p (OpP.conv (op_lt rfl rfl) (no (by first | assumption | omega))) rfl ?_
      refine al_nil ?_
      refine nm ?_
      refine aw_no (rfl) ?_
      refine aw_exit ?_
      refine xs ?_
      refine xs ?_
      refine xb ?_
      refine nm ?_
      refine aw_seq ?_
      refine aw_region ?_
      refine st_p (op_fieldAddr Try.underlying26 rfl z23 (by decide) rfl) rfl ?_
      refine st_p (op_load1 Try.underlying23 rfl rfl rfl rfl rfl) rfl ?_
      refine st_p (op_len Try.underlying23 rfl) rfl ?_
      refine st_p (OpP.conv (op_le rfl rfl) (no (by first | assumption | omega))) rfl ?_
      refine st_p (mv rfl) rfl ?_
      refine st_s rfl rfl rfl rfl rfl ?_
      refine st_s rfl rfl rfl rfl rfl ?_
      refine st_s rfl rfl rfl rfl rfl ?_
      refine st_s rfl rfl rfl rfl rfl ?_
      refine st_p (pkF rfl rfl) rfl ?_
      refine st_p (mva rfl) rfl ?_
      refine al_nil ?_
      refine nm ?_
      refine aw_ret ?_
      exact ret_a ⟨[(2, .bool false)], [], 0⟩ (le_to [] rfl rfl rfl rfl rfl ⟨rfl, trivial⟩ trivial) (res1 Try.results7) (.inr ⟨rfl, rfl⟩) ⟨by rw [decide_eq_false h8]; rfl, rfl, rfl⟩

theorem roomL_len (b : List UInt8) : (roomL b).length = b.length + 6 := by simp [roomL]
theorem roomL_at {b : List UInt8} {j : Nat} (h1 : b.length ≤ j) (h2 : j < b.length + 6) : (roomL b)[j]? = some (padB j) := by
 unfold roomL
 rw [List.getElem?_append_right h1, List.getElem?_map, List.getElem?_range (by omega)]
 simp only [Option.map_some]
 rw [show b.length + (j - b.length) = j from by omega]
theorem roomL_take (b : List UInt8) : (roomL b).take b.length = b := by
 unfold roomL; rw [List.take_left]
theorem pad_int (i : Nat) : IntKind.u8.wrap (85 + (i : Int) % 5) = (((padB i).toNat : Nat) : Int) := by
 have h5 : i % 5 < 5 := Nat.mod_lt _ (by decide)
 unfold padB
 rw [u8_nat (by omega), show (85 : Int) + (i : Int) % 5 = ((85 + i % 5 : Nat) : Int) from by omega, wrap_u8]
 congr 1
 omega
theorem bl_get {l : List UInt8} {i : Nat} {c : UInt8} (h : l[i]? = some c) : (bl l)[i]? = some (.int .u8 (c.toNat : Int)) := by simp [bl, h]
theorem bl_set (l : List UInt8) (i : Nat) (c : UInt8) : (bl l).set i (.int .u8 (c.toNat : Int)) = bl (l.set i c) := by simp [bl, List.map_set]
theorem ren_blB (σ : Nat → Nat) (l : List UInt8) : (Blk.cells 1 (bl l)).ren σ = .cells 1 (bl l) := by simp only [Blk.ren, ren_bl]

theorem lent_bytes (b : List UInt8) (hb : b.length ≤ 100000) : AC Try.prog 20 [.sl 1 (bl b)] [] 0 false (fun v h nx => v = .own 0 0 b.length ∧ h = [(0, .cells 1 (bl (roomL b)))] ∧ nx = 1) := by
 have hbl := bl_len b
 have hns : ∀ l : List UInt8, (Blk.cells 1 (bl l)).nosl = true := fun l => by simp [Blk.nosl, AV.nosl, bl]
 refine ac_fn Try.func20 rfl rfl rfl rfl (fun w0 S0 r0 => ?_)
 refine aw_seq ?_
 refine aw_region ?_
 refine st_p (mva rfl) rfl ?_
 refine al_nil ?_
 refine nm ?_
 refine aw_seq ?_
 refine aw_region ?_
 refine st_p (mv rfl) rfl ?_
 refine st_p (op_len Try.underlying22 rfl) rfl ?_
 refine st_p (op_addi rfl rfl (by omega)) rfl ?_
 refine st_o (op_make Try.underlying22 i5 rfl rfl rfl (by decide) rfl rfl (by omega) (by omega) (by omega)) rfl ?_
 refine st_p (mva rfl) rfl ?_
 refine al_nil ?_
 refine nm ?_
 refine aw_seq ?_
 refine aw_seq ?_
 refine aw_region ?_
 refine st_p (mva rfl) rfl ?_
 refine al_nil ?_
 refine nm ?_
 refine aw_block ?_
 refine aw_loop (fun p : {p : Nat × List UInt8 // p.1 ≤ b.length + 6 ∧ p.2.length = b.length + 6 ∧ ∀ j, j < p.1 → p.2[j]? = some (padB j)} => ⟨[(0, .sl 1 (bl b)), (3, .own 0 0 (b.length + 6)), (4, .int .i64 p.1.1)], [(0, .cells 1 (bl p.1.2))], 1⟩) (fun p => b.length + 6 - p.1.1) ⟨(0, List.replicate (b.length + 6) 0), Nat.zero_le _, List.length_replicate, fun j hj => absurd hj (Nat.not_lt_zero _)⟩ ?_ ?_
 ·have e : (((bl b).length : Nat) + 6 : Int).toNat = b.length + 6 := by omega
  refine le_to [] rfl rfl rfl rfl rfl ⟨rfl, congrArg (AV.own 0 0) e, rfl, trivial⟩ ⟨?_, trivial⟩
  rw [ren_blB]
  show some (Blk.cells 1 (List.replicate (((bl b).length : Nat) + 6 : Int).toNat (.int .u8 0))) = _
  rw [e]
  simp [bl]
 ·rintro ⟨⟨i, d⟩, h1, h2, h3⟩
  dsimp only at h1 h2 h3 ⊢
  have hdl := bl_len d
  by_cases hlt : i < b.length + 6
  ·obtain ⟨c, hc⟩ : ∃ c, d[i]? = some c := ⟨_, List.getElem?_eq_getElem (by omega)⟩
   have hcb : (bl d)[0 + ((i : Nat) : Int).toNat]? = some (.int .u8 (c.toNat : Int)) := by rw [Nat.zero_add, Int.toNat_natCast]; exact bl_get hc
   refine aw_seq ?_
   refine aw_seq ?_
   refine aw_region ?_
   refine st_p (mv rfl) rfl ?_
   refine st_p (mv rfl) rfl ?_
   refine st_p (op_leno Try.underlying22 rfl) rfl ?_
   refine st_p (OpP.conv (op_lt rfl rfl) (yes (by first | assumption | omega))) rfl ?_
   refine al_nil ?_
   refine nm ?_
   refine aw_yes (rfl) ?_
   refine aw_skip ?_
   refine nm ?_
   refine aw_seq ?_
   refine aw_block ?_
   refine aw_region ?_
   refine st_p (mv rfl) rfl ?_
   refine st_p (mv rfl) rfl ?_
   refine st_p (mv rfl) rfl ?_
   refine st_p (op_remi rfl rfl (by omega) (by omega)) rfl ?_
   refine st_p (op_addi rfl rfl (by omega)) rfl ?_
   refine st_p (op_conv (by rw [Try.underlying3]; rfl) Try.underlying5 rfl) rfl ?_
   refine st_p (op_indexAddr Try.underlying22 z5 rfl rfl rfl (by omega) (by omega)) rfl ?_
   refine st_n (st1s z5 rfl rfl rfl (by assumption) rfl rfl rfl) ?_
   refine al_nil ?_
   refine nmb ?_
   refine nm ?_
   refine aw_region ?_
   refine st_p (mv rfl) rfl ?_
   refine st_p (op_addi rfl rfl (by omega)) rfl ?_
   refine st_p (mva rfl) rfl ?_
   refine al_nil ?_
   refine nm ?_
   refine ⟨⟨(i + 1, d.set i (padB i)), by dsimp only; exact ⟨hlt, by rw [List.length_set]; exact h2, fun j hj => by
    by_cases e : i = j
    ·subst e; rw [List.getElem?_set_self (by omega)]
    ·rw [List.getElem?_set_ne e]; exact h3 j (by omega)⟩⟩, by dsimp only; omega, le_to [] rfl rfl rfl rfl rfl ⟨rfl, rfl, rfl, trivial⟩ ⟨?_, trivial⟩⟩
   rw [ren_blB, ← bl_set, ← pad_int]
   show some (Blk.cells 1 ((bl d).set (0 + ((i : Nat) : Int).toNat) _)) = _
   rw [Nat.zero_add, Int.toNat_natCast]
  ·skip
   refine aw_seq ?_
   refine aw_seq ?_
   refine aw_region ?_
   refine st_p (mv rfl) rfl ?_
   refine st_p (mv rfl) rfl ?_
   refine st_p (op_leno Try.underlying22 rfl) rfl ?_
   refine st_p (OpP.conv (op_lt rfl rfl) (no (by first | assumption | omega))) rfl ?_
   refine al_nil ?_
   refine nm ?_
   refine aw_no (rfl) ?_
   refine aw_exit ?_
   refine xs ?_
   refine xs ?_
   refine xb ?_
   refine nm ?_
   refine aw_seq ?_
   refine aw_seq ?_
   refine aw_region ?_
   refine st_p (mva rfl) rfl ?_
   refine al_nil ?_
   refine nm ?_
   refine aw_block ?_
   refine aw_loop (fun p : {p : Nat × List UInt8 // p.1 ≤ b.length ∧ p.2.length = b.length + 6 ∧ (∀ j, j < p.1 → p.2[j]? = b[j]?) ∧ ∀ j, p.1 ≤ j → j < b.length + 6 → p.2[j]? = some (padB j)} => ⟨[(0, .sl 1 (bl b)), (3, .own 0 0 (b.length + 6)), (5, .int .i64 p.1.1)], [(0, .cells 1 (bl p.1.2))], 1⟩) (fun p => b.length - p.1.1) ⟨(0, d), Nat.zero_le _, h2, fun j hj => absurd hj (Nat.not_lt_zero _), fun j _ hj => h3 j (by omega)⟩ ?_ ?_
   ·exact le_to [] rfl rfl rfl rfl rfl ⟨rfl, rfl, rfl, trivial⟩ ⟨by rw [ren_blB]; rfl, trivial⟩
   ·rintro ⟨⟨k, e⟩, k1, k2, k3, k4⟩
    dsimp only at k1 k2 k3 k4 ⊢
    have hel := bl_len e
    by_cases hlt : k < b.length
    ·obtain ⟨c, hc⟩ : ∃ c, b[k]? = some c := ⟨_, List.getElem?_eq_getElem hlt⟩
     have hcb : (bl b)[((k : Nat) : Int).toNat]? = some (.int .u8 (c.toNat : Int)) := by rw [Int.toNat_natCast]; exact bl_get hc
     obtain ⟨c2, hc2⟩ : ∃ c, e[k]? = some c := ⟨_, List.getElem?_eq_getElem (by omega)⟩
     have hcb2 : (bl e)[0 + ((k : Nat) : Int).toNat]? = some (.int .u8 (c2.toNat : Int)) := by rw [Nat.zero_add, Int.toNat_natCast]; exact bl_get hc2
     refine aw_seq ?_
     refine aw_seq ?_
     refine aw_region ?_
     refine st_p (mv rfl) rfl ?_
     refine st_p (mv rfl) rfl ?_
     refine st_p (op_len Try.underlying22 rfl) rfl ?_
     refine st_p (OpP.conv (op_lt rfl rfl) (yes (by first | assumption | omega))) rfl ?_
     refine al_nil ?_
     refine nm ?_
     refine aw_yes (rfl) ?_
     refine aw_skip ?_
     refine nm ?_
     refine aw_seq ?_
     refine aw_block ?_
     refine aw_region ?_
     refine st_p (mv rfl) rfl ?_
     refine st_p (mv rfl) rfl ?_
     refine st_p (mv rfl) rfl ?_
     refine st_p (mv rfl) rfl ?_
     refine st_p (op_indexAddrL Try.underlying22 z5 rfl rfl (by omega) (by first | assumption | rfl)) rfl ?_
     refine st_p (op_load1L Try.underlying5 rfl rfl rfl) rfl ?_
     refine st_p (op_indexAddr Try.underlying22 z5 rfl rfl rfl (by omega) (by omega)) rfl ?_
     refine st_n (st1s z5 rfl rfl rfl (by assumption) rfl rfl rfl) ?_
     refine al_nil ?_
     refine nmb ?_
     refine nm ?_
     refine aw_region ?_
     refine st_p (mv rfl) rfl ?_
     refine st_p (op_addi rfl rfl (by omega)) rfl ?_
     refine st_p (mva rfl) rfl ?_
     refine al_nil ?_
     refine nm ?_
     refine ⟨⟨(k + 1, e.set k c), by dsimp only; exact ⟨hlt, by rw [List.length_set]; exact k2, fun j hj => by
      by_cases q : k = j
      ·subst q; rw [List.getElem?_set_self (by omega), hc]
      ·rw [List.getElem?_set_ne q]; exact k3 j (by omega), fun j hj hj2 => by
      rw [List.getElem?_set_ne (by omega)]; exact k4 j (by omega) hj2⟩⟩, by dsimp only; omega, le_to [] rfl rfl rfl rfl rfl ⟨rfl, rfl, rfl, trivial⟩ ⟨?_, trivial⟩⟩
     rw [ren_blB, ← bl_set]
     show some (Blk.cells 1 ((bl e).set (0 + ((k : Nat) : Int).toNat) _)) = _
     rw [Nat.zero_add, Int.toNat_natCast]
    ·have he : e = roomL b := by
      refine List.ext_getElem? fun j => ?_
      by_cases hj : j < b.length
      ·rw [k3 j (by omega)]
       unfold roomL
       rw [List.getElem?_append_left hj]
      ·by_cases hj6 : j < b.length + 6
       ·rw [k4 j (by omega) hj6, roomL_at (by omega) hj6]
       ·rw [List.getElem?_eq_none (by omega), List.getElem?_eq_none (by rw [roomL_len]; omega)]
     subst he
     refine aw_seq ?_
     refine aw_seq ?_
     refine aw_region ?_
     refine st_p (mv rfl) rfl ?_
     refine st_p (mv rfl) rfl ?_
     refine st_p (op_len Try.underlying22 rfl) rfl ?_
     refine st_p (OpP.conv (op_lt rfl rfl) (no (by first | assumption | omega))) rfl ?_
     refine al_nil ?_
     refine nm ?_
     refine aw_no (rfl) ?_
     refine aw_exit ?_
     refine xs ?_
     refine xs ?_
     refine xb ?_
     refine nm ?_
     refine aw_seq ?_
     refine aw_region ?_
     refine st_p (mv rfl) rfl ?_
     refine st_p (mv rfl) rfl ?_
     refine st_p (op_len Try.underlying22 rfl) rfl ?_
     refine st_p (op_slice Try.underlying22 z5 rfl rfl (by exact rfl) (by exact ⟨_, rfl⟩) (by first | omega | (simp only [bl_len, List.length_map, List.length_append, List.length_take, List.length_drop]; omega)) (by first | omega | (simp only [bl_len, List.length_map, List.length_append, List.length_take, List.length_drop]; omega)) (by first | omega | (simp only [bl_len, List.length_map, List.length_append, List.length_take, List.length_drop]; omega))) rfl ?_
     refine st_p (mva rfl) rfl ?_
     refine al_nil ?_
     refine nm ?_
     refine aw_ret ?_
     refine ret_a ⟨[(2, .own 0 0 b.length)], [(0, .cells 1 (bl (roomL b)))], 1⟩ (le_to [] rfl rfl rfl rfl rfl ⟨?_, trivial⟩ ⟨by rw [ren_blB]; rfl, trivial⟩) (res1 Try.results20) (.inr ⟨rfl, by simp only [List.all_cons, List.all_nil, hns, Bool.and_true]⟩) ⟨rfl, rfl, rfl⟩
     show AV.own 0 (0 + Int.toNat 0) ((((bl b).length : Nat) : Int).toNat - Int.toNat 0) = AV.own 0 0 b.length
     rw [hbl]; simp

end Go.Proofs.Ytpggknkhldecaaa.Abs
end
section
namespace Go.Proofs.Ytpggknkhldecaaa.Abs

def OpC (P : Program) (c : Ctx) (n : Nat) (op : Op) (st : St) (v : AV) (h' : Heap) (nx' : Nat) : Prop :=
 ∀ (ρ : Rho) (S : Nat → Prop) (a : Act) (w : World), Rep c n st ρ S a w → ∀ o : Oper, o.op = op → Does P o a w fun u w' => ∃ ρ' S', Rep c n ⟨st.tm, h', nx'⟩ ρ' S' a w' ∧ VR S' w' ρ' v u

def capR (r0 : Rho) (b : Nat) : Nat := match r0 b with | some r => r.cap | none => 0

section
variable {P : Program} {n : Nat} {w0 : World} {o0 : Nat → Prop} {S0 : Nat → Prop} {r0 : Rho} {nx0 : Nat} {Q : Exit → St → Prop}

theorem capR_of {st : St} {ρ : Rho} {S : Nat → Prop} {a : Act} {w : World} (hr : Rep ⟨w0, o0, S0, r0, nx0⟩ n st ρ S a w) {b : Nat} {r : R} (hb : b < nx0) (hq : ρ b = some r) : capR r0 b = r.cap := by
 have := hr.post.ids b hb
 unfold capR
 rw [show r0 b = some r from this.symm.trans hq]

theorem opc_cap {tm : List (Nat × AV)} {h : Heap} {nx : Nat} {t e : TypeId} {x : Operand} {b st len : Nat} (hu : P.underlying t = some (.slice e)) (hx : oev tm x = .own b st len) (hl : 0 < len) (hb : b < nx0) :
  OpC P ⟨w0, o0, S0, r0, nx0⟩ n (.call { callee := .builtin .cap, args := #[x], argTypes := #[t] }) ⟨tm, h, nx⟩ (.int .i64 ((capR r0 b - st : Nat) : Int)) h nx := fun ρ S a w hr o ho => by
 have hv := ev_vr hr hx
 generalize he : a.eval x = v at hv
 cases hv with
 | own0 => omega
 | @own _ _ _ _ r c q1 q2 q3 =>
  have hc : capR r0 b - st = c := by rw [capR_of hr hb q1]; omega
  have hrun : (execOp a.eval o).run P w = .ok (.value (.int .i64 (c : Int))) w := by
   unfold execOp; rw [ho]; simp [resolve, invoke, builtin, he, Builtin.cap_, run_underlying hu, goInt]
  unfold Does
  rw [hrun, hc]
  exact ⟨ρ, S, hr, .int⟩

end

end Go.Proofs.Ytpggknkhldecaaa.Abs
end
section
namespace Go.Proofs.Ytpggknkhldecaaa.Abs

section
variable {P : Program} {tm : List (Nat × AV)} {h : Heap} {nx : Nat}

theorem op_sliceC {t e : TypeId} {x : Operand} {lo hi : Option Operand} {sz b st len : Nat} {xs : List AV} {l m : Int} (hu : P.underlying t = some (.slice e)) (hz : (P.info? e).map (·.size) = some sz) (hx : oev tm x = .own b st len) (hb : hget h b = some (.cells sz xs)) (hl : Bd tm lo 0 l) (hm : Bd tm hi len m) (h0 : 0 ≤ l) (h1 : l ≤ m)
  (hpos : 0 < len) (h2 : (st : Int) + m ≤ xs.length) : OpP P (.slice t x lo hi none) tm h (.own b (st + l.toNat) (m.toNat - l.toNat)) := fun c n nx ρ S a w hr => by
 have hv := ev_vr hr hx
 generalize he : a.eval x = v at hv
 have key : ∀ (A : Option Addr) (cp : Nat), a.eval x = .slice A len cp → m ≤ cp → ∀ o : Oper, o.op = .slice t x lo hi none → (execOp a.eval o).run P w = .ok (.value (.slice (if cp = l.toNat then A else A.map (·.add (l.toNat * sz))) (m.toNat - l.toNat) (cp - l.toNat))) w := by
  intro A cp hA hcp o ho
  have hb := run_bounds (P := P) (isSlice := true) (len := len) (cap := cp) (bd_eval hr hl) (bd_eval hr hm) h0 h1 hcp w
  unfold execOp; rw [ho]
  simp only [Instr.sliceAt, Sem.run_bind, run_underlying hu, Result.andThen_ok, Instr.slice, hA, hb, run_sizeOf hz, Sem.run_pure, Option.map_none]
 cases hv with
 | own0 => omega
 | @own _ _ _ _ r cp q1 q2 q3 =>
  obtain ⟨_, _, k1, k2, k3, _⟩ := blk_of hr hb q1
  refine ⟨_, key _ _ he (by omega), ?_⟩
  by_cases h3 : cp = l.toNat
  ·have e0 : m.toNat - l.toNat = 0 := by omega
   rw [if_pos h3, e0, h3, Nat.sub_self]
   exact .own0
  ·rw [if_neg h3, Option.map_some, Addr.add_lit]
   have := VR.own (S := S) (w := w) (ρ := ρ) (b := b) (st := st + l.toNat) (len := m.toNat - l.toNat) (c := cp - l.toNat) q1 (by omega) (by omega)
   rw [Nat.add_mul, k1] at this
   rw [k1]
   exact this

end
end Go.Proofs.Ytpggknkhldecaaa.Abs
end
section
namespace Go.Proofs.Ytpggknkhldecaaa.Abs

section
variable {P : Program} {tm : List (Nat × AV)} {h : Heap} {nx : Nat}

theorem op_sliceZ {t e : TypeId} {x : Operand} {lo hi : Option Operand} {sz b st len : Nat} {xs : List AV} {l m : Int} (hu : P.underlying t = some (.slice e)) (hz : (P.info? e).map (·.size) = some sz) (hx : oev tm x = .own b st len) (hb : hget h b = some (.cells sz xs)) (hl : Bd tm lo 0 l) (hm : Bd tm hi len m) (h0 : l = 0) (h1 : m = 0)
  (hpos : 0 < len) : OpP P (.slice t x lo hi none) tm h (.ownz b st) := fun c n nx ρ S a w hr => by
 subst h0
 subst h1
 have hv := ev_vr hr hx
 generalize he : a.eval x = v at hv
 have key : ∀ (A : Option Addr) (cp : Nat), a.eval x = .slice A len cp → ∀ o : Oper, o.op = .slice t x lo hi none → (execOp a.eval o).run P w = .ok (.value (.slice (if cp = (0 : Int).toNat then A else A.map (·.add ((0 : Int).toNat * sz))) ((0 : Int).toNat - (0 : Int).toNat) (cp - (0 : Int).toNat))) w := by
  intro A cp hA o ho
  have hb := run_bounds (P := P) (isSlice := true) (len := len) (cap := cp) (bd_eval hr hl) (bd_eval hr hm) (Int.le_refl 0) (Int.le_refl 0) (by omega) w
  unfold execOp; rw [ho]
  simp only [Instr.sliceAt, Sem.run_bind, run_underlying hu, Result.andThen_ok, Instr.slice, hA, hb, run_sizeOf hz, Sem.run_pure, Option.map_none]
 cases hv with
 | own0 => omega
 | @own _ _ _ _ r cp q1 q2 q3 =>
  refine ⟨_, key _ _ he, ?_⟩
  rw [if_neg (by simp; omega), Option.map_some, Addr.add_lit]
  have := VR.ownz (S := S) (w := w) (ρ := ρ) (b := b) (st := st) (c := cp) q1 q3
  simpa using this

theorem op_sliceCZ {t e : TypeId} {x : Operand} {lo hi : Option Operand} {sz b st : Nat} {xs : List AV} {l m : Int} (hu : P.underlying t = some (.slice e)) (hz : (P.info? e).map (·.size) = some sz) (hx : oev tm x = .ownz b st) (hb : hget h b = some (.cells sz xs)) (hl : Bd tm lo 0 l) (hm : Bd tm hi 0 m) (h0 : l = 0) (h1 : 0 < m)
  (h2 : (st : Int) + m ≤ xs.length) : OpP P (.slice t x lo hi none) tm h (.own b st m.toNat) := fun c n nx ρ S a w hr => by
 subst h0
 have hv := ev_vr hr hx
 generalize he : a.eval x = v at hv
 have key : ∀ (A : Option Addr) (cp : Nat), a.eval x = .slice A 0 cp → m ≤ cp → ∀ o : Oper, o.op = .slice t x lo hi none → (execOp a.eval o).run P w = .ok (.value (.slice (if cp = (0 : Int).toNat then A else A.map (·.add ((0 : Int).toNat * sz))) (m.toNat - (0 : Int).toNat) (cp - (0 : Int).toNat))) w := by
  intro A cp hA hcp o ho
  have hb := run_bounds (P := P) (isSlice := true) (len := 0) (cap := cp) (bd_eval hr hl) (bd_eval hr hm) (Int.le_refl 0) (by omega) hcp w
  unfold execOp; rw [ho]
  simp only [Instr.sliceAt, Sem.run_bind, run_underlying hu, Result.andThen_ok, Instr.slice, hA, hb, run_sizeOf hz, Sem.run_pure, Option.map_none]
 cases hv with
 | @ownz _ _ _ r cp q1 q3 =>
  obtain ⟨_, _, k1, k2, k3, _⟩ := blk_of hr hb q1
  refine ⟨_, key _ _ he (by omega), ?_⟩
  rw [if_neg (by simp; omega), Option.map_some, Addr.add_lit]
  have := VR.own (S := S) (w := w) (ρ := ρ) (b := b) (st := st) (len := m.toNat) (c := cp) q1 (by omega) q3
  simpa using this

end

section
variable {P : Program} {n : Nat} {w0 : World} {o0 : Nat → Prop} {S0 : Nat → Prop} {r0 : Rho} {nx0 : Nat} {Q : Exit → St → Prop}

theorem opc_capZ {tm : List (Nat × AV)} {h : Heap} {nx : Nat} {t e : TypeId} {x : Operand} {b st : Nat} (hu : P.underlying t = some (.slice e)) (hx : oev tm x = .ownz b st) (hb : b < nx0) :
  OpC P ⟨w0, o0, S0, r0, nx0⟩ n (.call { callee := .builtin .cap, args := #[x], argTypes := #[t] }) ⟨tm, h, nx⟩ (.int .i64 ((capR r0 b - st : Nat) : Int)) h nx := fun ρ S a w hr o ho => by
 have hv := ev_vr hr hx
 generalize he : a.eval x = v at hv
 cases hv with
 | @ownz _ _ _ r c q1 q3 =>
  have hc : capR r0 b - st = c := by rw [capR_of hr hb q1]; omega
  have hrun : (execOp a.eval o).run P w = .ok (.value (.int .i64 (c : Int))) w := by
   unfold execOp; rw [ho]; simp [resolve, invoke, builtin, he, Builtin.cap_, run_underlying hu, goInt]
  unfold Does
  rw [hrun, hc]
  exact ⟨ρ, S, hr, .int⟩

theorem st_cg {c : Ctx} {ops : Array Oper} {tm : List (Nat × AV)} {hp : Heap} {nx : Nat} {d j d' : Nat} {b : Bool} {op : Op} {ty : TypeId} {pos : String} {after : Array Edge} {rst : List Oper} {v : AV} {h' : Heap} {nx' : Nat} (hj : (ops[j]?).bind (·.dst) = some d') (hdn : Nat.blt d' n = true) (hb : tget tm d' = .bool b)
  (h : OpC P c n op ⟨tm, hp, nx⟩ v h' nx') (hd : Nat.blt d n = true) (k : AL P c n ops Q rst ⟨(d, v) :: tm, h', nx'⟩) : AL P c n ops Q (⟨some d, op, ty, pos, after, some (j, b)⟩ :: rst) ⟨tm, hp, nx⟩ := fun ρ S a w hr => by
 unfold wpList
 rw [if_pos (by simp [Region.wanted, yielded_of hr hj (Nat.le_of_ble_eq_true hdn) hb])]
 refine .inl ((h ρ S a w hr _ rfl).wp fun u w' ⟨ρ', S', h3, h4⟩ => ?_)
 exact k ρ' S' _ w' (h3.putA (some d) (blt_of hd) h4)

theorem aw_capR {code : Code} {tm : List (Nat × AV)} {h : Heap} {nx : Nat} (b : Nat) {sz : Nat} {xs : List AV} (hb : hget h b = some (.cells sz xs)) (hbn : b < nx0) (hpos : 0 < xs.length) (k : xs.length ≤ capR r0 b → AW P ⟨w0, o0, S0, r0, nx0⟩ n code Q ⟨tm, h, nx⟩) : AW P ⟨w0, o0, S0, r0, nx0⟩ n code Q ⟨tm, h, nx⟩ := fun ρ S a w hr => by
 rcases hr.sim.blk b _ hb with ⟨r, h1, h2, _⟩ | ⟨_, sz', h2⟩
 ·have hc := capR_of hr hbn h1
  obtain ⟨_, _, k3, _⟩ := h2
  exact k (by rw [hc]; exact k3) ρ S a w hr
 ·simp only [Blk.cells.injEq] at h2
  rw [h2.2] at hpos
  exact absurd hpos (Nat.lt_irrefl 0)
end
theorem nb_same (B : Bool) : AV.bool (B != B) = .bool false := by cases B <;> rfl
theorem eb_same (B : Bool) : AV.bool (B == B) = .bool true := by cases B <;> rfl
end Go.Proofs.Ytpggknkhldecaaa.Abs
end
section
namespace Go.Proofs.Ytpggknkhldecaaa.Abs

theorem lent_none : AC Try.prog 20 [.sl 1 (bl [])] [] 0 false (fun v h nx => v = .ownz 0 0 ∧ h = [(0, .cells 1 (bl (roomL [])))] ∧ nx = 1) := by
 have hbl : (bl []).length = 0 := rfl
 have hns : ∀ l : List UInt8, (Blk.cells 1 (bl l)).nosl = true := fun l => by simp [Blk.nosl, AV.nosl, bl]
 refine ac_fn Try.func20 rfl rfl rfl rfl (fun w0 S0 r0 => ?_)
 refine aw_seq ?_
 refine aw_region ?_
 refine st_p (mva rfl) rfl ?_
 refine al_nil ?_
 refine nm ?_
 refine aw_seq ?_
 refine aw_region ?_
 refine st_p (mv rfl) rfl ?_
 refine st_p (op_len Try.underlying22 rfl) rfl ?_
 refine st_p (op_addi rfl rfl (by omega)) rfl ?_
 refine st_o (op_make Try.underlying22 i5 rfl rfl rfl (by decide) rfl rfl (by omega) (by omega) (by omega)) rfl ?_
 refine st_p (mva rfl) rfl ?_
 refine al_nil ?_
 refine nm ?_
 refine aw_seq ?_
 refine aw_seq ?_
 refine aw_region ?_
 refine st_p (mva rfl) rfl ?_
 refine al_nil ?_
 refine nm ?_
 refine aw_block ?_
 refine aw_loop (fun p : {p : Nat × List UInt8 // p.1 ≤ 6 ∧ p.2.length = 6 ∧ ∀ j, j < p.1 → p.2[j]? = some (padB j)} => ⟨[(0, .sl 1 (bl [])), (3, .own 0 0 6), (4, .int .i64 p.1.1)], [(0, .cells 1 (bl p.1.2))], 1⟩) (fun p => 6 - p.1.1) ⟨(0, List.replicate 6 0), Nat.zero_le _, List.length_replicate, fun j hj => absurd hj (Nat.not_lt_zero _)⟩ ?_ ?_
 ·exact le_to [] rfl rfl rfl rfl rfl ⟨rfl, rfl, rfl, trivial⟩ ⟨rfl, trivial⟩
 ·rintro ⟨⟨i, d⟩, h1, h2, h3⟩
  dsimp only at h1 h2 h3 ⊢
  have hdl := bl_len d
  by_cases hlt : i < 6
  ·obtain ⟨c, hc⟩ : ∃ c, d[i]? = some c := ⟨_, List.getElem?_eq_getElem (by omega)⟩
   have hcb : (bl d)[0 + ((i : Nat) : Int).toNat]? = some (.int .u8 (c.toNat : Int)) := by rw [Nat.zero_add, Int.toNat_natCast]; exact bl_get hc
   refine aw_seq ?_
   refine aw_seq ?_
   refine aw_region ?_
   refine st_p (mv rfl) rfl ?_
   refine st_p (mv rfl) rfl ?_
   refine st_p (op_leno Try.underlying22 rfl) rfl ?_
   refine st_p (OpP.conv (op_lt rfl rfl) (yes (by first | assumption | omega))) rfl ?_
   refine al_nil ?_
   refine nm ?_
   refine aw_yes (rfl) ?_
   refine aw_skip ?_
   refine nm ?_
   refine aw_seq ?_
   refine aw_block ?_
   refine aw_region ?_
   refine st_p (mv rfl) rfl ?_
   refine st_p (mv rfl) rfl ?_
   refine st_p (mv rfl) rfl ?_
   refine st_p (op_remi rfl rfl (by omega) (by omega)) rfl ?_
   refine st_p (op_addi rfl rfl (by omega)) rfl ?_
   refine st_p (op_conv (by rw [Try.underlying3]; rfl) Try.underlying5 rfl) rfl ?_
   refine st_p (op_indexAddr Try.underlying22 z5 rfl rfl rfl (by omega) (by omega)) rfl ?_
   refine st_n (st1s z5 rfl rfl rfl (by assumption) rfl rfl rfl) ?_
   refine al_nil ?_
   refine nmb ?_
   refine nm ?_
   refine aw_region ?_
   refine st_p (mv rfl) rfl ?_
   refine st_p (op_addi rfl rfl (by omega)) rfl ?_
   refine st_p (mva rfl) rfl ?_
   refine al_nil ?_
   refine nm ?_
   refine ⟨⟨(i + 1, d.set i (padB i)), by dsimp only; exact ⟨hlt, by rw [List.length_set]; exact h2, fun j hj => by
    by_cases e : i = j
    ·subst e; rw [List.getElem?_set_self (by omega)]
    ·rw [List.getElem?_set_ne e]; exact h3 j (by omega)⟩⟩, by dsimp only; omega, le_to [] rfl rfl rfl rfl rfl ⟨rfl, rfl, rfl, trivial⟩ ⟨?_, trivial⟩⟩
   rw [ren_blB, ← bl_set, ← pad_int]
   show some (Blk.cells 1 ((bl d).set (0 + ((i : Nat) : Int).toNat) _)) = _
   rw [Nat.zero_add, Int.toNat_natCast]
  ·have he : d = roomL [] := by
    refine List.ext_getElem? fun j => ?_
    by_cases hj6 : j < 6
    ·rw [h3 j (by omega), roomL_at (b := []) (Nat.zero_le _) (by simpa using hj6)]
    ·rw [List.getElem?_eq_none (by omega), List.getElem?_eq_none (by rw [roomL_len]; simp; omega)]
   subst he
   refine aw_seq ?_
   refine aw_seq ?_
   refine aw_region ?_
   refine st_p (mv rfl) rfl ?_
   refine st_p (mv rfl) rfl ?_
   refine st_p (op_leno Try.underlying22 rfl) rfl ?_
   refine st_p (OpP.conv (op_lt rfl rfl) (no (by first | assumption | omega))) rfl ?_
   refine al_nil ?_
   refine nm ?_
   refine aw_no (rfl) ?_
   refine aw_exit ?_
   refine xs ?_
   refine xs ?_
   refine xb ?_
   refine nm ?_
   refine aw_seq ?_
   refine aw_seq ?_
   refine aw_region ?_
   refine st_p (mva rfl) rfl ?_
   refine al_nil ?_
   refine nm ?_
   refine aw_block ?_
   refine aw_loop (fun _ : Unit => ⟨[(0, .sl 1 (bl [])), (3, .own 0 0 6), (5, .int .i64 0)], [(0, .cells 1 (bl (roomL [])))], 1⟩) (fun _ => 0) () ?_ ?_
   ·exact le_to [] rfl rfl rfl rfl rfl ⟨rfl, rfl, rfl, trivial⟩ ⟨by rw [ren_blB]; rfl, trivial⟩
   ·rintro ⟨⟩
    refine aw_seq ?_
    refine aw_seq ?_
    refine aw_region ?_
    refine st_p (mv rfl) rfl ?_
    refine st_p (mv rfl) rfl ?_
    refine st_p (op_len Try.underlying22 rfl) rfl ?_
    refine st_p (OpP.conv (op_lt rfl rfl) (no (by first | assumption | omega))) rfl ?_
    refine al_nil ?_
    refine nm ?_
    refine aw_no (rfl) ?_
    refine aw_exit ?_
    refine xs ?_
    refine xs ?_
    refine xb ?_
    refine nm ?_
    refine aw_seq ?_
    refine aw_region ?_
    refine st_p (mv rfl) rfl ?_
    refine st_p (mv rfl) rfl ?_
    refine st_p (op_len Try.underlying22 rfl) rfl ?_
    refine st_p (op_sliceZ Try.underlying22 z5 rfl rfl (by exact rfl) (by exact ⟨_, rfl⟩) (by omega) (by omega) (by omega)) rfl ?_
    refine st_p (mva rfl) rfl ?_
    refine al_nil ?_
    refine nm ?_
    refine aw_ret ?_
    exact ret_a ⟨[(2, .ownz 0 0)], [(0, .cells 1 (bl (roomL [])))], 1⟩ (le_to [] rfl rfl rfl rfl rfl ⟨rfl, trivial⟩ ⟨by rw [ren_blB]; rfl, trivial⟩) (res1 Try.results20) (.inr ⟨rfl, by simp only [List.all_cons, List.all_nil, hns, Bool.and_true]⟩) ⟨rfl, rfl, rfl⟩

theorem back_bytes (b : List UInt8) (hb : b.length ≤ 100000) (h0 : 0 < b.length) : AC Try.prog 23 [.own 0 0 b.length, .sl 1 (bl b)] [(0, .cells 1 (bl (roomL b)))] 1 true (fun v h nx => v = .bool true ∧ h = [(0, .cells 1 (bl (roomL b)))] ∧ nx = 1) := by
 have hbl := bl_len b
 have hrl := bl_len (roomL b)
 rw [roomL_len] at hrl
 have hrl2 := roomL_len b
 have hne : ¬ (roomL b).take b.length ≠ b := fun h => h (roomL_take b)
 refine ac_fn Try.func23 rfl rfl rfl rfl (fun w0 S0 r0 => ?_)
 refine aw_capR 0 rfl (by decide) (by omega) fun hcap => ?_
 refine aw_seq ?_
 refine aw_region ?_
 refine st_p (mva rfl) rfl ?_
 refine al_nil ?_
 refine nm ?_
 refine aw_seq ?_
 refine aw_seq ?_
 refine aw_region ?_
 refine st_p (mv rfl) rfl ?_
 refine st_p (op_toStr Try.underlying22 Try.underlying5 Try.underlying9 rfl (.own rfl (by simp; try omega)) (by simp only [bl_take, bl_drop, bl_app, List.take_length, List.drop_zero, List.take_nil, List.drop_nil]; rfl)) rfl ?_
 refine st_p (mv rfl) rfl ?_
 refine st_p (op_toStr Try.underlying22 Try.underlying5 Try.underlying9 rfl (.sl (.inr trivial)) rfl) rfl ?_
 refine st_p (OpP.conv (op_nes rfl rfl) (no (by first | assumption | omega))) rfl ?_
 refine st_p (mv rfl) rfl ?_
 refine st_pg rfl rfl rfl (mv rfl) rfl ?_
 refine st_cg rfl rfl rfl (opc_cap Try.underlying22 rfl (by omega) (by first | decide | omega)) rfl ?_
 refine st_pg rfl rfl rfl (mv rfl) rfl ?_
 refine st_pg rfl rfl rfl (op_len Try.underlying22 rfl) rfl ?_
 refine st_pg rfl rfl rfl (op_addi rfl rfl (by omega)) rfl ?_
 refine st_pg rfl rfl rfl (OpP.conv (op_lt rfl rfl) (no (by first | assumption | omega))) rfl ?_
 refine st_p (pkF rfl rfl) rfl ?_
 refine al_nil ?_
 refine nm ?_
 refine aw_no (rfl) ?_
 refine aw_skip ?_
 refine nm ?_
 refine aw_seq ?_
 refine aw_seq ?_
 refine aw_region ?_
 refine st_p (mv rfl) rfl ?_
 refine st_p (op_len Try.underlying22 rfl) rfl ?_
 refine st_p (mva rfl) rfl ?_
 refine al_nil ?_
 refine nm ?_
 refine aw_block ?_
 refine aw_loop (fun i : {i : Nat // b.length ≤ i ∧ i ≤ b.length + 6} => ⟨[(0, .own 0 0 b.length), (1, .sl 1 (bl b)), (5, .int .i64 i.1)], [(0, .cells 1 (bl (roomL b)))], 1⟩) (fun i => b.length + 6 - i.1) ⟨b.length, Nat.le_refl _, by omega⟩ ?_ ?_
 ·exact le_to [] rfl rfl rfl rfl rfl ⟨rfl, rfl, congrArg (fun k : Nat => AV.int .i64 (k : Int)) hbl, trivial⟩ ⟨by rw [ren_blB]; rfl, trivial⟩
 ·rintro ⟨i, h1, h2⟩
  dsimp only
  by_cases hlt : i < b.length + 6
  ·have hx := roomL_at h1 hlt
   have hcb : (bl (roomL b))[0 + ((i : Nat) : Int).toNat]? = some (.int .u8 ((padB i).toNat : Int)) := by rw [Nat.zero_add, Int.toNat_natCast]; exact bl_get hx
   have hpad : ¬ ((padB i).toNat : Int) ≠ IntKind.u8.wrap (85 + (i : Int) % 5) := fun h => h (pad_int i).symm
   refine aw_seq ?_
   refine aw_seq ?_
   refine aw_region ?_
   refine st_p (mv rfl) rfl ?_
   refine st_p (mv rfl) rfl ?_
   refine st_p (op_len Try.underlying22 rfl) rfl ?_
   refine st_p (op_addi rfl rfl (by omega)) rfl ?_
   refine st_p (OpP.conv (op_lt rfl rfl) (yes (by first | assumption | omega))) rfl ?_
   refine al_nil ?_
   refine nm ?_
   refine aw_yes (rfl) ?_
   refine aw_skip ?_
   refine nm ?_
   refine aw_seq ?_
   refine aw_block ?_
   refine aw_seq ?_
   refine aw_region ?_
   refine st_p (mv rfl) rfl ?_
   refine st_p (mv rfl) rfl ?_
   refine st_p (op_len Try.underlying22 rfl) rfl ?_
   refine st_p (op_addi rfl rfl (by omega)) rfl ?_
   refine st_p (op_sliceC Try.underlying22 z5 rfl rfl (by exact rfl) (by exact ⟨_, rfl⟩) (by first | omega | (simp only [bl_len, List.length_map, List.length_append, List.length_take, List.length_drop]; omega)) (by first | omega | (simp only [bl_len, List.length_map, List.length_append, List.length_take, List.length_drop]; omega)) (by omega) (by first | omega | (simp only [bl_len, List.length_map, List.length_append, List.length_take, List.length_drop]; omega))) rfl ?_
   refine st_p (mv rfl) rfl ?_
   refine st_p (op_indexAddr Try.underlying22 z5 rfl rfl rfl (by omega) (by omega)) rfl ?_
   refine st_p (op_load1 Try.underlying5 rfl rfl rfl (by assumption) rfl) rfl ?_
   refine st_p (mv rfl) rfl ?_
   refine st_p (op_remi rfl rfl (by omega) (by omega)) rfl ?_
   refine st_p (op_addi rfl rfl (by omega)) rfl ?_
   refine st_p (op_conv (by rw [Try.underlying3]; rfl) Try.underlying5 rfl) rfl ?_
   refine st_p (OpP.conv (op_ne rfl rfl) (no (by first | assumption | omega))) rfl ?_
   refine al_nil ?_
   refine nm ?_
   refine aw_no (rfl) ?_
   refine aw_skip ?_
   refine nmb ?_
   refine nm ?_
   refine aw_region ?_
   refine st_p (mv rfl) rfl ?_
   refine st_p (op_addi rfl rfl (by omega)) rfl ?_
   refine st_p (mva rfl) rfl ?_
   refine al_nil ?_
   refine nm ?_
   exact ⟨⟨i + 1, by omega, by omega⟩, by dsimp only; omega, le_to [] rfl rfl rfl rfl rfl ⟨rfl, rfl, rfl, trivial⟩ ⟨by rw [ren_blB]; rfl, trivial⟩⟩
  ·skip
   refine aw_seq ?_
   refine aw_seq ?_
   refine aw_region ?_
   refine st_p (mv rfl) rfl ?_
   refine st_p (mv rfl) rfl ?_
   refine st_p (op_len Try.underlying22 rfl) rfl ?_
   refine st_p (op_addi rfl rfl (by omega)) rfl ?_
   refine st_p (OpP.conv (op_lt rfl rfl) (no (by first | assumption | omega))) rfl ?_
   refine al_nil ?_
   refine nm ?_
   refine aw_no (rfl) ?_
   refine aw_exit ?_
   refine xs ?_
   refine xs ?_
   refine xb ?_
   refine nm ?_
   refine aw_seq ?_
   refine aw_region ?_
   refine st_p (mva rfl) rfl ?_
   refine al_nil ?_
   refine nm ?_
   refine aw_ret ?_
   exact ret_a ⟨[(4, .bool true)], [(0, .cells 1 (bl (roomL b)))], 1⟩ (le_to [] rfl rfl rfl rfl rfl ⟨rfl, trivial⟩ ⟨by rw [ren_blB]; rfl, trivial⟩) (res1 Try.results23) (.inl rfl) ⟨rfl, rfl, rfl⟩

theorem back_none : AC Try.prog 23 [.ownz 0 0, .sl 1 (bl [])] [(0, .cells 1 (bl (roomL [])))] 1 true (fun v h nx => v = .bool true ∧ h = [(0, .cells 1 (bl (roomL [])))] ∧ nx = 1) := by
 have hrl := bl_len (roomL [])
 rw [roomL_len] at hrl
 obtain ⟨b, hb0⟩ : ∃ b : List UInt8, b = [] := ⟨_, rfl⟩
 rw [← hb0] at hrl ⊢
 have hbl : (bl b).length = b.length := bl_len b
 have hb1 : b.length = 0 := by rw [hb0]; rfl
 have hne : ¬ ([] : List UInt8) ≠ b := fun h => h hb0.symm
 refine ac_fn Try.func23 rfl rfl rfl rfl (fun w0 S0 r0 => ?_)
 refine aw_capR 0 rfl (by decide) (by omega) fun hcap => ?_
 refine aw_seq ?_
 refine aw_region ?_
 refine st_p (mva rfl) rfl ?_
 refine al_nil ?_
 refine nm ?_
 refine aw_seq ?_
 refine aw_seq ?_
 refine aw_region ?_
 refine st_p (mv rfl) rfl ?_
 refine st_p (op_toStr Try.underlying22 Try.underlying5 Try.underlying9 rfl .ownz (l := []) rfl) rfl ?_
 refine st_p (mv rfl) rfl ?_
 refine st_p (op_toStr Try.underlying22 Try.underlying5 Try.underlying9 rfl (.sl (.inr trivial)) rfl) rfl ?_
 refine st_p (OpP.conv (op_nes rfl rfl) (no (by first | assumption | omega))) rfl ?_
 refine st_p (mv rfl) rfl ?_
 refine st_pg rfl rfl rfl (mv rfl) rfl ?_
 refine st_cg rfl rfl rfl (opc_capZ Try.underlying22 rfl (by first | decide | omega)) rfl ?_
 refine st_pg rfl rfl rfl (mv rfl) rfl ?_
 refine st_pg rfl rfl rfl (op_len Try.underlying22 rfl) rfl ?_
 refine st_pg rfl rfl rfl (op_addi rfl rfl (by omega)) rfl ?_
 refine st_pg rfl rfl rfl (OpP.conv (op_lt rfl rfl) (no (by first | assumption | omega))) rfl ?_
 refine st_p (pkF rfl rfl) rfl ?_
 refine al_nil ?_
 refine nm ?_
 refine aw_no (rfl) ?_
 refine aw_skip ?_
 refine nm ?_
 refine aw_seq ?_
 refine aw_seq ?_
 refine aw_region ?_
 refine st_p (mv rfl) rfl ?_
 refine st_p (op_len Try.underlying22 rfl) rfl ?_
 refine st_p (mva rfl) rfl ?_
 refine al_nil ?_
 refine nm ?_
 refine aw_block ?_
 refine aw_loop (fun i : {i : Nat // b.length ≤ i ∧ i ≤ b.length + 6} => ⟨[(0, .ownz 0 0), (1, .sl 1 (bl b)), (5, .int .i64 i.1)], [(0, .cells 1 (bl (roomL b)))], 1⟩) (fun i => b.length + 6 - i.1) ⟨b.length, Nat.le_refl _, by omega⟩ ?_ ?_
 ·exact le_to [] rfl rfl rfl rfl rfl ⟨rfl, rfl, congrArg (fun k : Nat => AV.int .i64 (k : Int)) hbl, trivial⟩ ⟨by rw [ren_blB]; rfl, trivial⟩
 ·rintro ⟨i, h1, h2⟩
  dsimp only
  by_cases hlt : i < b.length + 6
  ·have hx := roomL_at h1 hlt
   have hcb : (bl (roomL b))[0 + ((i : Nat) : Int).toNat]? = some (.int .u8 ((padB i).toNat : Int)) := by rw [Nat.zero_add, Int.toNat_natCast]; exact bl_get hx
   have hpad : ¬ ((padB i).toNat : Int) ≠ IntKind.u8.wrap (85 + (i : Int) % 5) := fun h => h (pad_int i).symm
   refine aw_seq ?_
   refine aw_seq ?_
   refine aw_region ?_
   refine st_p (mv rfl) rfl ?_
   refine st_p (mv rfl) rfl ?_
   refine st_p (op_len Try.underlying22 rfl) rfl ?_
   refine st_p (op_addi rfl rfl (by omega)) rfl ?_
   refine st_p (OpP.conv (op_lt rfl rfl) (yes (by first | assumption | omega))) rfl ?_
   refine al_nil ?_
   refine nm ?_
   refine aw_yes (rfl) ?_
   refine aw_skip ?_
   refine nm ?_
   refine aw_seq ?_
   refine aw_block ?_
   refine aw_seq ?_
   refine aw_region ?_
   refine st_p (mv rfl) rfl ?_
   refine st_p (mv rfl) rfl ?_
   refine st_p (op_len Try.underlying22 rfl) rfl ?_
   refine st_p (op_addi rfl rfl (by omega)) rfl ?_
   refine st_p (op_sliceCZ Try.underlying22 z5 rfl rfl (by exact rfl) (by exact ⟨_, rfl⟩) (by omega) (by omega) (by omega)) rfl ?_
   refine st_p (mv rfl) rfl ?_
   refine st_p (op_indexAddr Try.underlying22 z5 rfl rfl rfl (by omega) (by omega)) rfl ?_
   refine st_p (op_load1 Try.underlying5 rfl rfl rfl (by assumption) rfl) rfl ?_
   refine st_p (mv rfl) rfl ?_
   refine st_p (op_remi rfl rfl (by omega) (by omega)) rfl ?_
   refine st_p (op_addi rfl rfl (by omega)) rfl ?_
   refine st_p (op_conv (by rw [Try.underlying3]; rfl) Try.underlying5 rfl) rfl ?_
   refine st_p (OpP.conv (op_ne rfl rfl) (no (by first | assumption | omega))) rfl ?_
   refine al_nil ?_
   refine nm ?_
   refine aw_no (rfl) ?_
   refine aw_skip ?_
   refine nmb ?_
   refine nm ?_
   refine aw_region ?_
   refine st_p (mv rfl) rfl ?_
   refine st_p (op_addi rfl rfl (by omega)) rfl ?_
   refine st_p (mva rfl) rfl ?_
   refine al_nil ?_
   refine nm ?_
   exact ⟨⟨i + 1, by omega, by omega⟩, by dsimp only; omega, le_to [] rfl rfl rfl rfl rfl ⟨rfl, rfl, rfl, trivial⟩ ⟨by rw [ren_blB]; rfl, trivial⟩⟩
  ·skip
   refine aw_seq ?_
   refine aw_seq ?_
   refine aw_region ?_
   refine st_p (mv rfl) rfl ?_
   refine st_p (mv rfl) rfl ?_
   refine st_p (op_len Try.underlying22 rfl) rfl ?_
   refine st_p (op_addi rfl rfl (by omega)) rfl ?_
   refine st_p (OpP.conv (op_lt rfl rfl) (no (by first | assumption | omega))) rfl ?_
   refine al_nil ?_
   refine nm ?_
   refine aw_no (rfl) ?_
   refine aw_exit ?_
   refine xs ?_
   refine xs ?_
   refine xb ?_
   refine nm ?_
   refine aw_seq ?_
   refine aw_region ?_
   refine st_p (mva rfl) rfl ?_
   refine al_nil ?_
   refine nm ?_
   refine aw_ret ?_
   exact ret_a ⟨[(4, .bool true)], [(0, .cells 1 (bl (roomL b)))], 1⟩ (le_to [] rfl rfl rfl rfl rfl ⟨rfl, trivial⟩ ⟨by rw [ren_blB]; rfl, trivial⟩) (res1 Try.results23) (.inl rfl) ⟨rfl, rfl, rfl⟩

end Go.Proofs.Ytpggknkhldecaaa.Abs
end
section
namespace Go.Proofs.Ytpggknkhldecaaa.Abs

section
variable {P : Program} {c : Ctx} {n : Nat} {Q : Exit → St → Prop}

theorem aw_nilB {code : Code} {tm : List (Nat × AV)} {h h' : Heap} {nx s : Nat} {l l' : List AV} (b f sz : Nat) (hb : hget h b = some (.cells s [.agg l])) (hf : l[f]? = some .nils) (hl : setS l f (.sl sz []) = some l') (hh : hsetS h b (.cells s [.agg l']) = some h')
  (k : AW P c n code Q ⟨tm, h', nx⟩) : AW P c n code Q ⟨tm, h, nx⟩ := fun ρ S a w hv => by
 have hh := hsetS_spec _ _ _ _ hh
 have hl := setS_spec _ _ _ _ hl
 subst hl
 have hg : ∀ k X, hget h' k = some X → (k = b ∧ X = .cells s [.agg (l.set f (.sl sz []))]) ∨ (k ≠ b ∧ hget h k = some X) := fun k X hk => by
  rw [← hh, hget_set] at hk
  by_cases e : b = k
  ·rw [if_pos e] at hk; exact .inl ⟨e.symm, (Option.some.inj hk).symm⟩
  ·rw [if_neg e] at hk; exact .inr ⟨fun e' => e e'.symm, hk⟩
 have old : ∀ k X, hget h' k = some X → ∃ Y, hget h k = some Y := fun k X hk => by
  rcases hg k X hk with ⟨rfl, _⟩ | ⟨_, h2⟩
  ·exact ⟨_, hb⟩
  ·exact ⟨_, h2⟩
 refine k ρ S a w ⟨hv.size, hv.defers, hv.tmps, ⟨fun k X hk => ?_, fun k k' X X' q q' hk hk' hq hq' hne => ?_, hv.sim.lt⟩, ⟨hv.post.os, hv.post.tape, hv.post.output, hv.post.size, hv.post.keep, hv.post.sIn, hv.post.sNew, fun k X q hk hq => ?_, hv.post.ids⟩, hv.fresh, hv.le, fun k X hk => ?_⟩
 ·rcases hg k X hk with ⟨rfl, rfl⟩ | ⟨_, h2⟩
  ·rcases hv.sim.blk k _ hb with ⟨r, q1, q2, q3, q4⟩ | ⟨_, _, e⟩
   ·refine .inl ⟨r, q1, ?_, q3, q4⟩
    obtain ⟨g1, g2, g3, g4, cur, e, g5, g6, g7, g8⟩ := q2
    refine ⟨g1, fun x hx => ?_, g3, g4, cur, e, g5, g6, g7, fun i x u hx hu => ?_⟩
    ·rw [List.mem_singleton.1 hx]
     have := g2 (.agg l) (List.mem_singleton.2 rfl)
     simp only [AV.cells, List.length_set] at this ⊢
     exact this
    ·have hx : (l.set f (.sl sz []))[i]? = some x := by simpa [flat, AV.cells] using hx
     by_cases e : f = i
     ·subst e
      have hlt : f < l.length := (List.getElem?_eq_some_iff.1 hf).1
      rw [List.getElem?_set_self hlt] at hx
      obtain rfl := Option.some.inj hx
      have := g8 f .nils u (by simpa [flat, AV.cells] using hf) hu
      cases this
      exact .sl0
     ·rw [List.getElem?_set_ne e] at hx
      exact g8 i x u (by simpa [flat, AV.cells] using hx) hu
   ·cases e
  ·exact hv.sim.blk k X h2
 ·obtain ⟨Y, hY⟩ := old k X hk
  obtain ⟨Y', hY'⟩ := old k' X' hk'
  exact hv.sim.inj k k' Y Y' q q' hY hY' hq hq' hne
 ·obtain ⟨Y, hY⟩ := old k X hk
  exact hv.post.own k Y q hY hq
 ·obtain ⟨Y, hY⟩ := old k X hk
  exact hv.dom k Y hY

theorem AC.args {P : Program} {f : FuncId} {aa bs : List AV} {h : Heap} {nx : Nat} {al : Bool} {Q : AV → Heap → Nat → Prop} (hl : aa.length = bs.length)
  (hv : ∀ S w ρ v, ∀ (i : Nat) (x y : AV), aa[i]? = some x → bs[i]? = some y → VR S w ρ x v → VR S w ρ y v) (k : AC P f bs h nx al Q) : AC P f aa h nx al Q := fun ρ S w vals h1 h2 h3 =>
 k ρ S w vals h1 h2 ⟨hl.symm.trans h3.1, fun i y u hy hu => by
  have hi : i < aa.length := by rw [hl]; exact (List.getElem?_eq_some_iff.1 hy).1
  exact hv _ _ _ _ i _ y (List.getElem?_eq_getElem hi) hy (h3.2 i _ u (List.getElem?_eq_getElem hi) hu)⟩
theorem vr_nils {S : Nat → Prop} {w : World} {ρ : Rho} {v : Value} (sz : Nat) (h : VR S w ρ .nils v) : VR S w ρ (.sl sz []) v := by cases h; exact .sl0
theorem AC.nil0 {P : Program} {f : FuncId} {bs : List AV} {h : Heap} {nx : Nat} {al : Bool} {Q : AV → Heap → Nat → Prop} (sz : Nat) (k : AC P f (.sl sz [] :: bs) h nx al Q) : AC P f (.nils :: bs) h nx al Q :=
 AC.args (aa := .nils :: bs) (bs := .sl sz [] :: bs) rfl (fun S w ρ v i x y hx hy hv => by
  cases i with
  | zero => obtain rfl := Option.some.inj hx; obtain rfl := Option.some.inj hy; exact vr_nils sz hv
  | succ i => obtain rfl := Option.some.inj (hx.symm.trans hy); exact hv) k

end

end Go.Proofs.Ytpggknkhldecaaa.Abs
end
section
namespace Go.Proofs.Ytpggknkhldecaaa.Abs

def t0 : TX := ⟨1, 1, [], [⟨[97], [118], false⟩]⟩
theorem t0_may : mayTxB t0 = true := by decide +kernel
theorem t0_put : putTx t0 = [1, 1, 0, 1, 1, 97, 1, 118, 0] := by
 have h0 : putNum 0 = [0] := putNum_lo (by decide)
 have h1 : putNum 1 = [1] := putNum_lo (by decide)
 unfold putTx txMid txHead t0
 simp [wrBytes, putText, h0, h1, flagN]

set_option maxRecDepth 100000 in
theorem law_begunW : AC Try.prog 6 [] [] 0 false (fun v h nx => v = .bool true ∧ h = [] ∧ nx = 0) := by
 have hput := txn_Put t0 t0_may (by simp [t0])
 have hmay := txn_May t0 (by simp [t0]) (by simp [t0]) (by simp [t0]) (by simp [t0])
 rw [t0_may] at hmay
 have hok : takeOk (putTx t0) = true := by
  have := takeOk_put t0 [] t0_may (by simp [t0])
  rwa [List.append_nil] at this
 obtain ⟨hT, hW⟩ := take_put t0 [] t0_may (by simp [t0])
 rw [List.append_nil] at hT hW
 have hX := t0_put
 have hTy := txn_Take_yes (putTx t0) (by rw [hX]; decide) hok
 rw [hT, hW] at hTy
 have hTn := (txn_Take_no [] (Nat.zero_le _) (by rfl)).nil0
 have hS := txn_Same t0 t0 (by simp [t0]) (by simp [t0]) (by simp [t0]) (by simp [t0])
 rw [(sameTxB_iff t0 t0).2 rfl] at hS
 have hTo := txn_Touches t0 1 3 (by simp [t0]) (by simp [t0]) (by simp [t0]) (by simp [t0]) (by decide)
 rw [show touchB t0 1 3 = true from by decide +kernel] at hTo
 have hR := txn_Reads t0 3 (by simp [t0]) (by simp [t0]) (by simp [t0]) (by decide)
 rw [show readsL (t0.reads.map RD.key) 3 = [] from rfl] at hR
 generalize putTx t0 = X at hput hTy hX
 have hbl : (bl X).length = X.length := bl_len X
 dsimp only [txA, t0, List.map_cons, List.map_nil] at hput hmay hTy hTn hS hTo hR
 refine ac_fn Try.func6 rfl rfl rfl rfl (fun w0 S0 r0 => ?_)
 refine aw_seq ?_
 refine aw_region ?_
 refine st_p (mva rfl) rfl ?_
 refine al_nil ?_
 refine nm ?_
 refine aw_seq ?_
 refine aw_region ?_
 refine st_p (op_build Try.underlying65 a65 rfl rfl (by intro f hf; simp only [List.mem_cons, List.not_mem_nil, or_false] at hf; rcases hf with rfl | rfl | rfl <;> exact ⟨_, by first | exact z4 | exact z9⟩) (pcons rfl rfl z9 rfl (pcons rfl rfl z9 rfl .nil)) rfl) rfl ?_
 refine st_o (bsl Try.underlying24 i65 o65 (by decide) rfl rfl rfl (by decide)) rfl ?_
 refine st_p (op_build Try.underlying26 a26 rfl rfl (by intro f hf; simp only [List.mem_cons, List.not_mem_nil, or_false] at hf; rcases hf with rfl | rfl | rfl | rfl <;> exact ⟨_, by first | exact z3 | exact z23 | exact z24⟩) (pcons rfl rfl z3 rfl (pcons rfl rfl z3 rfl (pcons rfl rfl z24 rfl .nil))) rfl) rfl ?_
 refine st_o (op_alloc a26 rfl rfl) rfl ?_
 first | refine st_n (st1 z26 rfl rfl rfl rfl rfl rfl rfl rfl) ?_ | refine st_n (stA z26 rfl rfl rfl rfl rfl rfl rfl rfl rfl rfl) ?_ | refine st_n (st1s z26 rfl rfl rfl (by assumption) rfl rfl rfl) ?_ | refine st_n (stAs z26 rfl rfl rfl (by assumption) rfl rfl rfl rfl rfl) ?_
 refine al_nil ?_
 refine nm ?_
 refine aw_seq ?_
 refine aw_nilB 1 2 4 rfl rfl rfl rfl ?_
 refine aw_frz 0 (xs := [.agg [sb [97], sb [118], .bool false]]) rfl (by first | rfl | assumption | simp [AV.plain, plains, bl_plain, sb]) rfl ?_
 dsimp only [frzS, hdel, List.map_cons, List.map_nil, AV.frz, frzs, Blk.frz, ↓reduceIte, Nat.reduceEqDiff, reduceCtorEq]
 refine aw_le (st' := ⟨[(1, .ptr 0 0 0)], [(0, .cells 4 [.agg [.int .i64 1, .int .i64 1, .sl 4 [], .sl 3 [.agg [sb [97], sb [118], .bool false]]]])], 1⟩) (le_to [(0, 1)] rfl rfl rfl rfl rfl ⟨rfl, trivial⟩ ⟨rfl, trivial⟩) ?_
 refine aw_region ?_
 first | refine st_p (op_loadAL Try.underlying26 rfl z26 rfl rfl) rfl ?_ | refine st_p (op_loadA Try.underlying26 rfl z26 rfl rfl rfl rfl) rfl ?_ | refine st_p (op_loadA Try.underlying26 rfl z26 rfl rfl (by assumption) rfl) rfl ?_
 refine st_o ((op_callq (hput) Try.func12 ⟨rfl, rfl⟩ rfl rfl (fun nx => (.cons (.same (by rfl)) .nil)) (by rintro _ _ _ ⟨rfl, rfl, rfl⟩; exact .whole rfl (by simp) (by first | rfl | simp [AV.plain, plains, bl_plain]))).ok) rfl ?_
 refine st_p (mva rfl) rfl ?_
 refine al_nil ?_
 refine nm ?_
 refine aw_seq ?_
 refine aw_region ?_
 refine st_p (mv rfl) rfl ?_
 refine st_o ((op_callq (hTy) Try.func21 ⟨rfl, rfl⟩ rfl rfl (fun nx => (.cons (.same (by rfl)) .nil)) (by rintro _ _ _ ⟨rfl, rfl, rfl⟩; exact (Fzs.tup (.cons (Fzs.agg (.cons (.same rfl) (.cons (.same rfl) (.cons (.whole rfl rfl rfl) (.cons (.whole rfl rfl rfl) .nil))))) (.cons (.same rfl) (.cons (.same rfl) .nil)))))).ok) rfl ?_
 refine st_p (mv rfl) rfl ?_
 refine st_p (op_extract rfl rfl) rfl ?_
 refine st_p (op_extract rfl rfl) rfl ?_
 refine st_p (op_extract rfl rfl) rfl ?_
 refine st_o (op_alloc a26 rfl rfl) rfl ?_
 first | refine st_n (st1 z26 rfl rfl rfl rfl rfl rfl rfl rfl) ?_ | refine st_n (stA z26 rfl rfl rfl rfl rfl rfl rfl rfl rfl rfl) ?_ | refine st_n (st1s z26 rfl rfl rfl (by assumption) rfl rfl rfl) ?_ | refine st_n (stAs z26 rfl rfl rfl (by assumption) rfl rfl rfl rfl rfl) ?_
 refine st_p (mva rfl) rfl ?_
 refine st_p (mva rfl) rfl ?_
 refine al_nil ?_
 refine nm ?_
 refine aw_seq ?_
 refine aw_region ?_
 refine st_o ((op_callq (hTn) Try.func21 ⟨rfl, rfl⟩ rfl rfl (fun nx => (.cons (.same (by rfl)) .nil)) (by rintro _ _ _ ⟨rfl, rfl, rfl⟩; exact .same rfl)).ok) rfl ?_
 refine st_p (mv rfl) rfl ?_
 refine st_p (op_extract rfl rfl) rfl ?_
 refine st_p (op_extract rfl rfl) rfl ?_
 refine st_p (op_extract rfl rfl) rfl ?_
 refine st_o (op_alloc a26 rfl rfl) rfl ?_
 first | refine st_n (st1 z26 rfl rfl rfl rfl rfl rfl rfl rfl) ?_ | refine st_n (stA z26 rfl rfl rfl rfl rfl rfl rfl rfl rfl rfl) ?_ | refine st_n (st1s z26 rfl rfl rfl (by assumption) rfl rfl rfl) ?_ | refine st_n (stAs z26 rfl rfl rfl (by assumption) rfl rfl rfl rfl rfl) ?_
 refine st_p (mva rfl) rfl ?_
 refine st_p (mva rfl) rfl ?_
 refine al_nil ?_
 refine nm ?_
 refine aw_seq ?_
 refine aw_region ?_
 first | refine st_p (op_loadAL Try.underlying26 rfl z26 rfl rfl) rfl ?_ | refine st_p (op_loadA Try.underlying26 rfl z26 rfl rfl rfl rfl) rfl ?_ | refine st_p (op_loadA Try.underlying26 rfl z26 rfl rfl (by assumption) rfl) rfl ?_
 refine st_o ((op_callq (hmay) Try.func10 ⟨rfl, rfl⟩ rfl rfl (fun nx => (.cons (.same (by rfl)) .nil)) (by rintro _ _ _ ⟨rfl, rfl, rfl⟩; exact .same rfl)).ok) rfl ?_
 refine st_p (mv rfl) rfl ?_
 first | refine st_s rfl rfl rfl rfl rfl ?_ | refine st_pg rfl rfl rfl (mv rfl) rfl ?_
 first | refine st_s rfl rfl rfl rfl rfl ?_ | refine st_pg rfl rfl rfl (op_toStr Try.underlying22 Try.underlying5 Try.underlying9 rfl (.sl (.inr trivial)) rfl) rfl ?_ | refine st_pg rfl rfl rfl (op_toStr Try.underlying22 Try.underlying5 Try.underlying9 rfl (.own rfl (by simp; try omega)) rfl) rfl ?_ | refine st_pg rfl rfl rfl (op_toStr Try.underlying22 Try.underlying5 Try.underlying9 rfl (.sl (.inr trivial)) (by simp only [bl_take, bl_drop, bl_app, List.take_length, List.drop_zero, List.take_nil, List.drop_nil]; rfl)) rfl ?_ | refine st_pg rfl rfl rfl (op_toStr Try.underlying22 Try.underlying5 Try.underlying9 rfl (.own rfl (by simp; try omega)) (by simp only [bl_take, bl_drop, bl_app, List.take_length, List.drop_zero, List.take_nil, List.drop_nil]; rfl)) rfl ?_ | refine st_pg rfl rfl rfl (op_toStr Try.underlying22 Try.underlying5 Try.underlying9 rfl .nils (l := []) rfl) rfl ?_ | refine st_pg rfl rfl rfl (op_toStr Try.underlying22 Try.underlying5 Try.underlying9 rfl .ownz (l := []) rfl) rfl ?_
 first | refine st_s rfl rfl rfl rfl rfl ?_ | refine st_pg rfl rfl rfl (OpP.conv (op_eqs rfl rfl) (yes (by first | assumption | omega))) rfl ?_ | refine st_pg rfl rfl rfl (OpP.conv (op_eqs rfl rfl) (no (by first | assumption | omega))) rfl ?_ | refine st_pg rfl rfl rfl (op_eqs rfl rfl) rfl ?_
 first | refine st_p (pkT rfl rfl) rfl ?_ | refine st_p (pkF rfl rfl) rfl ?_
 refine st_p (mv rfl) rfl ?_
 first | refine st_s rfl rfl rfl rfl rfl ?_ | refine st_pg rfl rfl rfl (mv rfl) rfl ?_
 first | refine st_p (pkT rfl rfl) rfl ?_ | refine st_p (pkF rfl rfl) rfl ?_
 refine st_p (mv rfl) rfl ?_
 first | refine st_s rfl rfl rfl rfl rfl ?_ | refine st_pg rfl rfl rfl (mv rfl) rfl ?_
 first | refine st_s rfl rfl rfl rfl rfl ?_ | refine st_pg rfl rfl rfl (mv rfl) rfl ?_
 first | refine st_s rfl rfl rfl rfl rfl ?_ | refine st_pg rfl rfl rfl (op_len Try.underlying22 rfl) rfl ?_ | refine st_pg rfl rfl rfl (op_leno Try.underlying22 rfl) rfl ?_ | refine st_pg rfl rfl rfl (op_lenn Try.underlying22 rfl) rfl ?_
 first | refine st_s rfl rfl rfl rfl rfl ?_ | refine st_pg rfl rfl rfl (OpP.conv (op_eq rfl rfl) (yes (by first | assumption | omega))) rfl ?_ | refine st_pg rfl rfl rfl (OpP.conv (op_eq rfl rfl) (no (by first | assumption | omega))) rfl ?_ | refine st_pg rfl rfl rfl (op_eq rfl rfl) rfl ?_
 first | refine st_p (pkT rfl rfl) rfl ?_ | refine st_p (pkF rfl rfl) rfl ?_
 refine st_p (mv rfl) rfl ?_
 first | refine st_s rfl rfl rfl rfl rfl ?_ | refine st_pg rfl rfl rfl (op_loadAL Try.underlying26 rfl z26 rfl rfl) rfl ?_ | refine st_pg rfl rfl rfl (op_loadA Try.underlying26 rfl z26 rfl rfl rfl rfl) rfl ?_ | refine st_pg rfl rfl rfl (op_loadA Try.underlying26 rfl z26 rfl rfl (by assumption) rfl) rfl ?_
 first | refine st_s rfl rfl rfl rfl rfl ?_ | refine st_pg rfl rfl rfl (op_loadAL Try.underlying26 rfl z26 rfl rfl) rfl ?_ | refine st_pg rfl rfl rfl (op_loadA Try.underlying26 rfl z26 rfl rfl rfl rfl) rfl ?_ | refine st_pg rfl rfl rfl (op_loadA Try.underlying26 rfl z26 rfl rfl (by assumption) rfl) rfl ?_
 first | refine st_s rfl rfl rfl rfl rfl ?_ | refine st_og rfl rfl rfl ((op_callq (hS) Try.func14 ⟨rfl, rfl⟩ rfl rfl (fun nx => (.cons (.same (by rfl)) (.cons (.same (by rfl)) .nil))) (by rintro _ _ _ ⟨rfl, rfl, rfl⟩; exact .same rfl)).ok) rfl ?_
 first | refine st_p (pkT rfl rfl) rfl ?_ | refine st_p (pkF rfl rfl) rfl ?_
 refine st_p (mv rfl) rfl ?_
 first | refine st_s rfl rfl rfl rfl rfl ?_ | refine st_pg rfl rfl rfl (mv rfl) rfl ?_
 first | refine st_s rfl rfl rfl rfl rfl ?_ | refine st_pg rfl rfl rfl (op_notT rfl) rfl ?_ | refine st_pg rfl rfl rfl (op_notF rfl) rfl ?_ | refine st_pg rfl rfl rfl (op_not rfl) rfl ?_
 first | refine st_p (pkT rfl rfl) rfl ?_ | refine st_p (pkF rfl rfl) rfl ?_
 refine st_p (mv rfl) rfl ?_
 first | refine st_s rfl rfl rfl rfl rfl ?_ | refine st_pg rfl rfl rfl (op_loadAL Try.underlying26 rfl z26 rfl rfl) rfl ?_ | refine st_pg rfl rfl rfl (op_loadA Try.underlying26 rfl z26 rfl rfl rfl rfl) rfl ?_ | refine st_pg rfl rfl rfl (op_loadA Try.underlying26 rfl z26 rfl rfl (by assumption) rfl) rfl ?_
 first | refine st_s rfl rfl rfl rfl rfl ?_ | refine st_og rfl rfl rfl ((op_callq (hTo) Try.func18 ⟨rfl, rfl⟩ rfl rfl (fun nx => (.cons (.same (by rfl)) (.cons (.same (by rfl)) (.cons (.same (by rfl)) .nil)))) (by rintro _ _ _ ⟨rfl, rfl, rfl⟩; exact .same rfl)).ok) rfl ?_
 first | refine st_p (pkT rfl rfl) rfl ?_ | refine st_p (pkF rfl rfl) rfl ?_
 refine st_p (mv rfl) rfl ?_
 first | refine st_s rfl rfl rfl rfl rfl ?_ | refine st_pg rfl rfl rfl (op_loadAL Try.underlying26 rfl z26 rfl rfl) rfl ?_ | refine st_pg rfl rfl rfl (op_loadA Try.underlying26 rfl z26 rfl rfl rfl rfl) rfl ?_ | refine st_pg rfl rfl rfl (op_loadA Try.underlying26 rfl z26 rfl rfl (by assumption) rfl) rfl ?_
 first | refine st_s rfl rfl rfl rfl rfl ?_ | refine st_og rfl rfl rfl ((op_callq (hR) Try.func16 ⟨rfl, rfl⟩ rfl rfl (fun nx => (.cons (.same (by rfl)) (.cons (.same (by rfl)) .nil))) (by rintro _ _ _ ⟨rfl, rfl, rfl⟩; exact (.whole rfl rfl rfl))).ok) rfl ?_
 first | refine st_s rfl rfl rfl rfl rfl ?_ | refine st_pg rfl rfl rfl (op_len Try.underlying35 rfl) rfl ?_ | refine st_pg rfl rfl rfl (op_leno Try.underlying35 rfl) rfl ?_ | refine st_pg rfl rfl rfl (op_lenn Try.underlying35 rfl) rfl ?_
 first | refine st_s rfl rfl rfl rfl rfl ?_ | refine st_pg rfl rfl rfl (OpP.conv (op_eq rfl rfl) (yes (by first | assumption | omega))) rfl ?_ | refine st_pg rfl rfl rfl (OpP.conv (op_eq rfl rfl) (no (by first | assumption | omega))) rfl ?_ | refine st_pg rfl rfl rfl (op_eq rfl rfl) rfl ?_
 first | refine st_p (pkT rfl rfl) rfl ?_ | refine st_p (pkF rfl rfl) rfl ?_
 refine st_p (mva rfl) rfl ?_
 refine al_nil ?_
 refine nm ?_
 refine aw_ret ?_
 exact ret_a ⟨[(0, .bool true)], [], 0⟩ (le_to [] rfl rfl rfl rfl rfl ⟨rfl, trivial⟩ trivial) (res1 Try.results6) (.inr ⟨rfl, rfl⟩) ⟨rfl, rfl, rfl⟩

end Go.Proofs.Ytpggknkhldecaaa.Abs
end
