/-
  CrcRest: a text of up to 300 bytes with its own sum behind it, the lowest byte first, has one sum, whatever it is. For every text; longer ones are let be.
-/
import Derived.Test.YtggffmcfkcjeaaaCrcPure
namespace Go.Proofs.Ytggffmcfkcjeaaa.Pure
open Go.RowKit Go.Proofs.Ytggffmcfkcjeaaa.PCrc Go.Proofs.YtggffmcfkcjeaaaW.PrintWords Go.Proofs.Ytggffmcfkcjeaaa.CrcP Go.Proofs.Ytggffmcfkcjeaaa.CrcMath
theorem CrcRest : diwanlaw2_CrcRest.Pure := by
  intro l _ _ hw
  have hb := bytes_of hw
  refine ⟨400, ?_⟩
  unfold diwanlaw2_CrcRest.f
  rw [begun_f]
  simp only [Option.bind_some]
  rw [if_pos trivial]
  by_cases h : (l.length : Int) > 300
  · rw [if_pos h]
  · rw [if_neg h, sum_f l hb (by omega) 400 (by omega)]
    have hs := (sum (nats l)).isLt
    generalize hv : (sum (nats l)).toNat = v at hs
    simp only [Option.bind_some, List.nil_append, List.length_nil, List.length_cons, Nat.zero_add]
    rw [if_pos (by omega), if_pos (by omega), sum_f _ ?_ (by simp; omega) 400 (by simp; omega)]
    · have e : nats (l ++ [((v : Nat) : Int) % 256, (v : Int) / 256 % 256, (v : Int) / 65536 % 256, (v : Int) / 16777216 % 256]) = nats l ++ [v % 256, v / 256 % 256, v / 65536 % 256, v / 16777216 % 256] := by
        unfold nats
        rw [List.map_append]
        simp only [List.map_cons, List.map_nil, List.append_cancel_left_eq, List.cons.injEq, and_true]
        omega
      rw [e, rest (nats l) _ _ _ _ (nats_lt hb) (by omega) (by omega) (by omega) (by omega) (by rw [hv]; omega)]
      rfl
    · intro x hx
      rcases List.mem_append.1 hx with hx | hx
      · exact hb x hx
      · simp only [List.mem_cons, List.not_mem_nil, or_false] at hx
        omega
end Go.Proofs.Ytggffmcfkcjeaaa.Pure
