/-
  FrameForms: of sixty thousand zeros there is a frame, of 60006 bytes.
-/
import Derived.Test.YtkipbilnhpeacaaFramePure
import Derived.Test.YtkipbilnhpeacaaPFramex2
namespace Go.Proofs.Ytkipbilnhpeacaa.Pure
open Go.RowKit Go.Proofs.Ytkipbilnhpeacaa.PFrame Go.Proofs.YtkipbilnhpeacaaW.PrintWords Go.Proofs.Ytkipbilnhpeacaa.CrcP Go.Proofs.Ytkipbilnhpeacaa.FrameP
theorem FrameForms : diwanlaw3_FrameForms.Pure := by
  unfold diwanlaw3_FrameForms.Pure
  have hl : (List.replicate (60000 : Int).toNat (0 : Int)).length = 60000 := by rw [List.length_replicate]; rfl
  have hb : Bytes (List.replicate (60000 : Int).toNat (0 : Int)) := by
    intro x hx
    rw [(List.mem_replicate.1 hx).2]
    omega
  generalize List.replicate (60000 : Int).toNat (0 : Int) = l at hl hb
  obtain ⟨K, hK⟩ : ∃ K : Nat, 60100 ≤ K := ⟨60100, Nat.le_refl _⟩
  exact ⟨K, frm l, put_f l hb (by omega) K (by omega), by rw [frm_length, hl]⟩
end Go.Proofs.Ytkipbilnhpeacaa.Pure
