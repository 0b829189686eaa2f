/-
  CrcAll: of up to 300 bytes crc.Sum and the document's sum are one, and what was handed in, and what stands behind it in its room, is as it was. For every text; longer ones are let be.
-/
import Derived.Test.YtggffmcfkcjeaaaCrcPure
import Derived.Test.YtggffmcfkcjeaaaLentPure
namespace Go.Proofs.Ytggffmcfkcjeaaa.Pure
open Go.RowKit Go.Proofs.Ytggffmcfkcjeaaa.PCrc Go.Proofs.YtggffmcfkcjeaaaW.PrintWords Go.Proofs.Ytggffmcfkcjeaaa.CrcP
theorem CrcAll : diwanlaw2_CrcAll.Pure := by
  intro l hl hw
  have hb := bytes_of hw
  exact ⟨4000, _, sum_f l hb (by omega) 4000 (by omega), ref_f l hb (by omega) 4000 (by omega), LentP.lent_f l (by omega) 4000 (by omega)⟩
end Go.Proofs.Ytggffmcfkcjeaaa.Pure
