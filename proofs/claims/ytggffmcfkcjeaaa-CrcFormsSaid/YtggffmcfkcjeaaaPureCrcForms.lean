/-
  CrcForms: some sums are what they are. A closed statement, no condition: its calls are walked one by one (diwanlaw2_CrcForms.calls).
-/
import Derived.Test.YtggffmcfkcjeaaaPCrcx2
namespace Go.Proofs.Ytggffmcfkcjeaaa.Pure
open Go.Proofs.Ytggffmcfkcjeaaa.PCrc in
theorem CrcForms : diwanlaw2_CrcForms.Pure := trivial
end Go.Proofs.Ytggffmcfkcjeaaa.Pure
