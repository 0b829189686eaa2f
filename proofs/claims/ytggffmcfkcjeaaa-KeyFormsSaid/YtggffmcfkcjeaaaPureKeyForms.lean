/-
  KeyForms: which keys may be, whose they are, and what lies within: some of them. A closed statement, no condition: its calls are walked one by one (diwanlaw4_KeyForms.calls).
-/
import Derived.Test.YtggffmcfkcjeaaaPKeyx2
namespace Go.Proofs.Ytggffmcfkcjeaaa.Pure
open Go.Proofs.Ytggffmcfkcjeaaa.PKey in
theorem KeyForms : diwanlaw4_KeyForms.Pure := trivial
end Go.Proofs.Ytggffmcfkcjeaaa.Pure
