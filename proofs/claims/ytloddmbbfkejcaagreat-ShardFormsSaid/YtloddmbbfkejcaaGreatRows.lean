/-
  No cell of these rows narrows 'for every input' (looked for: loops, veiled, ifaces, maps, wideKeys, modest, calm, conditions, laid).
  DERIVED. THE GIVEN ROWS OF THIS SEAT. 8 by the template 'for every input the law returns true; each argument reads behind the call as it read before'; 0 by the template 'total and deterministic' (their statements: YtloddmbbfkejcaaGreatTotals.lean).
  GIVEN WITH THE SEED: the statements are not yours to turn. If you find one false, say at which input.
  Laid BY PROGRAM, IN A SANDBOX (cutbox-rows.mjs): the forced cells as the released guide's own fill.sh prints them over the translation d09a6e6bb2f96090… (all of the seat's roots in one cut). By AI agents, Wed Nov 11 2026. No macro, syntax, notation, axiom, sorry.
-/
import Derived.Test.YtloddmbbfkejcaaGreatChecked
import GoSem.Claim
import GoSem.ClaimJoined
import GoSem.ClaimMapViews
import Derived.JoinedTies
import Derived.KernelRfl
namespace Go.Proofs.YtloddmbbfkejcaaGreat
/- THE CELL 'sum', in the pinned program and in every row, IS THE sha256 OF THE DUMP (.gsa) THAT YtloddmbbfkejcaaGreatProg.lean LOADS. Nothing in Lean hashes anything: it is a label: what it is worth is what the hold of that sum in a sandbox is worth. -/
noncomputable def Tryz.pinned : Pinned := { name := "ytloddmbbfkejcaagreat", sum := "d09a6e6bb2f96090153dd408fe41857eabe350273a752ff0a5164eadcdb3b472", checked := Tryz.checked }
namespace Rows
def none {H : Type} : Left H := { results := [], args := [] }

/-- 'diwanlaw23.CoordAll': WHATEVER THE INPUT: true; the input reads as it did. -/
def coordAllSpec : ChangeSpec := { name := "coordAll", fn := fun _ => fun
  | [d1, d2, d3, d4, d5, d6] => { results := [.lit (.bool true)], args := [d1, d2, d3, d4, d5, d6] }
  | _ => none }
def coordAllRow : OpenClaim := { program := "ytloddmbbfkejcaagreat", sum := "d09a6e6bb2f96090153dd408fe41857eabe350273a752ff0a5164eadcdb3b472", func := "diwan/diwanlaw23.CoordAll", spec := "coordAll", unfollowed := true, recurses := true, apart := false }
def CoordAllSaid : Prop := coordAllRow.holds Tryz.pinned (OpenSpec.ofChange coordAllSpec)

/-- ITS FALSE NEIGHBOUR: 'it returns false'. Refute it at one input. -/
def coordAllWrong : ChangeSpec := { name := "coordAll", fn := fun _ => fun
  | [d1, d2, d3, d4, d5, d6] => { results := [.lit (.bool false)], args := [d1, d2, d3, d4, d5, d6] }
  | _ => none }
def CoordAllWrongFalsely : Prop := coordAllRow.holds Tryz.pinned (OpenSpec.ofChange coordAllWrong)

/-- 'diwanlaw19.ShardAll': WHATEVER THE INPUT: true; the input reads as it did. -/
def shardAllSpec : ChangeSpec := { name := "shardAll", fn := fun _ => fun
  | [d1, d2, d3, d4, d5] => { results := [.lit (.bool true)], args := [d1, d2, d3, d4, d5] }
  | _ => none }
def shardAllRow : OpenClaim := { program := "ytloddmbbfkejcaagreat", sum := "d09a6e6bb2f96090153dd408fe41857eabe350273a752ff0a5164eadcdb3b472", func := "diwan/diwanlaw19.ShardAll", spec := "shardAll", inPlace := ["slices.overlaps[diwan/api.Seat]", "slices.overlaps[diwan/api.Chain]"], unfollowed := true, recurses := true, apart := false }
def ShardAllSaid : Prop := shardAllRow.holds Tryz.pinned (OpenSpec.ofChange shardAllSpec)

/-- ITS FALSE NEIGHBOUR: 'it returns false'. Refute it at one input. -/
def shardAllWrong : ChangeSpec := { name := "shardAll", fn := fun _ => fun
  | [d1, d2, d3, d4, d5] => { results := [.lit (.bool false)], args := [d1, d2, d3, d4, d5] }
  | _ => none }
def ShardAllWrongFalsely : Prop := shardAllRow.holds Tryz.pinned (OpenSpec.ofChange shardAllWrong)

/-- 'diwanlaw19.ShardMay': WHATEVER THE INPUT: true; the input reads as it did. -/
def shardMaySpec : ChangeSpec := { name := "shardMay", fn := fun _ => fun
  | [d1, d2, d3, d4, d5, d6] => { results := [.lit (.bool true)], args := [d1, d2, d3, d4, d5, d6] }
  | _ => none }
def shardMayRow : OpenClaim := { program := "ytloddmbbfkejcaagreat", sum := "d09a6e6bb2f96090153dd408fe41857eabe350273a752ff0a5164eadcdb3b472", func := "diwan/diwanlaw19.ShardMay", spec := "shardMay", inPlace := ["slices.overlaps[diwan/api.Seat]", "slices.overlaps[diwan/api.Chain]"], unfollowed := true, recurses := true, apart := false }
def ShardMaySaid : Prop := shardMayRow.holds Tryz.pinned (OpenSpec.ofChange shardMaySpec)

/-- ITS FALSE NEIGHBOUR: 'it returns false'. Refute it at one input. -/
def shardMayWrong : ChangeSpec := { name := "shardMay", fn := fun _ => fun
  | [d1, d2, d3, d4, d5, d6] => { results := [.lit (.bool false)], args := [d1, d2, d3, d4, d5, d6] }
  | _ => none }
def ShardMayWrongFalsely : Prop := shardMayRow.holds Tryz.pinned (OpenSpec.ofChange shardMayWrong)

/-- 'diwanlaw19.ShardsAgree': WHATEVER THE INPUT: true; the input reads as it did. -/
def shardsAgreeSpec : ChangeSpec := { name := "shardsAgree", fn := fun _ => fun
  | [d1, d2] => { results := [.lit (.bool true)], args := [d1, d2] }
  | _ => none }
def shardsAgreeRow : OpenClaim := { program := "ytloddmbbfkejcaagreat", sum := "d09a6e6bb2f96090153dd408fe41857eabe350273a752ff0a5164eadcdb3b472", func := "diwan/diwanlaw19.ShardsAgree", spec := "shardsAgree", inPlace := ["slices.overlaps[diwan/api.Seat]", "slices.overlaps[diwan/api.Chain]"], unfollowed := true, recurses := true, apart := false }
def ShardsAgreeSaid : Prop := shardsAgreeRow.holds Tryz.pinned (OpenSpec.ofChange shardsAgreeSpec)

/-- ITS FALSE NEIGHBOUR: 'it returns false'. Refute it at one input. -/
def shardsAgreeWrong : ChangeSpec := { name := "shardsAgree", fn := fun _ => fun
  | [d1, d2] => { results := [.lit (.bool false)], args := [d1, d2] }
  | _ => none }
def ShardsAgreeWrongFalsely : Prop := shardsAgreeRow.holds Tryz.pinned (OpenSpec.ofChange shardsAgreeWrong)

/-- 'diwanlaw19.ShardsLate': WHATEVER THE INPUT: true; the input reads as it did. -/
def shardsLateSpec : ChangeSpec := { name := "shardsLate", fn := fun _ => fun
  | [d1, d2, d3] => { results := [.lit (.bool true)], args := [d1, d2, d3] }
  | _ => none }
def shardsLateRow : OpenClaim := { program := "ytloddmbbfkejcaagreat", sum := "d09a6e6bb2f96090153dd408fe41857eabe350273a752ff0a5164eadcdb3b472", func := "diwan/diwanlaw19.ShardsLate", spec := "shardsLate", inPlace := ["slices.overlaps[diwan/api.Seat]", "slices.overlaps[diwan/api.Chain]"], unfollowed := true, recurses := true, apart := false }
def ShardsLateSaid : Prop := shardsLateRow.holds Tryz.pinned (OpenSpec.ofChange shardsLateSpec)

/-- ITS FALSE NEIGHBOUR: 'it returns false'. Refute it at one input. -/
def shardsLateWrong : ChangeSpec := { name := "shardsLate", fn := fun _ => fun
  | [d1, d2, d3] => { results := [.lit (.bool false)], args := [d1, d2, d3] }
  | _ => none }
def ShardsLateWrongFalsely : Prop := shardsLateRow.holds Tryz.pinned (OpenSpec.ofChange shardsLateWrong)

/-- 'diwanlaw19.ShardOne': WHATEVER THE INPUT: true; the input reads as it did. -/
def shardOneSpec : ChangeSpec := { name := "shardOne", fn := fun _ => fun
  | [d] => { results := [.lit (.bool true)], args := [d] }
  | _ => none }
def shardOneRow : OpenClaim := { program := "ytloddmbbfkejcaagreat", sum := "d09a6e6bb2f96090153dd408fe41857eabe350273a752ff0a5164eadcdb3b472", func := "diwan/diwanlaw19.ShardOne", spec := "shardOne", inPlace := ["slices.overlaps[diwan/api.Seat]", "slices.overlaps[diwan/api.Chain]"], unfollowed := true, recurses := true, apart := false }
def ShardOneSaid : Prop := shardOneRow.holds Tryz.pinned (OpenSpec.ofChange shardOneSpec)

/-- ITS FALSE NEIGHBOUR: 'it returns false'. Refute it at one input. -/
def shardOneWrong : ChangeSpec := { name := "shardOne", fn := fun _ => fun
  | [d] => { results := [.lit (.bool false)], args := [d] }
  | _ => none }
def ShardOneWrongFalsely : Prop := shardOneRow.holds Tryz.pinned (OpenSpec.ofChange shardOneWrong)

/-- 'diwanlaw19.ShardForms': WHATEVER THE INPUT: true; the input reads as it did. -/
def shardFormsSpec : ChangeSpec := { name := "shardForms", fn := fun _ => fun
  | [] => { results := [.lit (.bool true)], args := [] }
  | _ => none }
def shardFormsRow : OpenClaim := { program := "ytloddmbbfkejcaagreat", sum := "d09a6e6bb2f96090153dd408fe41857eabe350273a752ff0a5164eadcdb3b472", func := "diwan/diwanlaw19.ShardForms", spec := "shardForms", inPlace := ["slices.overlaps[diwan/api.Seat]", "slices.overlaps[diwan/api.Chain]"], unfollowed := true, recurses := true, apart := false }
def ShardFormsSaid : Prop := shardFormsRow.holds Tryz.pinned (OpenSpec.ofChange shardFormsSpec)

/-- ITS FALSE NEIGHBOUR: 'it returns false'. Refute it at one input. -/
def shardFormsWrong : ChangeSpec := { name := "shardForms", fn := fun _ => fun
  | [] => { results := [.lit (.bool false)], args := [] }
  | _ => none }
def ShardFormsWrongFalsely : Prop := shardFormsRow.holds Tryz.pinned (OpenSpec.ofChange shardFormsWrong)

/-- 'diwanlaw19.ShardWaits': WHATEVER THE INPUT: true; the input reads as it did. -/
def shardWaitsSpec : ChangeSpec := { name := "shardWaits", fn := fun _ => fun
  | [d1, d2, d3, d4] => { results := [.lit (.bool true)], args := [d1, d2, d3, d4] }
  | _ => none }
def shardWaitsRow : OpenClaim := { program := "ytloddmbbfkejcaagreat", sum := "d09a6e6bb2f96090153dd408fe41857eabe350273a752ff0a5164eadcdb3b472", func := "diwan/diwanlaw19.ShardWaits", spec := "shardWaits", inPlace := ["slices.overlaps[diwan/api.Seat]", "slices.overlaps[diwan/api.Chain]"], unfollowed := true, recurses := true, apart := false }
def ShardWaitsSaid : Prop := shardWaitsRow.holds Tryz.pinned (OpenSpec.ofChange shardWaitsSpec)

/-- ITS FALSE NEIGHBOUR: 'it returns false'. Refute it at one input. -/
def shardWaitsWrong : ChangeSpec := { name := "shardWaits", fn := fun _ => fun
  | [d1, d2, d3, d4] => { results := [.lit (.bool false)], args := [d1, d2, d3, d4] }
  | _ => none }
def ShardWaitsWrongFalsely : Prop := shardWaitsRow.holds Tryz.pinned (OpenSpec.ofChange shardWaitsWrong)

/- THE SECOND FORM. 'bulk': how many values and letters a reading holds, each counted each time it is reached (what is shared counts as often as it is met; a slice's spare places count too). A statement '..UptoSaid' is the law's where the arguments, and the package variables that the reading takes, are together of bulk at most 1048576: NARROWER than '..Said'. Prove '..Said' where nothing that the law and all that it calls make is longer than what came in: it says more and counts as full. Else prove '..UptoSaid'. A law counts once. -/
mutual
def uptoBulk {H : Type} : DataW H → Nat
  | .lit (.string bytes) => bytes.length + 1
  | .lit _ => 1
  | .nil => 1
  | .ptr d => uptoBulk d + 1
  | .slice elems spare => uptoBulkAll elems + uptoBulkAll spare + 1
  | .agg parts => uptoBulkAll parts + 1
  | .iface _ d => uptoBulk d + 1
  | .map entries => uptoBulkEntries entries + 1
  | .held _ => 1
def uptoBulkAll {H : Type} : List (DataW H) → Nat
  | [] => 0
  | d :: r => uptoBulk d + uptoBulkAll r
def uptoBulkEntries {H : Type} : List (Lit × DataW H) → Nat
  | [] => 0
  | x :: r => uptoBulkEntry x + uptoBulkEntries r
def uptoBulkEntry {H : Type} : Lit × DataW H → Nat
  | (.string bytes, d) => bytes.length + uptoBulk d + 1
  | (_, d) => uptoBulk d + 1
 end
def uptoSmall : (H : Type) → List (DataW H) → Bool := fun _ ds => decide (uptoBulkAll ds ≤ 1048576)
def OpenSpec.upto (s : _root_.Go.ChangeSpec) : _root_.Go.OpenSpec := { _root_.Go.OpenSpec.ofChange s with cond := some uptoSmall }

/-- 'diwanlaw23.CoordAll', WHERE WHAT IT READS IS OF BULK AT MOST 1048576: true; the input reads as it did. -/
def coordAllUptoRow : OpenClaim := { program := "ytloddmbbfkejcaagreat", sum := "d09a6e6bb2f96090153dd408fe41857eabe350273a752ff0a5164eadcdb3b472", func := "diwan/diwanlaw23.CoordAll", spec := "coordAll", unfollowed := true, recurses := true, apart := false, narrowed := true }
def CoordAllUptoSaid : Prop := coordAllUptoRow.holds Tryz.pinned (OpenSpec.upto coordAllSpec)

/-- 'diwanlaw19.ShardAll', WHERE WHAT IT READS IS OF BULK AT MOST 1048576: true; the input reads as it did. -/
def shardAllUptoRow : OpenClaim := { program := "ytloddmbbfkejcaagreat", sum := "d09a6e6bb2f96090153dd408fe41857eabe350273a752ff0a5164eadcdb3b472", func := "diwan/diwanlaw19.ShardAll", spec := "shardAll", inPlace := ["slices.overlaps[diwan/api.Seat]", "slices.overlaps[diwan/api.Chain]"], unfollowed := true, recurses := true, apart := false, narrowed := true }
def ShardAllUptoSaid : Prop := shardAllUptoRow.holds Tryz.pinned (OpenSpec.upto shardAllSpec)

/-- 'diwanlaw19.ShardMay', WHERE WHAT IT READS IS OF BULK AT MOST 1048576: true; the input reads as it did. -/
def shardMayUptoRow : OpenClaim := { program := "ytloddmbbfkejcaagreat", sum := "d09a6e6bb2f96090153dd408fe41857eabe350273a752ff0a5164eadcdb3b472", func := "diwan/diwanlaw19.ShardMay", spec := "shardMay", inPlace := ["slices.overlaps[diwan/api.Seat]", "slices.overlaps[diwan/api.Chain]"], unfollowed := true, recurses := true, apart := false, narrowed := true }
def ShardMayUptoSaid : Prop := shardMayUptoRow.holds Tryz.pinned (OpenSpec.upto shardMaySpec)

/-- 'diwanlaw19.ShardsAgree', WHERE WHAT IT READS IS OF BULK AT MOST 1048576: true; the input reads as it did. -/
def shardsAgreeUptoRow : OpenClaim := { program := "ytloddmbbfkejcaagreat", sum := "d09a6e6bb2f96090153dd408fe41857eabe350273a752ff0a5164eadcdb3b472", func := "diwan/diwanlaw19.ShardsAgree", spec := "shardsAgree", inPlace := ["slices.overlaps[diwan/api.Seat]", "slices.overlaps[diwan/api.Chain]"], unfollowed := true, recurses := true, apart := false, narrowed := true }
def ShardsAgreeUptoSaid : Prop := shardsAgreeUptoRow.holds Tryz.pinned (OpenSpec.upto shardsAgreeSpec)

/-- 'diwanlaw19.ShardsLate', WHERE WHAT IT READS IS OF BULK AT MOST 1048576: true; the input reads as it did. -/
def shardsLateUptoRow : OpenClaim := { program := "ytloddmbbfkejcaagreat", sum := "d09a6e6bb2f96090153dd408fe41857eabe350273a752ff0a5164eadcdb3b472", func := "diwan/diwanlaw19.ShardsLate", spec := "shardsLate", inPlace := ["slices.overlaps[diwan/api.Seat]", "slices.overlaps[diwan/api.Chain]"], unfollowed := true, recurses := true, apart := false, narrowed := true }
def ShardsLateUptoSaid : Prop := shardsLateUptoRow.holds Tryz.pinned (OpenSpec.upto shardsLateSpec)

/-- 'diwanlaw19.ShardOne', WHERE WHAT IT READS IS OF BULK AT MOST 1048576: true; the input reads as it did. -/
def shardOneUptoRow : OpenClaim := { program := "ytloddmbbfkejcaagreat", sum := "d09a6e6bb2f96090153dd408fe41857eabe350273a752ff0a5164eadcdb3b472", func := "diwan/diwanlaw19.ShardOne", spec := "shardOne", inPlace := ["slices.overlaps[diwan/api.Seat]", "slices.overlaps[diwan/api.Chain]"], unfollowed := true, recurses := true, apart := false, narrowed := true }
def ShardOneUptoSaid : Prop := shardOneUptoRow.holds Tryz.pinned (OpenSpec.upto shardOneSpec)

/-- 'diwanlaw19.ShardForms', WHERE WHAT IT READS IS OF BULK AT MOST 1048576: true; the input reads as it did. -/
def shardFormsUptoRow : OpenClaim := { program := "ytloddmbbfkejcaagreat", sum := "d09a6e6bb2f96090153dd408fe41857eabe350273a752ff0a5164eadcdb3b472", func := "diwan/diwanlaw19.ShardForms", spec := "shardForms", inPlace := ["slices.overlaps[diwan/api.Seat]", "slices.overlaps[diwan/api.Chain]"], unfollowed := true, recurses := true, apart := false, narrowed := true }
def ShardFormsUptoSaid : Prop := shardFormsUptoRow.holds Tryz.pinned (OpenSpec.upto shardFormsSpec)

/-- 'diwanlaw19.ShardWaits', WHERE WHAT IT READS IS OF BULK AT MOST 1048576: true; the input reads as it did. -/
def shardWaitsUptoRow : OpenClaim := { program := "ytloddmbbfkejcaagreat", sum := "d09a6e6bb2f96090153dd408fe41857eabe350273a752ff0a5164eadcdb3b472", func := "diwan/diwanlaw19.ShardWaits", spec := "shardWaits", inPlace := ["slices.overlaps[diwan/api.Seat]", "slices.overlaps[diwan/api.Chain]"], unfollowed := true, recurses := true, apart := false, narrowed := true }
def ShardWaitsUptoSaid : Prop := shardWaitsUptoRow.holds Tryz.pinned (OpenSpec.upto shardWaitsSpec)

end Rows
end Go.Proofs.YtloddmbbfkejcaaGreat
