/-
  No cell of these rows narrows 'for every input' (looked for: loops, veiled, ifaces, maps, wideKeys, modest, calm, conditions, laid).
  DERIVED. THE GIVEN ROWS OF THIS SEAT. 21 by the template 'for every input the law returns true; each argument reads behind the call as it read before'; 0 by the template 'total and deterministic' (their statements: YtkipbilnhpeacaaTotals.lean).
  GIVEN WITH THE SEED: the statements are not yours to turn. If you find one false, say at which input.
  Laid BY PROGRAM, IN A SANDBOX (cutbox-rows.mjs): the forced cells as the released guide's own fill.sh prints them over the translation fdc14e1d841b8f54… (all of the seat's roots in one cut). By AI agents, Wed Nov 11 2026. No macro, syntax, notation, axiom, sorry.
-/
import Derived.Test.YtkipbilnhpeacaaChecked
import GoSem.Claim
import GoSem.ClaimJoined
import GoSem.ClaimMapViews
import Derived.JoinedTies
import Derived.KernelRfl
namespace Go.Proofs.Ytkipbilnhpeacaa
/- THE CELL 'sum', in the pinned program and in every row, IS THE sha256 OF THE DUMP (.gsa) THAT YtkipbilnhpeacaaProg.lean LOADS. Nothing in Lean hashes anything: it is a label: what it is worth is what the hold of that sum in a sandbox is worth. -/
noncomputable def Try.pinned : Pinned := { name := "ytkipbilnhpeacaa", sum := "fdc14e1d841b8f5425ce7a26568467f459d8a52ec49eb43e8d3508c9e70dbec5", checked := Try.checked }
namespace Rows
def none {H : Type} : Left H := { results := [], args := [] }

/-- 'diwanlaw2.CrcAll': WHATEVER THE INPUT: true; the input reads as it did. -/
def crcAllSpec : ChangeSpec := { name := "crcAll", fn := fun _ => fun
  | [d] => { results := [.lit (.bool true)], args := [d] }
  | _ => none }
def crcAllRow : OpenClaim := { program := "ytkipbilnhpeacaa", sum := "fdc14e1d841b8f5425ce7a26568467f459d8a52ec49eb43e8d3508c9e70dbec5", func := "diwan/diwanlaw2.CrcAll", spec := "crcAll", unfollowed := true, recurses := true, apart := false }
def CrcAllSaid : Prop := crcAllRow.holds Try.pinned (OpenSpec.ofChange crcAllSpec)

/-- ITS FALSE NEIGHBOUR: 'it returns false'. Refute it at one input. -/
def crcAllWrong : ChangeSpec := { name := "crcAll", fn := fun _ => fun
  | [d] => { results := [.lit (.bool false)], args := [d] }
  | _ => none }
def CrcAllWrongFalsely : Prop := crcAllRow.holds Try.pinned (OpenSpec.ofChange crcAllWrong)

/-- 'diwanlaw2.CrcTurned': WHATEVER THE INPUT: true; the input reads as it did. -/
def crcTurnedSpec : ChangeSpec := { name := "crcTurned", fn := fun _ => fun
  | [d1, d2, d3] => { results := [.lit (.bool true)], args := [d1, d2, d3] }
  | _ => none }
def crcTurnedRow : OpenClaim := { program := "ytkipbilnhpeacaa", sum := "fdc14e1d841b8f5425ce7a26568467f459d8a52ec49eb43e8d3508c9e70dbec5", func := "diwan/diwanlaw2.CrcTurned", spec := "crcTurned", unfollowed := true, recurses := true, apart := false }
def CrcTurnedSaid : Prop := crcTurnedRow.holds Try.pinned (OpenSpec.ofChange crcTurnedSpec)

/-- ITS FALSE NEIGHBOUR: 'it returns false'. Refute it at one input. -/
def crcTurnedWrong : ChangeSpec := { name := "crcTurned", fn := fun _ => fun
  | [d1, d2, d3] => { results := [.lit (.bool false)], args := [d1, d2, d3] }
  | _ => none }
def CrcTurnedWrongFalsely : Prop := crcTurnedRow.holds Try.pinned (OpenSpec.ofChange crcTurnedWrong)

/-- 'diwanlaw2.CrcLine': WHATEVER THE INPUT: true; the input reads as it did. -/
def crcLineSpec : ChangeSpec := { name := "crcLine", fn := fun _ => fun
  | [d1, d2, d3] => { results := [.lit (.bool true)], args := [d1, d2, d3] }
  | _ => none }
def crcLineRow : OpenClaim := { program := "ytkipbilnhpeacaa", sum := "fdc14e1d841b8f5425ce7a26568467f459d8a52ec49eb43e8d3508c9e70dbec5", func := "diwan/diwanlaw2.CrcLine", spec := "crcLine", unfollowed := true, recurses := true, apart := false }
def CrcLineSaid : Prop := crcLineRow.holds Try.pinned (OpenSpec.ofChange crcLineSpec)

/-- ITS FALSE NEIGHBOUR: 'it returns false'. Refute it at one input. -/
def crcLineWrong : ChangeSpec := { name := "crcLine", fn := fun _ => fun
  | [d1, d2, d3] => { results := [.lit (.bool false)], args := [d1, d2, d3] }
  | _ => none }
def CrcLineWrongFalsely : Prop := crcLineRow.holds Try.pinned (OpenSpec.ofChange crcLineWrong)

/-- 'diwanlaw2.CrcForms': WHATEVER THE INPUT: true; the input reads as it did. -/
def crcFormsSpec : ChangeSpec := { name := "crcForms", fn := fun _ => fun
  | [] => { results := [.lit (.bool true)], args := [] }
  | _ => none }
def crcFormsRow : OpenClaim := { program := "ytkipbilnhpeacaa", sum := "fdc14e1d841b8f5425ce7a26568467f459d8a52ec49eb43e8d3508c9e70dbec5", func := "diwan/diwanlaw2.CrcForms", spec := "crcForms", unfollowed := true, recurses := true, apart := false }
def CrcFormsSaid : Prop := crcFormsRow.holds Try.pinned (OpenSpec.ofChange crcFormsSpec)

/-- ITS FALSE NEIGHBOUR: 'it returns false'. Refute it at one input. -/
def crcFormsWrong : ChangeSpec := { name := "crcForms", fn := fun _ => fun
  | [] => { results := [.lit (.bool false)], args := [] }
  | _ => none }
def CrcFormsWrongFalsely : Prop := crcFormsRow.holds Try.pinned (OpenSpec.ofChange crcFormsWrong)

/-- 'diwanlaw2.CrcRest': WHATEVER THE INPUT: true; the input reads as it did. -/
def crcRestSpec : ChangeSpec := { name := "crcRest", fn := fun _ => fun
  | [d] => { results := [.lit (.bool true)], args := [d] }
  | _ => none }
def crcRestRow : OpenClaim := { program := "ytkipbilnhpeacaa", sum := "fdc14e1d841b8f5425ce7a26568467f459d8a52ec49eb43e8d3508c9e70dbec5", func := "diwan/diwanlaw2.CrcRest", spec := "crcRest", unfollowed := true, recurses := true, apart := false }
def CrcRestSaid : Prop := crcRestRow.holds Try.pinned (OpenSpec.ofChange crcRestSpec)

/-- ITS FALSE NEIGHBOUR: 'it returns false'. Refute it at one input. -/
def crcRestWrong : ChangeSpec := { name := "crcRest", fn := fun _ => fun
  | [d] => { results := [.lit (.bool false)], args := [d] }
  | _ => none }
def CrcRestWrongFalsely : Prop := crcRestRow.holds Try.pinned (OpenSpec.ofChange crcRestWrong)

/-- 'diwanlaw4.KeyAll': WHATEVER THE INPUT: true; the input reads as it did. -/
def keyAllSpec : ChangeSpec := { name := "keyAll", fn := fun _ => fun
  | [d1, d2, d3, d4, d5] => { results := [.lit (.bool true)], args := [d1, d2, d3, d4, d5] }
  | _ => none }
def keyAllRow : OpenClaim := { program := "ytkipbilnhpeacaa", sum := "fdc14e1d841b8f5425ce7a26568467f459d8a52ec49eb43e8d3508c9e70dbec5", func := "diwan/diwanlaw4.KeyAll", spec := "keyAll", unfollowed := true, recurses := true, apart := false }
def KeyAllSaid : Prop := keyAllRow.holds Try.pinned (OpenSpec.ofChange keyAllSpec)

/-- ITS FALSE NEIGHBOUR: 'it returns false'. Refute it at one input. -/
def keyAllWrong : ChangeSpec := { name := "keyAll", fn := fun _ => fun
  | [d1, d2, d3, d4, d5] => { results := [.lit (.bool false)], args := [d1, d2, d3, d4, d5] }
  | _ => none }
def KeyAllWrongFalsely : Prop := keyAllRow.holds Try.pinned (OpenSpec.ofChange keyAllWrong)

/-- 'diwanlaw4.KeyShards': WHATEVER THE INPUT: true; the input reads as it did. -/
def keyShardsSpec : ChangeSpec := { name := "keyShards", fn := fun _ => fun
  | [d1, d2, d3] => { results := [.lit (.bool true)], args := [d1, d2, d3] }
  | _ => none }
def keyShardsRow : OpenClaim := { program := "ytkipbilnhpeacaa", sum := "fdc14e1d841b8f5425ce7a26568467f459d8a52ec49eb43e8d3508c9e70dbec5", func := "diwan/diwanlaw4.KeyShards", spec := "keyShards", unfollowed := true, recurses := true, apart := false }
def KeyShardsSaid : Prop := keyShardsRow.holds Try.pinned (OpenSpec.ofChange keyShardsSpec)

/-- ITS FALSE NEIGHBOUR: 'it returns false'. Refute it at one input. -/
def keyShardsWrong : ChangeSpec := { name := "keyShards", fn := fun _ => fun
  | [d1, d2, d3] => { results := [.lit (.bool false)], args := [d1, d2, d3] }
  | _ => none }
def KeyShardsWrongFalsely : Prop := keyShardsRow.holds Try.pinned (OpenSpec.ofChange keyShardsWrong)

/-- 'diwanlaw4.KeyForms': WHATEVER THE INPUT: true; the input reads as it did. -/
def keyFormsSpec : ChangeSpec := { name := "keyForms", fn := fun _ => fun
  | [] => { results := [.lit (.bool true)], args := [] }
  | _ => none }
def keyFormsRow : OpenClaim := { program := "ytkipbilnhpeacaa", sum := "fdc14e1d841b8f5425ce7a26568467f459d8a52ec49eb43e8d3508c9e70dbec5", func := "diwan/diwanlaw4.KeyForms", spec := "keyForms", unfollowed := true, recurses := true, apart := false }
def KeyFormsSaid : Prop := keyFormsRow.holds Try.pinned (OpenSpec.ofChange keyFormsSpec)

/-- ITS FALSE NEIGHBOUR: 'it returns false'. Refute it at one input. -/
def keyFormsWrong : ChangeSpec := { name := "keyForms", fn := fun _ => fun
  | [] => { results := [.lit (.bool false)], args := [] }
  | _ => none }
def KeyFormsWrongFalsely : Prop := keyFormsRow.holds Try.pinned (OpenSpec.ofChange keyFormsWrong)

/-- 'diwanlaw4.KeyWithin': WHATEVER THE INPUT: true; the input reads as it did. -/
def keyWithinSpec : ChangeSpec := { name := "keyWithin", fn := fun _ => fun
  | [d1, d2, d3, d4, d5] => { results := [.lit (.bool true)], args := [d1, d2, d3, d4, d5] }
  | _ => none }
def keyWithinRow : OpenClaim := { program := "ytkipbilnhpeacaa", sum := "fdc14e1d841b8f5425ce7a26568467f459d8a52ec49eb43e8d3508c9e70dbec5", func := "diwan/diwanlaw4.KeyWithin", spec := "keyWithin", unfollowed := true, recurses := true, apart := false }
def KeyWithinSaid : Prop := keyWithinRow.holds Try.pinned (OpenSpec.ofChange keyWithinSpec)

/-- ITS FALSE NEIGHBOUR: 'it returns false'. Refute it at one input. -/
def keyWithinWrong : ChangeSpec := { name := "keyWithin", fn := fun _ => fun
  | [d1, d2, d3, d4, d5] => { results := [.lit (.bool false)], args := [d1, d2, d3, d4, d5] }
  | _ => none }
def KeyWithinWrongFalsely : Prop := keyWithinRow.holds Try.pinned (OpenSpec.ofChange keyWithinWrong)

/-- 'diwanlaw25.NetAll': WHATEVER THE INPUT: true; the input reads as it did. -/
def netAllSpec : ChangeSpec := { name := "netAll", fn := fun _ => fun
  | [d] => { results := [.lit (.bool true)], args := [d] }
  | _ => none }
def netAllRow : OpenClaim := { program := "ytkipbilnhpeacaa", sum := "fdc14e1d841b8f5425ce7a26568467f459d8a52ec49eb43e8d3508c9e70dbec5", func := "diwan/diwanlaw25.NetAll", spec := "netAll", unfollowed := true, recurses := true, apart := false }
def NetAllSaid : Prop := netAllRow.holds Try.pinned (OpenSpec.ofChange netAllSpec)

/-- ITS FALSE NEIGHBOUR: 'it returns false'. Refute it at one input. -/
def netAllWrong : ChangeSpec := { name := "netAll", fn := fun _ => fun
  | [d] => { results := [.lit (.bool false)], args := [d] }
  | _ => none }
def NetAllWrongFalsely : Prop := netAllRow.holds Try.pinned (OpenSpec.ofChange netAllWrong)

/-- 'diwanlaw25.NetFull': WHATEVER THE INPUT: true; the input reads as it did. -/
def netFullSpec : ChangeSpec := { name := "netFull", fn := fun _ => fun
  | [d1, d2] => { results := [.lit (.bool true)], args := [d1, d2] }
  | _ => none }
def netFullRow : OpenClaim := { program := "ytkipbilnhpeacaa", sum := "fdc14e1d841b8f5425ce7a26568467f459d8a52ec49eb43e8d3508c9e70dbec5", func := "diwan/diwanlaw25.NetFull", spec := "netFull", unfollowed := true, recurses := true, apart := false }
def NetFullSaid : Prop := netFullRow.holds Try.pinned (OpenSpec.ofChange netFullSpec)

/-- ITS FALSE NEIGHBOUR: 'it returns false'. Refute it at one input. -/
def netFullWrong : ChangeSpec := { name := "netFull", fn := fun _ => fun
  | [d1, d2] => { results := [.lit (.bool false)], args := [d1, d2] }
  | _ => none }
def NetFullWrongFalsely : Prop := netFullRow.holds Try.pinned (OpenSpec.ofChange netFullWrong)

/-- 'diwanlaw25.NetOrder': WHATEVER THE INPUT: true; the input reads as it did. -/
def netOrderSpec : ChangeSpec := { name := "netOrder", fn := fun _ => fun
  | [d1, d2] => { results := [.lit (.bool true)], args := [d1, d2] }
  | _ => none }
def netOrderRow : OpenClaim := { program := "ytkipbilnhpeacaa", sum := "fdc14e1d841b8f5425ce7a26568467f459d8a52ec49eb43e8d3508c9e70dbec5", func := "diwan/diwanlaw25.NetOrder", spec := "netOrder", unfollowed := true, recurses := true, apart := false }
def NetOrderSaid : Prop := netOrderRow.holds Try.pinned (OpenSpec.ofChange netOrderSpec)

/-- ITS FALSE NEIGHBOUR: 'it returns false'. Refute it at one input. -/
def netOrderWrong : ChangeSpec := { name := "netOrder", fn := fun _ => fun
  | [d1, d2] => { results := [.lit (.bool false)], args := [d1, d2] }
  | _ => none }
def NetOrderWrongFalsely : Prop := netOrderRow.holds Try.pinned (OpenSpec.ofChange netOrderWrong)

/-- 'diwanlaw3.FrameAll': WHATEVER THE INPUT: true; the input reads as it did. -/
def frameAllSpec : ChangeSpec := { name := "frameAll", fn := fun _ => fun
  | [d1, d2] => { results := [.lit (.bool true)], args := [d1, d2] }
  | _ => none }
def frameAllRow : OpenClaim := { program := "ytkipbilnhpeacaa", sum := "fdc14e1d841b8f5425ce7a26568467f459d8a52ec49eb43e8d3508c9e70dbec5", func := "diwan/diwanlaw3.FrameAll", spec := "frameAll", unfollowed := true, recurses := true, apart := false }
def FrameAllSaid : Prop := frameAllRow.holds Try.pinned (OpenSpec.ofChange frameAllSpec)

/-- ITS FALSE NEIGHBOUR: 'it returns false'. Refute it at one input. -/
def frameAllWrong : ChangeSpec := { name := "frameAll", fn := fun _ => fun
  | [d1, d2] => { results := [.lit (.bool false)], args := [d1, d2] }
  | _ => none }
def FrameAllWrongFalsely : Prop := frameAllRow.holds Try.pinned (OpenSpec.ofChange frameAllWrong)

/-- 'diwanlaw3.FrameCut': WHATEVER THE INPUT: true; the input reads as it did. -/
def frameCutSpec : ChangeSpec := { name := "frameCut", fn := fun _ => fun
  | [d1, d2] => { results := [.lit (.bool true)], args := [d1, d2] }
  | _ => none }
def frameCutRow : OpenClaim := { program := "ytkipbilnhpeacaa", sum := "fdc14e1d841b8f5425ce7a26568467f459d8a52ec49eb43e8d3508c9e70dbec5", func := "diwan/diwanlaw3.FrameCut", spec := "frameCut", unfollowed := true, recurses := true, apart := false }
def FrameCutSaid : Prop := frameCutRow.holds Try.pinned (OpenSpec.ofChange frameCutSpec)

/-- ITS FALSE NEIGHBOUR: 'it returns false'. Refute it at one input. -/
def frameCutWrong : ChangeSpec := { name := "frameCut", fn := fun _ => fun
  | [d1, d2] => { results := [.lit (.bool false)], args := [d1, d2] }
  | _ => none }
def FrameCutWrongFalsely : Prop := frameCutRow.holds Try.pinned (OpenSpec.ofChange frameCutWrong)

/-- 'diwanlaw3.FrameTurned': WHATEVER THE INPUT: true; the input reads as it did. -/
def frameTurnedSpec : ChangeSpec := { name := "frameTurned", fn := fun _ => fun
  | [d1, d2, d3] => { results := [.lit (.bool true)], args := [d1, d2, d3] }
  | _ => none }
def frameTurnedRow : OpenClaim := { program := "ytkipbilnhpeacaa", sum := "fdc14e1d841b8f5425ce7a26568467f459d8a52ec49eb43e8d3508c9e70dbec5", func := "diwan/diwanlaw3.FrameTurned", spec := "frameTurned", unfollowed := true, recurses := true, apart := false }
def FrameTurnedSaid : Prop := frameTurnedRow.holds Try.pinned (OpenSpec.ofChange frameTurnedSpec)

/-- ITS FALSE NEIGHBOUR: 'it returns false'. Refute it at one input. -/
def frameTurnedWrong : ChangeSpec := { name := "frameTurned", fn := fun _ => fun
  | [d1, d2, d3] => { results := [.lit (.bool false)], args := [d1, d2, d3] }
  | _ => none }
def FrameTurnedWrongFalsely : Prop := frameTurnedRow.holds Try.pinned (OpenSpec.ofChange frameTurnedWrong)

/-- 'diwanlaw3.FrameForms': WHATEVER THE INPUT: true; the input reads as it did. -/
def frameFormsSpec : ChangeSpec := { name := "frameForms", fn := fun _ => fun
  | [] => { results := [.lit (.bool true)], args := [] }
  | _ => none }
def frameFormsRow : OpenClaim := { program := "ytkipbilnhpeacaa", sum := "fdc14e1d841b8f5425ce7a26568467f459d8a52ec49eb43e8d3508c9e70dbec5", func := "diwan/diwanlaw3.FrameForms", spec := "frameForms", unfollowed := true, recurses := true, apart := false }
def FrameFormsSaid : Prop := frameFormsRow.holds Try.pinned (OpenSpec.ofChange frameFormsSpec)

/-- ITS FALSE NEIGHBOUR: 'it returns false'. Refute it at one input. -/
def frameFormsWrong : ChangeSpec := { name := "frameForms", fn := fun _ => fun
  | [] => { results := [.lit (.bool false)], args := [] }
  | _ => none }
def FrameFormsWrongFalsely : Prop := frameFormsRow.holds Try.pinned (OpenSpec.ofChange frameFormsWrong)

/-- 'diwanlaw3.FrameRow': WHATEVER THE INPUT: true; the input reads as it did. -/
def frameRowSpec : ChangeSpec := { name := "frameRow", fn := fun _ => fun
  | [d1, d2] => { results := [.lit (.bool true)], args := [d1, d2] }
  | _ => none }
def frameRowRow : OpenClaim := { program := "ytkipbilnhpeacaa", sum := "fdc14e1d841b8f5425ce7a26568467f459d8a52ec49eb43e8d3508c9e70dbec5", func := "diwan/diwanlaw3.FrameRow", spec := "frameRow", unfollowed := true, recurses := true, apart := false }
def FrameRowSaid : Prop := frameRowRow.holds Try.pinned (OpenSpec.ofChange frameRowSpec)

/-- ITS FALSE NEIGHBOUR: 'it returns false'. Refute it at one input. -/
def frameRowWrong : ChangeSpec := { name := "frameRow", fn := fun _ => fun
  | [d1, d2] => { results := [.lit (.bool false)], args := [d1, d2] }
  | _ => none }
def FrameRowWrongFalsely : Prop := frameRowRow.holds Try.pinned (OpenSpec.ofChange frameRowWrong)

/-- 'diwanlaw7.DiskAll': WHATEVER THE INPUT: true; the input reads as it did. -/
def diskAllSpec : ChangeSpec := { name := "diskAll", fn := fun _ => fun
  | [d1, d2] => { results := [.lit (.bool true)], args := [d1, d2] }
  | _ => none }
def diskAllRow : OpenClaim := { program := "ytkipbilnhpeacaa", sum := "fdc14e1d841b8f5425ce7a26568467f459d8a52ec49eb43e8d3508c9e70dbec5", func := "diwan/diwanlaw7.DiskAll", spec := "diskAll", inPlace := ["maps.clone"], unfollowed := true, recurses := true, apart := false }
def DiskAllSaid : Prop := diskAllRow.holds Try.pinned (OpenSpec.ofChange diskAllSpec)

/-- ITS FALSE NEIGHBOUR: 'it returns false'. Refute it at one input. -/
def diskAllWrong : ChangeSpec := { name := "diskAll", fn := fun _ => fun
  | [d1, d2] => { results := [.lit (.bool false)], args := [d1, d2] }
  | _ => none }
def DiskAllWrongFalsely : Prop := diskAllRow.holds Try.pinned (OpenSpec.ofChange diskAllWrong)

/-- 'diwanlaw7.DiskNone': WHATEVER THE INPUT: true; the input reads as it did. -/
def diskNoneSpec : ChangeSpec := { name := "diskNone", fn := fun _ => fun
  | [d1, d2] => { results := [.lit (.bool true)], args := [d1, d2] }
  | _ => none }
def diskNoneRow : OpenClaim := { program := "ytkipbilnhpeacaa", sum := "fdc14e1d841b8f5425ce7a26568467f459d8a52ec49eb43e8d3508c9e70dbec5", func := "diwan/diwanlaw7.DiskNone", spec := "diskNone", inPlace := ["maps.clone"], unfollowed := true, recurses := true, apart := false }
def DiskNoneSaid : Prop := diskNoneRow.holds Try.pinned (OpenSpec.ofChange diskNoneSpec)

/-- ITS FALSE NEIGHBOUR: 'it returns false'. Refute it at one input. -/
def diskNoneWrong : ChangeSpec := { name := "diskNone", fn := fun _ => fun
  | [d1, d2] => { results := [.lit (.bool false)], args := [d1, d2] }
  | _ => none }
def DiskNoneWrongFalsely : Prop := diskNoneRow.holds Try.pinned (OpenSpec.ofChange diskNoneWrong)

/-- 'diwanlaw7.DiskKeeps': WHATEVER THE INPUT: true; the input reads as it did. -/
def diskKeepsSpec : ChangeSpec := { name := "diskKeeps", fn := fun _ => fun
  | [d1, d2] => { results := [.lit (.bool true)], args := [d1, d2] }
  | _ => none }
def diskKeepsRow : OpenClaim := { program := "ytkipbilnhpeacaa", sum := "fdc14e1d841b8f5425ce7a26568467f459d8a52ec49eb43e8d3508c9e70dbec5", func := "diwan/diwanlaw7.DiskKeeps", spec := "diskKeeps", inPlace := ["maps.clone"], unfollowed := true, recurses := true, apart := false }
def DiskKeepsSaid : Prop := diskKeepsRow.holds Try.pinned (OpenSpec.ofChange diskKeepsSpec)

/-- ITS FALSE NEIGHBOUR: 'it returns false'. Refute it at one input. -/
def diskKeepsWrong : ChangeSpec := { name := "diskKeeps", fn := fun _ => fun
  | [d1, d2] => { results := [.lit (.bool false)], args := [d1, d2] }
  | _ => none }
def DiskKeepsWrongFalsely : Prop := diskKeepsRow.holds Try.pinned (OpenSpec.ofChange diskKeepsWrong)

/-- 'diwanlaw7.DiskCut': WHATEVER THE INPUT: true; the input reads as it did. -/
def diskCutSpec : ChangeSpec := { name := "diskCut", fn := fun _ => fun
  | [d1, d2, d3, d4] => { results := [.lit (.bool true)], args := [d1, d2, d3, d4] }
  | _ => none }
def diskCutRow : OpenClaim := { program := "ytkipbilnhpeacaa", sum := "fdc14e1d841b8f5425ce7a26568467f459d8a52ec49eb43e8d3508c9e70dbec5", func := "diwan/diwanlaw7.DiskCut", spec := "diskCut", inPlace := ["maps.clone"], unfollowed := true, recurses := true, apart := false }
def DiskCutSaid : Prop := diskCutRow.holds Try.pinned (OpenSpec.ofChange diskCutSpec)

/-- ITS FALSE NEIGHBOUR: 'it returns false'. Refute it at one input. -/
def diskCutWrong : ChangeSpec := { name := "diskCut", fn := fun _ => fun
  | [d1, d2, d3, d4] => { results := [.lit (.bool false)], args := [d1, d2, d3, d4] }
  | _ => none }
def DiskCutWrongFalsely : Prop := diskCutRow.holds Try.pinned (OpenSpec.ofChange diskCutWrong)

/- THE SECOND FORM. 'bulk': how many values and letters a reading holds, each counted each time it is reached (what is shared counts as often as it is met; a slice's spare places count too). A statement '..UptoSaid' is the law's where the arguments, and the package variables that the reading takes, are together of bulk at most 1048576: NARROWER than '..Said'. Prove '..Said' where nothing that the law and all that it calls make is longer than what came in: it says more and counts as full. Else prove '..UptoSaid'. A law counts once. -/
mutual
def uptoBulk {H : Type} : DataW H → Nat
  | .lit (.string bytes) => bytes.length + 1
  | .lit _ => 1
  | .nil => 1
  | .ptr d => uptoBulk d + 1
  | .slice elems spare => uptoBulkAll elems + uptoBulkAll spare + 1
  | .agg parts => uptoBulkAll parts + 1
  | .iface _ d => uptoBulk d + 1
  | .map entries => uptoBulkEntries entries + 1
  | .held _ => 1
def uptoBulkAll {H : Type} : List (DataW H) → Nat
  | [] => 0
  | d :: r => uptoBulk d + uptoBulkAll r
def uptoBulkEntries {H : Type} : List (Lit × DataW H) → Nat
  | [] => 0
  | x :: r => uptoBulkEntry x + uptoBulkEntries r
def uptoBulkEntry {H : Type} : Lit × DataW H → Nat
  | (.string bytes, d) => bytes.length + uptoBulk d + 1
  | (_, d) => uptoBulk d + 1
 end
def uptoSmall : (H : Type) → List (DataW H) → Bool := fun _ ds => decide (uptoBulkAll ds ≤ 1048576)
def OpenSpec.upto (s : _root_.Go.ChangeSpec) : _root_.Go.OpenSpec := { _root_.Go.OpenSpec.ofChange s with cond := some uptoSmall }

/-- 'diwanlaw2.CrcAll', WHERE WHAT IT READS IS OF BULK AT MOST 1048576: true; the input reads as it did. -/
def crcAllUptoRow : OpenClaim := { program := "ytkipbilnhpeacaa", sum := "fdc14e1d841b8f5425ce7a26568467f459d8a52ec49eb43e8d3508c9e70dbec5", func := "diwan/diwanlaw2.CrcAll", spec := "crcAll", unfollowed := true, recurses := true, apart := false, narrowed := true }
def CrcAllUptoSaid : Prop := crcAllUptoRow.holds Try.pinned (OpenSpec.upto crcAllSpec)

/-- 'diwanlaw2.CrcTurned', WHERE WHAT IT READS IS OF BULK AT MOST 1048576: true; the input reads as it did. -/
def crcTurnedUptoRow : OpenClaim := { program := "ytkipbilnhpeacaa", sum := "fdc14e1d841b8f5425ce7a26568467f459d8a52ec49eb43e8d3508c9e70dbec5", func := "diwan/diwanlaw2.CrcTurned", spec := "crcTurned", unfollowed := true, recurses := true, apart := false, narrowed := true }
def CrcTurnedUptoSaid : Prop := crcTurnedUptoRow.holds Try.pinned (OpenSpec.upto crcTurnedSpec)

/-- 'diwanlaw2.CrcLine', WHERE WHAT IT READS IS OF BULK AT MOST 1048576: true; the input reads as it did. -/
def crcLineUptoRow : OpenClaim := { program := "ytkipbilnhpeacaa", sum := "fdc14e1d841b8f5425ce7a26568467f459d8a52ec49eb43e8d3508c9e70dbec5", func := "diwan/diwanlaw2.CrcLine", spec := "crcLine", unfollowed := true, recurses := true, apart := false, narrowed := true }
def CrcLineUptoSaid : Prop := crcLineUptoRow.holds Try.pinned (OpenSpec.upto crcLineSpec)

/-- 'diwanlaw2.CrcForms', WHERE WHAT IT READS IS OF BULK AT MOST 1048576: true; the input reads as it did. -/
def crcFormsUptoRow : OpenClaim := { program := "ytkipbilnhpeacaa", sum := "fdc14e1d841b8f5425ce7a26568467f459d8a52ec49eb43e8d3508c9e70dbec5", func := "diwan/diwanlaw2.CrcForms", spec := "crcForms", unfollowed := true, recurses := true, apart := false, narrowed := true }
def CrcFormsUptoSaid : Prop := crcFormsUptoRow.holds Try.pinned (OpenSpec.upto crcFormsSpec)

/-- 'diwanlaw2.CrcRest', WHERE WHAT IT READS IS OF BULK AT MOST 1048576: true; the input reads as it did. -/
def crcRestUptoRow : OpenClaim := { program := "ytkipbilnhpeacaa", sum := "fdc14e1d841b8f5425ce7a26568467f459d8a52ec49eb43e8d3508c9e70dbec5", func := "diwan/diwanlaw2.CrcRest", spec := "crcRest", unfollowed := true, recurses := true, apart := false, narrowed := true }
def CrcRestUptoSaid : Prop := crcRestUptoRow.holds Try.pinned (OpenSpec.upto crcRestSpec)

/-- 'diwanlaw4.KeyAll', WHERE WHAT IT READS IS OF BULK AT MOST 1048576: true; the input reads as it did. -/
def keyAllUptoRow : OpenClaim := { program := "ytkipbilnhpeacaa", sum := "fdc14e1d841b8f5425ce7a26568467f459d8a52ec49eb43e8d3508c9e70dbec5", func := "diwan/diwanlaw4.KeyAll", spec := "keyAll", unfollowed := true, recurses := true, apart := false, narrowed := true }
def KeyAllUptoSaid : Prop := keyAllUptoRow.holds Try.pinned (OpenSpec.upto keyAllSpec)

/-- 'diwanlaw4.KeyShards', WHERE WHAT IT READS IS OF BULK AT MOST 1048576: true; the input reads as it did. -/
def keyShardsUptoRow : OpenClaim := { program := "ytkipbilnhpeacaa", sum := "fdc14e1d841b8f5425ce7a26568467f459d8a52ec49eb43e8d3508c9e70dbec5", func := "diwan/diwanlaw4.KeyShards", spec := "keyShards", unfollowed := true, recurses := true, apart := false, narrowed := true }
def KeyShardsUptoSaid : Prop := keyShardsUptoRow.holds Try.pinned (OpenSpec.upto keyShardsSpec)

/-- 'diwanlaw4.KeyForms', WHERE WHAT IT READS IS OF BULK AT MOST 1048576: true; the input reads as it did. -/
def keyFormsUptoRow : OpenClaim := { program := "ytkipbilnhpeacaa", sum := "fdc14e1d841b8f5425ce7a26568467f459d8a52ec49eb43e8d3508c9e70dbec5", func := "diwan/diwanlaw4.KeyForms", spec := "keyForms", unfollowed := true, recurses := true, apart := false, narrowed := true }
def KeyFormsUptoSaid : Prop := keyFormsUptoRow.holds Try.pinned (OpenSpec.upto keyFormsSpec)

/-- 'diwanlaw4.KeyWithin', WHERE WHAT IT READS IS OF BULK AT MOST 1048576: true; the input reads as it did. -/
def keyWithinUptoRow : OpenClaim := { program := "ytkipbilnhpeacaa", sum := "fdc14e1d841b8f5425ce7a26568467f459d8a52ec49eb43e8d3508c9e70dbec5", func := "diwan/diwanlaw4.KeyWithin", spec := "keyWithin", unfollowed := true, recurses := true, apart := false, narrowed := true }
def KeyWithinUptoSaid : Prop := keyWithinUptoRow.holds Try.pinned (OpenSpec.upto keyWithinSpec)

/-- 'diwanlaw25.NetAll', WHERE WHAT IT READS IS OF BULK AT MOST 1048576: true; the input reads as it did. -/
def netAllUptoRow : OpenClaim := { program := "ytkipbilnhpeacaa", sum := "fdc14e1d841b8f5425ce7a26568467f459d8a52ec49eb43e8d3508c9e70dbec5", func := "diwan/diwanlaw25.NetAll", spec := "netAll", unfollowed := true, recurses := true, apart := false, narrowed := true }
def NetAllUptoSaid : Prop := netAllUptoRow.holds Try.pinned (OpenSpec.upto netAllSpec)

/-- 'diwanlaw25.NetFull', WHERE WHAT IT READS IS OF BULK AT MOST 1048576: true; the input reads as it did. -/
def netFullUptoRow : OpenClaim := { program := "ytkipbilnhpeacaa", sum := "fdc14e1d841b8f5425ce7a26568467f459d8a52ec49eb43e8d3508c9e70dbec5", func := "diwan/diwanlaw25.NetFull", spec := "netFull", unfollowed := true, recurses := true, apart := false, narrowed := true }
def NetFullUptoSaid : Prop := netFullUptoRow.holds Try.pinned (OpenSpec.upto netFullSpec)

/-- 'diwanlaw25.NetOrder', WHERE WHAT IT READS IS OF BULK AT MOST 1048576: true; the input reads as it did. -/
def netOrderUptoRow : OpenClaim := { program := "ytkipbilnhpeacaa", sum := "fdc14e1d841b8f5425ce7a26568467f459d8a52ec49eb43e8d3508c9e70dbec5", func := "diwan/diwanlaw25.NetOrder", spec := "netOrder", unfollowed := true, recurses := true, apart := false, narrowed := true }
def NetOrderUptoSaid : Prop := netOrderUptoRow.holds Try.pinned (OpenSpec.upto netOrderSpec)

/-- 'diwanlaw3.FrameAll', WHERE WHAT IT READS IS OF BULK AT MOST 1048576: true; the input reads as it did. -/
def frameAllUptoRow : OpenClaim := { program := "ytkipbilnhpeacaa", sum := "fdc14e1d841b8f5425ce7a26568467f459d8a52ec49eb43e8d3508c9e70dbec5", func := "diwan/diwanlaw3.FrameAll", spec := "frameAll", unfollowed := true, recurses := true, apart := false, narrowed := true }
def FrameAllUptoSaid : Prop := frameAllUptoRow.holds Try.pinned (OpenSpec.upto frameAllSpec)

/-- 'diwanlaw3.FrameCut', WHERE WHAT IT READS IS OF BULK AT MOST 1048576: true; the input reads as it did. -/
def frameCutUptoRow : OpenClaim := { program := "ytkipbilnhpeacaa", sum := "fdc14e1d841b8f5425ce7a26568467f459d8a52ec49eb43e8d3508c9e70dbec5", func := "diwan/diwanlaw3.FrameCut", spec := "frameCut", unfollowed := true, recurses := true, apart := false, narrowed := true }
def FrameCutUptoSaid : Prop := frameCutUptoRow.holds Try.pinned (OpenSpec.upto frameCutSpec)

/-- 'diwanlaw3.FrameTurned', WHERE WHAT IT READS IS OF BULK AT MOST 1048576: true; the input reads as it did. -/
def frameTurnedUptoRow : OpenClaim := { program := "ytkipbilnhpeacaa", sum := "fdc14e1d841b8f5425ce7a26568467f459d8a52ec49eb43e8d3508c9e70dbec5", func := "diwan/diwanlaw3.FrameTurned", spec := "frameTurned", unfollowed := true, recurses := true, apart := false, narrowed := true }
def FrameTurnedUptoSaid : Prop := frameTurnedUptoRow.holds Try.pinned (OpenSpec.upto frameTurnedSpec)

/-- 'diwanlaw3.FrameForms', WHERE WHAT IT READS IS OF BULK AT MOST 1048576: true; the input reads as it did. -/
def frameFormsUptoRow : OpenClaim := { program := "ytkipbilnhpeacaa", sum := "fdc14e1d841b8f5425ce7a26568467f459d8a52ec49eb43e8d3508c9e70dbec5", func := "diwan/diwanlaw3.FrameForms", spec := "frameForms", unfollowed := true, recurses := true, apart := false, narrowed := true }
def FrameFormsUptoSaid : Prop := frameFormsUptoRow.holds Try.pinned (OpenSpec.upto frameFormsSpec)

/-- 'diwanlaw3.FrameRow', WHERE WHAT IT READS IS OF BULK AT MOST 1048576: true; the input reads as it did. -/
def frameRowUptoRow : OpenClaim := { program := "ytkipbilnhpeacaa", sum := "fdc14e1d841b8f5425ce7a26568467f459d8a52ec49eb43e8d3508c9e70dbec5", func := "diwan/diwanlaw3.FrameRow", spec := "frameRow", unfollowed := true, recurses := true, apart := false, narrowed := true }
def FrameRowUptoSaid : Prop := frameRowUptoRow.holds Try.pinned (OpenSpec.upto frameRowSpec)

/-- 'diwanlaw7.DiskAll', WHERE WHAT IT READS IS OF BULK AT MOST 1048576: true; the input reads as it did. -/
def diskAllUptoRow : OpenClaim := { program := "ytkipbilnhpeacaa", sum := "fdc14e1d841b8f5425ce7a26568467f459d8a52ec49eb43e8d3508c9e70dbec5", func := "diwan/diwanlaw7.DiskAll", spec := "diskAll", inPlace := ["maps.clone"], unfollowed := true, recurses := true, apart := false, narrowed := true }
def DiskAllUptoSaid : Prop := diskAllUptoRow.holds Try.pinned (OpenSpec.upto diskAllSpec)

/-- 'diwanlaw7.DiskNone', WHERE WHAT IT READS IS OF BULK AT MOST 1048576: true; the input reads as it did. -/
def diskNoneUptoRow : OpenClaim := { program := "ytkipbilnhpeacaa", sum := "fdc14e1d841b8f5425ce7a26568467f459d8a52ec49eb43e8d3508c9e70dbec5", func := "diwan/diwanlaw7.DiskNone", spec := "diskNone", inPlace := ["maps.clone"], unfollowed := true, recurses := true, apart := false, narrowed := true }
def DiskNoneUptoSaid : Prop := diskNoneUptoRow.holds Try.pinned (OpenSpec.upto diskNoneSpec)

/-- 'diwanlaw7.DiskKeeps', WHERE WHAT IT READS IS OF BULK AT MOST 1048576: true; the input reads as it did. -/
def diskKeepsUptoRow : OpenClaim := { program := "ytkipbilnhpeacaa", sum := "fdc14e1d841b8f5425ce7a26568467f459d8a52ec49eb43e8d3508c9e70dbec5", func := "diwan/diwanlaw7.DiskKeeps", spec := "diskKeeps", inPlace := ["maps.clone"], unfollowed := true, recurses := true, apart := false, narrowed := true }
def DiskKeepsUptoSaid : Prop := diskKeepsUptoRow.holds Try.pinned (OpenSpec.upto diskKeepsSpec)

/-- 'diwanlaw7.DiskCut', WHERE WHAT IT READS IS OF BULK AT MOST 1048576: true; the input reads as it did. -/
def diskCutUptoRow : OpenClaim := { program := "ytkipbilnhpeacaa", sum := "fdc14e1d841b8f5425ce7a26568467f459d8a52ec49eb43e8d3508c9e70dbec5", func := "diwan/diwanlaw7.DiskCut", spec := "diskCut", inPlace := ["maps.clone"], unfollowed := true, recurses := true, apart := false, narrowed := true }
def DiskCutUptoSaid : Prop := diskCutUptoRow.holds Try.pinned (OpenSpec.upto diskCutSpec)

end Rows
end Go.Proofs.Ytkipbilnhpeacaa
