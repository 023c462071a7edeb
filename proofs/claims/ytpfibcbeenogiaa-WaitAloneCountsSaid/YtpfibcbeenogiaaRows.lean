/-
  No cell of these rows narrows 'for every input' (looked for: loops, veiled, ifaces, maps, wideKeys, modest, calm, conditions, laid).
  DERIVED. THE GIVEN ROWS OF THIS SEAT. 9 by the template 'for every input the law returns true; each argument reads behind the call as it read before'; 0 by the template 'total and deterministic' (their statements: YtpfibcbeenogiaaTotals.lean).
  GIVEN WITH THE SEED: the statements are not yours to turn. If you find one false, say at which input.
  Laid BY PROGRAM, IN A SANDBOX (cutbox-rows.mjs): the forced cells as the released guide's own fill.sh prints them over the translation 5e77222863c22436… (all of the seat's roots in one cut). By AI agents, Wed Nov 11 2026. No macro, syntax, notation, axiom, sorry.
-/
import Derived.Test.YtpfibcbeenogiaaChecked
import GoSem.Claim
import GoSem.ClaimJoined
import GoSem.ClaimMapViews
import Derived.JoinedTies
import Derived.KernelRfl
namespace Go.Proofs.Ytpfibcbeenogiaa
/- THE CELL 'sum', in the pinned program and in every row, IS THE sha256 OF THE DUMP (.gsa) THAT YtpfibcbeenogiaaProg.lean LOADS. Nothing in Lean hashes anything: it is a label: what it is worth is what the hold of that sum in a sandbox is worth. -/
noncomputable def Try.pinned : Pinned := { name := "ytpfibcbeenogiaa", sum := "5e77222863c2243613ccb872297a1bf22200be4f59986bc9179d7a82c0897426", checked := Try.checked }
namespace Rows
def none {H : Type} : Left H := { results := [], args := [] }

/-- 'hallmootlaw18.VisibleMatchesSpec': WHATEVER THE INPUT: true; the input reads as it did. -/
def visibleMatchesSpecSpec : ChangeSpec := { name := "visibleMatchesSpec", fn := fun _ => fun
  | [d] => { results := [.lit (.bool true)], args := [d] }
  | _ => none }
def visibleMatchesSpecRow : OpenClaim := { program := "ytpfibcbeenogiaa", sum := "5e77222863c2243613ccb872297a1bf22200be4f59986bc9179d7a82c0897426", func := "hallmoot/hallmootlaw18.VisibleMatchesSpec", spec := "visibleMatchesSpec", unfollowed := true, recurses := true, apart := false }
def VisibleMatchesSpecSaid : Prop := visibleMatchesSpecRow.holds Try.pinned (OpenSpec.ofChange visibleMatchesSpecSpec)

/-- ITS FALSE NEIGHBOUR: 'it returns false'. Refute it at one input. -/
def visibleMatchesSpecWrong : ChangeSpec := { name := "visibleMatchesSpec", fn := fun _ => fun
  | [d] => { results := [.lit (.bool false)], args := [d] }
  | _ => none }
def VisibleMatchesSpecWrongFalsely : Prop := visibleMatchesSpecRow.holds Try.pinned (OpenSpec.ofChange visibleMatchesSpecWrong)

/-- 'hallmootlaw18.VisibleKeepsBits': WHATEVER THE INPUT: true; the input reads as it did. -/
def visibleKeepsBitsSpec : ChangeSpec := { name := "visibleKeepsBits", fn := fun _ => fun
  | [d1, d2] => { results := [.lit (.bool true)], args := [d1, d2] }
  | _ => none }
def visibleKeepsBitsRow : OpenClaim := { program := "ytpfibcbeenogiaa", sum := "5e77222863c2243613ccb872297a1bf22200be4f59986bc9179d7a82c0897426", func := "hallmoot/hallmootlaw18.VisibleKeepsBits", spec := "visibleKeepsBits", unfollowed := true, recurses := true, apart := false }
def VisibleKeepsBitsSaid : Prop := visibleKeepsBitsRow.holds Try.pinned (OpenSpec.ofChange visibleKeepsBitsSpec)

/-- ITS FALSE NEIGHBOUR: 'it returns false'. Refute it at one input. -/
def visibleKeepsBitsWrong : ChangeSpec := { name := "visibleKeepsBits", fn := fun _ => fun
  | [d1, d2] => { results := [.lit (.bool false)], args := [d1, d2] }
  | _ => none }
def VisibleKeepsBitsWrongFalsely : Prop := visibleKeepsBitsRow.holds Try.pinned (OpenSpec.ofChange visibleKeepsBitsWrong)

/-- 'hallmootlaw18.VisibleAlone': WHATEVER THE INPUT: true; the input reads as it did. -/
def visibleAloneSpec : ChangeSpec := { name := "visibleAlone", fn := fun _ => fun
  | [d1, d2, d3] => { results := [.lit (.bool true)], args := [d1, d2, d3] }
  | _ => none }
def visibleAloneRow : OpenClaim := { program := "ytpfibcbeenogiaa", sum := "5e77222863c2243613ccb872297a1bf22200be4f59986bc9179d7a82c0897426", func := "hallmoot/hallmootlaw18.VisibleAlone", spec := "visibleAlone", unfollowed := true, recurses := true, apart := false }
def VisibleAloneSaid : Prop := visibleAloneRow.holds Try.pinned (OpenSpec.ofChange visibleAloneSpec)

/-- ITS FALSE NEIGHBOUR: 'it returns false'. Refute it at one input. -/
def visibleAloneWrong : ChangeSpec := { name := "visibleAlone", fn := fun _ => fun
  | [d1, d2, d3] => { results := [.lit (.bool false)], args := [d1, d2, d3] }
  | _ => none }
def VisibleAloneWrongFalsely : Prop := visibleAloneRow.holds Try.pinned (OpenSpec.ofChange visibleAloneWrong)

/-- 'hallmootlaw18.VisibleUndoes': WHATEVER THE INPUT: true; the input reads as it did. -/
def visibleUndoesSpec : ChangeSpec := { name := "visibleUndoes", fn := fun _ => fun
  | [d] => { results := [.lit (.bool true)], args := [d] }
  | _ => none }
def visibleUndoesRow : OpenClaim := { program := "ytpfibcbeenogiaa", sum := "5e77222863c2243613ccb872297a1bf22200be4f59986bc9179d7a82c0897426", func := "hallmoot/hallmootlaw18.VisibleUndoes", spec := "visibleUndoes", unfollowed := true, recurses := true, apart := false }
def VisibleUndoesSaid : Prop := visibleUndoesRow.holds Try.pinned (OpenSpec.ofChange visibleUndoesSpec)

/-- ITS FALSE NEIGHBOUR: 'it returns false'. Refute it at one input. -/
def visibleUndoesWrong : ChangeSpec := { name := "visibleUndoes", fn := fun _ => fun
  | [d] => { results := [.lit (.bool false)], args := [d] }
  | _ => none }
def VisibleUndoesWrongFalsely : Prop := visibleUndoesRow.holds Try.pinned (OpenSpec.ofChange visibleUndoesWrong)

/-- 'hallmootlaw21.WaitMatchesSpec': WHATEVER THE INPUT: true; the input reads as it did. -/
def waitMatchesSpecSpec : ChangeSpec := { name := "waitMatchesSpec", fn := fun _ => fun
  | [d] => { results := [.lit (.bool true)], args := [d] }
  | _ => none }
def waitMatchesSpecRow : OpenClaim := { program := "ytpfibcbeenogiaa", sum := "5e77222863c2243613ccb872297a1bf22200be4f59986bc9179d7a82c0897426", func := "hallmoot/hallmootlaw21.WaitMatchesSpec", spec := "waitMatchesSpec", unfollowed := true, recurses := true, apart := false }
def WaitMatchesSpecSaid : Prop := waitMatchesSpecRow.holds Try.pinned (OpenSpec.ofChange waitMatchesSpecSpec)

/-- ITS FALSE NEIGHBOUR: 'it returns false'. Refute it at one input. -/
def waitMatchesSpecWrong : ChangeSpec := { name := "waitMatchesSpec", fn := fun _ => fun
  | [d] => { results := [.lit (.bool false)], args := [d] }
  | _ => none }
def WaitMatchesSpecWrongFalsely : Prop := waitMatchesSpecRow.holds Try.pinned (OpenSpec.ofChange waitMatchesSpecWrong)

/-- 'hallmootlaw21.WaitLosesNoWakeup': WHATEVER THE INPUT: true; the input reads as it did. -/
def waitLosesNoWakeupSpec : ChangeSpec := { name := "waitLosesNoWakeup", fn := fun _ => fun
  | [d] => { results := [.lit (.bool true)], args := [d] }
  | _ => none }
def waitLosesNoWakeupRow : OpenClaim := { program := "ytpfibcbeenogiaa", sum := "5e77222863c2243613ccb872297a1bf22200be4f59986bc9179d7a82c0897426", func := "hallmoot/hallmootlaw21.WaitLosesNoWakeup", spec := "waitLosesNoWakeup", unfollowed := true, recurses := true, apart := false }
def WaitLosesNoWakeupSaid : Prop := waitLosesNoWakeupRow.holds Try.pinned (OpenSpec.ofChange waitLosesNoWakeupSpec)

/-- ITS FALSE NEIGHBOUR: 'it returns false'. Refute it at one input. -/
def waitLosesNoWakeupWrong : ChangeSpec := { name := "waitLosesNoWakeup", fn := fun _ => fun
  | [d] => { results := [.lit (.bool false)], args := [d] }
  | _ => none }
def WaitLosesNoWakeupWrongFalsely : Prop := waitLosesNoWakeupRow.holds Try.pinned (OpenSpec.ofChange waitLosesNoWakeupWrong)

/-- 'hallmootlaw21.WaitRegisters': WHATEVER THE INPUT: true; the input reads as it did. -/
def waitRegistersSpec : ChangeSpec := { name := "waitRegisters", fn := fun _ => fun
  | [d] => { results := [.lit (.bool true)], args := [d] }
  | _ => none }
def waitRegistersRow : OpenClaim := { program := "ytpfibcbeenogiaa", sum := "5e77222863c2243613ccb872297a1bf22200be4f59986bc9179d7a82c0897426", func := "hallmoot/hallmootlaw21.WaitRegisters", spec := "waitRegisters", unfollowed := true, recurses := true, apart := false }
def WaitRegistersSaid : Prop := waitRegistersRow.holds Try.pinned (OpenSpec.ofChange waitRegistersSpec)

/-- ITS FALSE NEIGHBOUR: 'it returns false'. Refute it at one input. -/
def waitRegistersWrong : ChangeSpec := { name := "waitRegisters", fn := fun _ => fun
  | [d] => { results := [.lit (.bool false)], args := [d] }
  | _ => none }
def WaitRegistersWrongFalsely : Prop := waitRegistersRow.holds Try.pinned (OpenSpec.ofChange waitRegistersWrong)

/-- 'hallmootlaw21.WaitAloneCounts': WHATEVER THE INPUT: true; the input reads as it did. -/
def waitAloneCountsSpec : ChangeSpec := { name := "waitAloneCounts", fn := fun _ => fun
  | [d1, d2] => { results := [.lit (.bool true)], args := [d1, d2] }
  | _ => none }
def waitAloneCountsRow : OpenClaim := { program := "ytpfibcbeenogiaa", sum := "5e77222863c2243613ccb872297a1bf22200be4f59986bc9179d7a82c0897426", func := "hallmoot/hallmootlaw21.WaitAloneCounts", spec := "waitAloneCounts", unfollowed := true, recurses := true, apart := false }
def WaitAloneCountsSaid : Prop := waitAloneCountsRow.holds Try.pinned (OpenSpec.ofChange waitAloneCountsSpec)

/-- ITS FALSE NEIGHBOUR: 'it returns false'. Refute it at one input. -/
def waitAloneCountsWrong : ChangeSpec := { name := "waitAloneCounts", fn := fun _ => fun
  | [d1, d2] => { results := [.lit (.bool false)], args := [d1, d2] }
  | _ => none }
def WaitAloneCountsWrongFalsely : Prop := waitAloneCountsRow.holds Try.pinned (OpenSpec.ofChange waitAloneCountsWrong)

/-- 'hallmootlaw21.WaitRouseWakesMask': WHATEVER THE INPUT: true; the input reads as it did. -/
def waitRouseWakesMaskSpec : ChangeSpec := { name := "waitRouseWakesMask", fn := fun _ => fun
  | [d1, d2] => { results := [.lit (.bool true)], args := [d1, d2] }
  | _ => none }
def waitRouseWakesMaskRow : OpenClaim := { program := "ytpfibcbeenogiaa", sum := "5e77222863c2243613ccb872297a1bf22200be4f59986bc9179d7a82c0897426", func := "hallmoot/hallmootlaw21.WaitRouseWakesMask", spec := "waitRouseWakesMask", unfollowed := true, recurses := true, apart := false }
def WaitRouseWakesMaskSaid : Prop := waitRouseWakesMaskRow.holds Try.pinned (OpenSpec.ofChange waitRouseWakesMaskSpec)

/-- ITS FALSE NEIGHBOUR: 'it returns false'. Refute it at one input. -/
def waitRouseWakesMaskWrong : ChangeSpec := { name := "waitRouseWakesMask", fn := fun _ => fun
  | [d1, d2] => { results := [.lit (.bool false)], args := [d1, d2] }
  | _ => none }
def WaitRouseWakesMaskWrongFalsely : Prop := waitRouseWakesMaskRow.holds Try.pinned (OpenSpec.ofChange waitRouseWakesMaskWrong)

/- THE SECOND FORM. 'bulk': how many values and letters a reading holds, each counted each time it is reached (what is shared counts as often as it is met; a slice's spare places count too). A statement '..UptoSaid' is the law's where the arguments, and the package variables that the reading takes, are together of bulk at most 1048576: NARROWER than '..Said'. Prove '..Said' where nothing that the law and all that it calls make is longer than what came in: it says more and counts as full. Else prove '..UptoSaid'. A law counts once. -/
mutual
def uptoBulk {H : Type} : DataW H → Nat
  | .lit (.string bytes) => bytes.length + 1
  | .lit _ => 1
  | .nil => 1
  | .ptr d => uptoBulk d + 1
  | .slice elems spare => uptoBulkAll elems + uptoBulkAll spare + 1
  | .agg parts => uptoBulkAll parts + 1
  | .iface _ d => uptoBulk d + 1
  | .map entries => uptoBulkEntries entries + 1
  | .held _ => 1
def uptoBulkAll {H : Type} : List (DataW H) → Nat
  | [] => 0
  | d :: r => uptoBulk d + uptoBulkAll r
def uptoBulkEntries {H : Type} : List (Lit × DataW H) → Nat
  | [] => 0
  | x :: r => uptoBulkEntry x + uptoBulkEntries r
def uptoBulkEntry {H : Type} : Lit × DataW H → Nat
  | (.string bytes, d) => bytes.length + uptoBulk d + 1
  | (_, d) => uptoBulk d + 1
 end
def uptoSmall : (H : Type) → List (DataW H) → Bool := fun _ ds => decide (uptoBulkAll ds ≤ 1048576)
def OpenSpec.upto (s : _root_.Go.ChangeSpec) : _root_.Go.OpenSpec := { _root_.Go.OpenSpec.ofChange s with cond := some uptoSmall }

/-- 'hallmootlaw18.VisibleMatchesSpec', WHERE WHAT IT READS IS OF BULK AT MOST 1048576: true; the input reads as it did. -/
def visibleMatchesSpecUptoRow : OpenClaim := { program := "ytpfibcbeenogiaa", sum := "5e77222863c2243613ccb872297a1bf22200be4f59986bc9179d7a82c0897426", func := "hallmoot/hallmootlaw18.VisibleMatchesSpec", spec := "visibleMatchesSpec", unfollowed := true, recurses := true, apart := false, narrowed := true }
def VisibleMatchesSpecUptoSaid : Prop := visibleMatchesSpecUptoRow.holds Try.pinned (OpenSpec.upto visibleMatchesSpecSpec)

/-- 'hallmootlaw18.VisibleKeepsBits', WHERE WHAT IT READS IS OF BULK AT MOST 1048576: true; the input reads as it did. -/
def visibleKeepsBitsUptoRow : OpenClaim := { program := "ytpfibcbeenogiaa", sum := "5e77222863c2243613ccb872297a1bf22200be4f59986bc9179d7a82c0897426", func := "hallmoot/hallmootlaw18.VisibleKeepsBits", spec := "visibleKeepsBits", unfollowed := true, recurses := true, apart := false, narrowed := true }
def VisibleKeepsBitsUptoSaid : Prop := visibleKeepsBitsUptoRow.holds Try.pinned (OpenSpec.upto visibleKeepsBitsSpec)

/-- 'hallmootlaw18.VisibleAlone', WHERE WHAT IT READS IS OF BULK AT MOST 1048576: true; the input reads as it did. -/
def visibleAloneUptoRow : OpenClaim := { program := "ytpfibcbeenogiaa", sum := "5e77222863c2243613ccb872297a1bf22200be4f59986bc9179d7a82c0897426", func := "hallmoot/hallmootlaw18.VisibleAlone", spec := "visibleAlone", unfollowed := true, recurses := true, apart := false, narrowed := true }
def VisibleAloneUptoSaid : Prop := visibleAloneUptoRow.holds Try.pinned (OpenSpec.upto visibleAloneSpec)

/-- 'hallmootlaw18.VisibleUndoes', WHERE WHAT IT READS IS OF BULK AT MOST 1048576: true; the input reads as it did. -/
def visibleUndoesUptoRow : OpenClaim := { program := "ytpfibcbeenogiaa", sum := "5e77222863c2243613ccb872297a1bf22200be4f59986bc9179d7a82c0897426", func := "hallmoot/hallmootlaw18.VisibleUndoes", spec := "visibleUndoes", unfollowed := true, recurses := true, apart := false, narrowed := true }
def VisibleUndoesUptoSaid : Prop := visibleUndoesUptoRow.holds Try.pinned (OpenSpec.upto visibleUndoesSpec)

/-- 'hallmootlaw21.WaitMatchesSpec', WHERE WHAT IT READS IS OF BULK AT MOST 1048576: true; the input reads as it did. -/
def waitMatchesSpecUptoRow : OpenClaim := { program := "ytpfibcbeenogiaa", sum := "5e77222863c2243613ccb872297a1bf22200be4f59986bc9179d7a82c0897426", func := "hallmoot/hallmootlaw21.WaitMatchesSpec", spec := "waitMatchesSpec", unfollowed := true, recurses := true, apart := false, narrowed := true }
def WaitMatchesSpecUptoSaid : Prop := waitMatchesSpecUptoRow.holds Try.pinned (OpenSpec.upto waitMatchesSpecSpec)

/-- 'hallmootlaw21.WaitLosesNoWakeup', WHERE WHAT IT READS IS OF BULK AT MOST 1048576: true; the input reads as it did. -/
def waitLosesNoWakeupUptoRow : OpenClaim := { program := "ytpfibcbeenogiaa", sum := "5e77222863c2243613ccb872297a1bf22200be4f59986bc9179d7a82c0897426", func := "hallmoot/hallmootlaw21.WaitLosesNoWakeup", spec := "waitLosesNoWakeup", unfollowed := true, recurses := true, apart := false, narrowed := true }
def WaitLosesNoWakeupUptoSaid : Prop := waitLosesNoWakeupUptoRow.holds Try.pinned (OpenSpec.upto waitLosesNoWakeupSpec)

/-- 'hallmootlaw21.WaitRegisters', WHERE WHAT IT READS IS OF BULK AT MOST 1048576: true; the input reads as it did. -/
def waitRegistersUptoRow : OpenClaim := { program := "ytpfibcbeenogiaa", sum := "5e77222863c2243613ccb872297a1bf22200be4f59986bc9179d7a82c0897426", func := "hallmoot/hallmootlaw21.WaitRegisters", spec := "waitRegisters", unfollowed := true, recurses := true, apart := false, narrowed := true }
def WaitRegistersUptoSaid : Prop := waitRegistersUptoRow.holds Try.pinned (OpenSpec.upto waitRegistersSpec)

/-- 'hallmootlaw21.WaitAloneCounts', WHERE WHAT IT READS IS OF BULK AT MOST 1048576: true; the input reads as it did. -/
def waitAloneCountsUptoRow : OpenClaim := { program := "ytpfibcbeenogiaa", sum := "5e77222863c2243613ccb872297a1bf22200be4f59986bc9179d7a82c0897426", func := "hallmoot/hallmootlaw21.WaitAloneCounts", spec := "waitAloneCounts", unfollowed := true, recurses := true, apart := false, narrowed := true }
def WaitAloneCountsUptoSaid : Prop := waitAloneCountsUptoRow.holds Try.pinned (OpenSpec.upto waitAloneCountsSpec)

/-- 'hallmootlaw21.WaitRouseWakesMask', WHERE WHAT IT READS IS OF BULK AT MOST 1048576: true; the input reads as it did. -/
def waitRouseWakesMaskUptoRow : OpenClaim := { program := "ytpfibcbeenogiaa", sum := "5e77222863c2243613ccb872297a1bf22200be4f59986bc9179d7a82c0897426", func := "hallmoot/hallmootlaw21.WaitRouseWakesMask", spec := "waitRouseWakesMask", unfollowed := true, recurses := true, apart := false, narrowed := true }
def WaitRouseWakesMaskUptoSaid : Prop := waitRouseWakesMaskUptoRow.holds Try.pinned (OpenSpec.upto waitRouseWakesMaskSpec)

end Rows
end Go.Proofs.Ytpfibcbeenogiaa
