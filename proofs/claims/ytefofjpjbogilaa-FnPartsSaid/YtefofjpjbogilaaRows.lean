/-
  No cell of these rows narrows 'for every input' (looked for: loops, veiled, ifaces, maps, wideKeys, modest, calm, conditions, laid).
  DERIVED. THE GIVEN ROWS OF THIS SEAT. 6 by the template 'for every input the law returns true; each argument reads behind the call as it read before'; 0 by the template 'total and deterministic' (their statements: YtefofjpjbogilaaTotals.lean).
  GIVEN WITH THE SEED: the statements are not yours to turn. If you find one false, say at which input.
  Laid BY PROGRAM, IN A SANDBOX (cutbox-rows.mjs): the forced cells as the released guide's own fill.sh prints them over the translation 7cb43fa7b383f8bb… (all of the seat's roots in one cut). By AI agents, Wed Nov 11 2026. No macro, syntax, notation, axiom, sorry.
-/
import Derived.Test.YtefofjpjbogilaaChecked
import GoSem.Claim
import GoSem.ClaimJoined
import GoSem.ClaimMapViews
import Derived.JoinedTies
import Derived.KernelRfl
namespace Go.Proofs.Ytefofjpjbogilaa
/- THE CELL 'sum', in the pinned program and in every row, IS THE sha256 OF THE DUMP (.gsa) THAT YtefofjpjbogilaaProg.lean LOADS. Nothing in Lean hashes anything: it is a label: what it is worth is what the hold of that sum in a sandbox is worth. -/
noncomputable def Try.pinned : Pinned := { name := "ytefofjpjbogilaa", sum := "7cb43fa7b383f8bb72017dfd2d9203ae1ade0a1e95202c9636513364313b167b", checked := Try.checked }
namespace Rows
def none {H : Type} : Left H := { results := [], args := [] }

/-- 'laws.FnPorts': WHATEVER THE INPUT: true; the input reads as it did. -/
def fnPortsSpec : ChangeSpec := { name := "fnPorts", fn := fun _ => fun
  | [d] => { results := [.lit (.bool true)], args := [d] }
  | _ => none }
def fnPortsRow : OpenClaim := { program := "ytefofjpjbogilaa", sum := "7cb43fa7b383f8bb72017dfd2d9203ae1ade0a1e95202c9636513364313b167b", func := "loop.example/g00246/laws.FnPorts", spec := "fnPorts", apart := false }
def FnPortsSaid : Prop := fnPortsRow.holds Try.pinned (OpenSpec.ofChange fnPortsSpec)

/-- ITS FALSE NEIGHBOUR: 'it returns false'. Refute it at one input. -/
def fnPortsWrong : ChangeSpec := { name := "fnPorts", fn := fun _ => fun
  | [d] => { results := [.lit (.bool false)], args := [d] }
  | _ => none }
def FnPortsWrongFalsely : Prop := fnPortsRow.holds Try.pinned (OpenSpec.ofChange fnPortsWrong)

/-- 'laws.FnParts': WHATEVER THE INPUT: true; the input reads as it did. -/
def fnPartsSpec : ChangeSpec := { name := "fnParts", fn := fun _ => fun
  | [d] => { results := [.lit (.bool true)], args := [d] }
  | _ => none }
def fnPartsRow : OpenClaim := { program := "ytefofjpjbogilaa", sum := "7cb43fa7b383f8bb72017dfd2d9203ae1ade0a1e95202c9636513364313b167b", func := "loop.example/g00246/laws.FnParts", spec := "fnParts", unfollowed := true, recurses := true, apart := false }
def FnPartsSaid : Prop := fnPartsRow.holds Try.pinned (OpenSpec.ofChange fnPartsSpec)

/-- ITS FALSE NEIGHBOUR: 'it returns false'. Refute it at one input. -/
def fnPartsWrong : ChangeSpec := { name := "fnParts", fn := fun _ => fun
  | [d] => { results := [.lit (.bool false)], args := [d] }
  | _ => none }
def FnPartsWrongFalsely : Prop := fnPartsRow.holds Try.pinned (OpenSpec.ofChange fnPartsWrong)

/-- 'laws.FnExactItems': WHATEVER THE INPUT: true; the input reads as it did. -/
def fnExactItemsSpec : ChangeSpec := { name := "fnExactItems", fn := fun _ => fun
  | [d] => { results := [.lit (.bool true)], args := [d] }
  | _ => none }
def fnExactItemsRow : OpenClaim := { program := "ytefofjpjbogilaa", sum := "7cb43fa7b383f8bb72017dfd2d9203ae1ade0a1e95202c9636513364313b167b", func := "loop.example/g00246/laws.FnExactItems", spec := "fnExactItems", recurses := true, apart := false }
def FnExactItemsSaid : Prop := fnExactItemsRow.holds Try.pinned (OpenSpec.ofChange fnExactItemsSpec)

/-- ITS FALSE NEIGHBOUR: 'it returns false'. Refute it at one input. -/
def fnExactItemsWrong : ChangeSpec := { name := "fnExactItems", fn := fun _ => fun
  | [d] => { results := [.lit (.bool false)], args := [d] }
  | _ => none }
def FnExactItemsWrongFalsely : Prop := fnExactItemsRow.holds Try.pinned (OpenSpec.ofChange fnExactItemsWrong)

/-- 'laws.FnVolumes': WHATEVER THE INPUT: true; the input reads as it did. -/
def fnVolumesSpec : ChangeSpec := { name := "fnVolumes", fn := fun _ => fun
  | [d] => { results := [.lit (.bool true)], args := [d] }
  | _ => none }
def fnVolumesRow : OpenClaim := { program := "ytefofjpjbogilaa", sum := "7cb43fa7b383f8bb72017dfd2d9203ae1ade0a1e95202c9636513364313b167b", func := "loop.example/g00246/laws.FnVolumes", spec := "fnVolumes", recurses := true, apart := false }
def FnVolumesSaid : Prop := fnVolumesRow.holds Try.pinned (OpenSpec.ofChange fnVolumesSpec)

/-- ITS FALSE NEIGHBOUR: 'it returns false'. Refute it at one input. -/
def fnVolumesWrong : ChangeSpec := { name := "fnVolumes", fn := fun _ => fun
  | [d] => { results := [.lit (.bool false)], args := [d] }
  | _ => none }
def FnVolumesWrongFalsely : Prop := fnVolumesRow.holds Try.pinned (OpenSpec.ofChange fnVolumesWrong)

/-- 'laws.FnExactSeen': WHATEVER THE INPUT: true; the input reads as it did. -/
def fnExactSeenSpec : ChangeSpec := { name := "fnExactSeen", fn := fun _ => fun
  | [d1, d2] => { results := [.lit (.bool true)], args := [d1, d2] }
  | _ => none }
def fnExactSeenRow : OpenClaim := { program := "ytefofjpjbogilaa", sum := "7cb43fa7b383f8bb72017dfd2d9203ae1ade0a1e95202c9636513364313b167b", func := "loop.example/g00246/laws.FnExactSeen", spec := "fnExactSeen", apart := false }
def FnExactSeenSaid : Prop := fnExactSeenRow.holds Try.pinned (OpenSpec.ofChange fnExactSeenSpec)

/-- ITS FALSE NEIGHBOUR: 'it returns false'. Refute it at one input. -/
def fnExactSeenWrong : ChangeSpec := { name := "fnExactSeen", fn := fun _ => fun
  | [d1, d2] => { results := [.lit (.bool false)], args := [d1, d2] }
  | _ => none }
def FnExactSeenWrongFalsely : Prop := fnExactSeenRow.holds Try.pinned (OpenSpec.ofChange fnExactSeenWrong)

/-- 'laws.FnExactWhole': WHATEVER THE INPUT: true; the input reads as it did. -/
def fnExactWholeSpec : ChangeSpec := { name := "fnExactWhole", fn := fun _ => fun
  | [d] => { results := [.lit (.bool true)], args := [d] }
  | _ => none }
def fnExactWholeRow : OpenClaim := { program := "ytefofjpjbogilaa", sum := "7cb43fa7b383f8bb72017dfd2d9203ae1ade0a1e95202c9636513364313b167b", func := "loop.example/g00246/laws.FnExactWhole", spec := "fnExactWhole", unfollowed := true, recurses := true, apart := false }
def FnExactWholeSaid : Prop := fnExactWholeRow.holds Try.pinned (OpenSpec.ofChange fnExactWholeSpec)

/-- ITS FALSE NEIGHBOUR: 'it returns false'. Refute it at one input. -/
def fnExactWholeWrong : ChangeSpec := { name := "fnExactWhole", fn := fun _ => fun
  | [d] => { results := [.lit (.bool false)], args := [d] }
  | _ => none }
def FnExactWholeWrongFalsely : Prop := fnExactWholeRow.holds Try.pinned (OpenSpec.ofChange fnExactWholeWrong)

/- THE SECOND FORM. 'bulk': how many values and letters a reading holds, each counted each time it is reached (what is shared counts as often as it is met; a slice's spare places count too). A statement '..UptoSaid' is the law's where the arguments, and the package variables that the reading takes, are together of bulk at most 1048576: NARROWER than '..Said'. Prove '..Said' where nothing that the law and all that it calls make is longer than what came in: it says more and counts as full. Else prove '..UptoSaid'. A law counts once. -/
mutual
def uptoBulk {H : Type} : DataW H → Nat
  | .lit (.string bytes) => bytes.length + 1
  | .lit _ => 1
  | .nil => 1
  | .ptr d => uptoBulk d + 1
  | .slice elems spare => uptoBulkAll elems + uptoBulkAll spare + 1
  | .agg parts => uptoBulkAll parts + 1
  | .iface _ d => uptoBulk d + 1
  | .map entries => uptoBulkEntries entries + 1
  | .held _ => 1
def uptoBulkAll {H : Type} : List (DataW H) → Nat
  | [] => 0
  | d :: r => uptoBulk d + uptoBulkAll r
def uptoBulkEntries {H : Type} : List (Lit × DataW H) → Nat
  | [] => 0
  | x :: r => uptoBulkEntry x + uptoBulkEntries r
def uptoBulkEntry {H : Type} : Lit × DataW H → Nat
  | (.string bytes, d) => bytes.length + uptoBulk d + 1
  | (_, d) => uptoBulk d + 1
 end
def uptoSmall : (H : Type) → List (DataW H) → Bool := fun _ ds => decide (uptoBulkAll ds ≤ 1048576)
def OpenSpec.upto (s : _root_.Go.ChangeSpec) : _root_.Go.OpenSpec := { _root_.Go.OpenSpec.ofChange s with cond := some uptoSmall }

/-- 'laws.FnPorts', WHERE WHAT IT READS IS OF BULK AT MOST 1048576: true; the input reads as it did. -/
def fnPortsUptoRow : OpenClaim := { program := "ytefofjpjbogilaa", sum := "7cb43fa7b383f8bb72017dfd2d9203ae1ade0a1e95202c9636513364313b167b", func := "loop.example/g00246/laws.FnPorts", spec := "fnPorts", apart := false, narrowed := true }
def FnPortsUptoSaid : Prop := fnPortsUptoRow.holds Try.pinned (OpenSpec.upto fnPortsSpec)

/-- 'laws.FnParts', WHERE WHAT IT READS IS OF BULK AT MOST 1048576: true; the input reads as it did. -/
def fnPartsUptoRow : OpenClaim := { program := "ytefofjpjbogilaa", sum := "7cb43fa7b383f8bb72017dfd2d9203ae1ade0a1e95202c9636513364313b167b", func := "loop.example/g00246/laws.FnParts", spec := "fnParts", unfollowed := true, recurses := true, apart := false, narrowed := true }
def FnPartsUptoSaid : Prop := fnPartsUptoRow.holds Try.pinned (OpenSpec.upto fnPartsSpec)

/-- 'laws.FnExactItems', WHERE WHAT IT READS IS OF BULK AT MOST 1048576: true; the input reads as it did. -/
def fnExactItemsUptoRow : OpenClaim := { program := "ytefofjpjbogilaa", sum := "7cb43fa7b383f8bb72017dfd2d9203ae1ade0a1e95202c9636513364313b167b", func := "loop.example/g00246/laws.FnExactItems", spec := "fnExactItems", recurses := true, apart := false, narrowed := true }
def FnExactItemsUptoSaid : Prop := fnExactItemsUptoRow.holds Try.pinned (OpenSpec.upto fnExactItemsSpec)

/-- 'laws.FnVolumes', WHERE WHAT IT READS IS OF BULK AT MOST 1048576: true; the input reads as it did. -/
def fnVolumesUptoRow : OpenClaim := { program := "ytefofjpjbogilaa", sum := "7cb43fa7b383f8bb72017dfd2d9203ae1ade0a1e95202c9636513364313b167b", func := "loop.example/g00246/laws.FnVolumes", spec := "fnVolumes", recurses := true, apart := false, narrowed := true }
def FnVolumesUptoSaid : Prop := fnVolumesUptoRow.holds Try.pinned (OpenSpec.upto fnVolumesSpec)

/-- 'laws.FnExactSeen', WHERE WHAT IT READS IS OF BULK AT MOST 1048576: true; the input reads as it did. -/
def fnExactSeenUptoRow : OpenClaim := { program := "ytefofjpjbogilaa", sum := "7cb43fa7b383f8bb72017dfd2d9203ae1ade0a1e95202c9636513364313b167b", func := "loop.example/g00246/laws.FnExactSeen", spec := "fnExactSeen", apart := false, narrowed := true }
def FnExactSeenUptoSaid : Prop := fnExactSeenUptoRow.holds Try.pinned (OpenSpec.upto fnExactSeenSpec)

/-- 'laws.FnExactWhole', WHERE WHAT IT READS IS OF BULK AT MOST 1048576: true; the input reads as it did. -/
def fnExactWholeUptoRow : OpenClaim := { program := "ytefofjpjbogilaa", sum := "7cb43fa7b383f8bb72017dfd2d9203ae1ade0a1e95202c9636513364313b167b", func := "loop.example/g00246/laws.FnExactWhole", spec := "fnExactWhole", unfollowed := true, recurses := true, apart := false, narrowed := true }
def FnExactWholeUptoSaid : Prop := fnExactWholeUptoRow.holds Try.pinned (OpenSpec.upto fnExactWholeSpec)

end Rows
end Go.Proofs.Ytefofjpjbogilaa
