/-
  No cell of these rows narrows 'for every input' (looked for: loops, veiled, ifaces, maps, wideKeys, modest, calm, conditions, laid).
  DERIVED. THE GIVEN ROWS OF THIS SEAT. 7 by the template 'for every input the law returns true; each argument reads behind the call as it read before'; 0 by the template 'total and deterministic' (their statements: YtbnaecdeocbkpaaTotals.lean).
  GIVEN WITH THE SEED: the statements are not yours to turn. If you find one false, say at which input.
  Laid BY PROGRAM, IN A SANDBOX (cutbox-rows.mjs): the forced cells as the released guide's own fill.sh prints them over the translation 69a19673d428c54b… (all of the seat's roots in one cut). By AI agents, Wed Nov 11 2026. No macro, syntax, notation, axiom, sorry.
-/
import Derived.Test.YtbnaecdeocbkpaaChecked
import GoSem.Claim
import GoSem.ClaimJoined
import GoSem.ClaimMapViews
import Derived.JoinedTies
import Derived.KernelRfl
namespace Go.Proofs.Ytbnaecdeocbkpaa
/- THE CELL 'sum', in the pinned program and in every row, IS THE sha256 OF THE DUMP (.gsa) THAT YtbnaecdeocbkpaaProg.lean LOADS. Nothing in Lean hashes anything: it is a label: what it is worth is what the hold of that sum in a sandbox is worth. -/
noncomputable def Try.pinned : Pinned := { name := "ytbnaecdeocbkpaa", sum := "69a19673d428c54bde1466f533036c74dc72eb14d8c7c93d4b46856f2a2498d5", checked := Try.checked }
namespace Rows
def none {H : Type} : Left H := { results := [], args := [] }

/-- 'sizarlaw27.PetitionsFactSpec': WHATEVER THE INPUT: true; the input reads as it did. -/
def petitionsFactSpecSpec : ChangeSpec := { name := "petitionsFactSpec", fn := fun _ => fun
  | [d1, d2, d3, d4, d5, d6, d7] => { results := [.lit (.bool true)], args := [d1, d2, d3, d4, d5, d6, d7] }
  | _ => none }
def petitionsFactSpecRow : OpenClaim := { program := "ytbnaecdeocbkpaa", sum := "69a19673d428c54bde1466f533036c74dc72eb14d8c7c93d4b46856f2a2498d5", func := "sizar/sizarlaw27.PetitionsFactSpec", spec := "petitionsFactSpec", unfollowed := true, recurses := true, apart := false }
def PetitionsFactSpecSaid : Prop := petitionsFactSpecRow.holds Try.pinned (OpenSpec.ofChange petitionsFactSpecSpec)

/-- ITS FALSE NEIGHBOUR: 'it returns false'. Refute it at one input. -/
def petitionsFactSpecWrong : ChangeSpec := { name := "petitionsFactSpec", fn := fun _ => fun
  | [d1, d2, d3, d4, d5, d6, d7] => { results := [.lit (.bool false)], args := [d1, d2, d3, d4, d5, d6, d7] }
  | _ => none }
def PetitionsFactSpecWrongFalsely : Prop := petitionsFactSpecRow.holds Try.pinned (OpenSpec.ofChange petitionsFactSpecWrong)

/-- 'sizarlaw27.PetitionsActiveSpec': WHATEVER THE INPUT: true; the input reads as it did. -/
def petitionsActiveSpecSpec : ChangeSpec := { name := "petitionsActiveSpec", fn := fun _ => fun
  | [d1, d2, d3, d4, d5, d6] => { results := [.lit (.bool true)], args := [d1, d2, d3, d4, d5, d6] }
  | _ => none }
def petitionsActiveSpecRow : OpenClaim := { program := "ytbnaecdeocbkpaa", sum := "69a19673d428c54bde1466f533036c74dc72eb14d8c7c93d4b46856f2a2498d5", func := "sizar/sizarlaw27.PetitionsActiveSpec", spec := "petitionsActiveSpec", unfollowed := true, recurses := true, apart := false }
def PetitionsActiveSpecSaid : Prop := petitionsActiveSpecRow.holds Try.pinned (OpenSpec.ofChange petitionsActiveSpecSpec)

/-- ITS FALSE NEIGHBOUR: 'it returns false'. Refute it at one input. -/
def petitionsActiveSpecWrong : ChangeSpec := { name := "petitionsActiveSpec", fn := fun _ => fun
  | [d1, d2, d3, d4, d5, d6] => { results := [.lit (.bool false)], args := [d1, d2, d3, d4, d5, d6] }
  | _ => none }
def PetitionsActiveSpecWrongFalsely : Prop := petitionsActiveSpecRow.holds Try.pinned (OpenSpec.ofChange petitionsActiveSpecWrong)

/-- 'sizarlaw27.PetitionsHeldSpec': WHATEVER THE INPUT: true; the input reads as it did. -/
def petitionsHeldSpecSpec : ChangeSpec := { name := "petitionsHeldSpec", fn := fun _ => fun
  | [d1, d2, d3, d4] => { results := [.lit (.bool true)], args := [d1, d2, d3, d4] }
  | _ => none }
def petitionsHeldSpecRow : OpenClaim := { program := "ytbnaecdeocbkpaa", sum := "69a19673d428c54bde1466f533036c74dc72eb14d8c7c93d4b46856f2a2498d5", func := "sizar/sizarlaw27.PetitionsHeldSpec", spec := "petitionsHeldSpec", unfollowed := true, recurses := true, apart := false }
def PetitionsHeldSpecSaid : Prop := petitionsHeldSpecRow.holds Try.pinned (OpenSpec.ofChange petitionsHeldSpecSpec)

/-- ITS FALSE NEIGHBOUR: 'it returns false'. Refute it at one input. -/
def petitionsHeldSpecWrong : ChangeSpec := { name := "petitionsHeldSpec", fn := fun _ => fun
  | [d1, d2, d3, d4] => { results := [.lit (.bool false)], args := [d1, d2, d3, d4] }
  | _ => none }
def PetitionsHeldSpecWrongFalsely : Prop := petitionsHeldSpecRow.holds Try.pinned (OpenSpec.ofChange petitionsHeldSpecWrong)

/-- 'sizarlaw27.PetitionsValid': WHATEVER THE INPUT: true; the input reads as it did. -/
def petitionsValidSpec : ChangeSpec := { name := "petitionsValid", fn := fun _ => fun
  | [d1, d2, d3, d4, d5, d6, d7] => { results := [.lit (.bool true)], args := [d1, d2, d3, d4, d5, d6, d7] }
  | _ => none }
def petitionsValidRow : OpenClaim := { program := "ytbnaecdeocbkpaa", sum := "69a19673d428c54bde1466f533036c74dc72eb14d8c7c93d4b46856f2a2498d5", func := "sizar/sizarlaw27.PetitionsValid", spec := "petitionsValid", unfollowed := true, recurses := true, apart := false }
def PetitionsValidSaid : Prop := petitionsValidRow.holds Try.pinned (OpenSpec.ofChange petitionsValidSpec)

/-- ITS FALSE NEIGHBOUR: 'it returns false'. Refute it at one input. -/
def petitionsValidWrong : ChangeSpec := { name := "petitionsValid", fn := fun _ => fun
  | [d1, d2, d3, d4, d5, d6, d7] => { results := [.lit (.bool false)], args := [d1, d2, d3, d4, d5, d6, d7] }
  | _ => none }
def PetitionsValidWrongFalsely : Prop := petitionsValidRow.holds Try.pinned (OpenSpec.ofChange petitionsValidWrong)

/-- 'sizarlaw27.PetitionsApplies': WHATEVER THE INPUT: true; the input reads as it did. -/
def petitionsAppliesSpec : ChangeSpec := { name := "petitionsApplies", fn := fun _ => fun
  | [d1, d2, d3, d4, d5, d6, d7, d8, d9] => { results := [.lit (.bool true)], args := [d1, d2, d3, d4, d5, d6, d7, d8, d9] }
  | _ => none }
def petitionsAppliesRow : OpenClaim := { program := "ytbnaecdeocbkpaa", sum := "69a19673d428c54bde1466f533036c74dc72eb14d8c7c93d4b46856f2a2498d5", func := "sizar/sizarlaw27.PetitionsApplies", spec := "petitionsApplies", unfollowed := true, recurses := true, apart := false }
def PetitionsAppliesSaid : Prop := petitionsAppliesRow.holds Try.pinned (OpenSpec.ofChange petitionsAppliesSpec)

/-- ITS FALSE NEIGHBOUR: 'it returns false'. Refute it at one input. -/
def petitionsAppliesWrong : ChangeSpec := { name := "petitionsApplies", fn := fun _ => fun
  | [d1, d2, d3, d4, d5, d6, d7, d8, d9] => { results := [.lit (.bool false)], args := [d1, d2, d3, d4, d5, d6, d7, d8, d9] }
  | _ => none }
def PetitionsAppliesWrongFalsely : Prop := petitionsAppliesRow.holds Try.pinned (OpenSpec.ofChange petitionsAppliesWrong)

/-- 'sizarlaw27.PetitionsGroups': WHATEVER THE INPUT: true; the input reads as it did. -/
def petitionsGroupsSpec : ChangeSpec := { name := "petitionsGroups", fn := fun _ => fun
  | [d1, d2, d3, d4, d5, d6, d7, d8] => { results := [.lit (.bool true)], args := [d1, d2, d3, d4, d5, d6, d7, d8] }
  | _ => none }
def petitionsGroupsRow : OpenClaim := { program := "ytbnaecdeocbkpaa", sum := "69a19673d428c54bde1466f533036c74dc72eb14d8c7c93d4b46856f2a2498d5", func := "sizar/sizarlaw27.PetitionsGroups", spec := "petitionsGroups", unfollowed := true, recurses := true, apart := false }
def PetitionsGroupsSaid : Prop := petitionsGroupsRow.holds Try.pinned (OpenSpec.ofChange petitionsGroupsSpec)

/-- ITS FALSE NEIGHBOUR: 'it returns false'. Refute it at one input. -/
def petitionsGroupsWrong : ChangeSpec := { name := "petitionsGroups", fn := fun _ => fun
  | [d1, d2, d3, d4, d5, d6, d7, d8] => { results := [.lit (.bool false)], args := [d1, d2, d3, d4, d5, d6, d7, d8] }
  | _ => none }
def PetitionsGroupsWrongFalsely : Prop := petitionsGroupsRow.holds Try.pinned (OpenSpec.ofChange petitionsGroupsWrong)

/-- 'sizarlaw27.PetitionsPast': WHATEVER THE INPUT: true; the input reads as it did. -/
def petitionsPastSpec : ChangeSpec := { name := "petitionsPast", fn := fun _ => fun
  | [d1, d2, d3, d4, d5, d6, d7] => { results := [.lit (.bool true)], args := [d1, d2, d3, d4, d5, d6, d7] }
  | _ => none }
def petitionsPastRow : OpenClaim := { program := "ytbnaecdeocbkpaa", sum := "69a19673d428c54bde1466f533036c74dc72eb14d8c7c93d4b46856f2a2498d5", func := "sizar/sizarlaw27.PetitionsPast", spec := "petitionsPast", unfollowed := true, recurses := true, apart := false }
def PetitionsPastSaid : Prop := petitionsPastRow.holds Try.pinned (OpenSpec.ofChange petitionsPastSpec)

/-- ITS FALSE NEIGHBOUR: 'it returns false'. Refute it at one input. -/
def petitionsPastWrong : ChangeSpec := { name := "petitionsPast", fn := fun _ => fun
  | [d1, d2, d3, d4, d5, d6, d7] => { results := [.lit (.bool false)], args := [d1, d2, d3, d4, d5, d6, d7] }
  | _ => none }
def PetitionsPastWrongFalsely : Prop := petitionsPastRow.holds Try.pinned (OpenSpec.ofChange petitionsPastWrong)

/- THE SECOND FORM. 'bulk': how many values and letters a reading holds, each counted each time it is reached (what is shared counts as often as it is met; a slice's spare places count too). A statement '..UptoSaid' is the law's where the arguments, and the package variables that the reading takes, are together of bulk at most 1048576: NARROWER than '..Said'. Prove '..Said' where nothing that the law and all that it calls make is longer than what came in: it says more and counts as full. Else prove '..UptoSaid'. A law counts once. -/
mutual
def uptoBulk {H : Type} : DataW H → Nat
  | .lit (.string bytes) => bytes.length + 1
  | .lit _ => 1
  | .nil => 1
  | .ptr d => uptoBulk d + 1
  | .slice elems spare => uptoBulkAll elems + uptoBulkAll spare + 1
  | .agg parts => uptoBulkAll parts + 1
  | .iface _ d => uptoBulk d + 1
  | .map entries => uptoBulkEntries entries + 1
  | .held _ => 1
def uptoBulkAll {H : Type} : List (DataW H) → Nat
  | [] => 0
  | d :: r => uptoBulk d + uptoBulkAll r
def uptoBulkEntries {H : Type} : List (Lit × DataW H) → Nat
  | [] => 0
  | x :: r => uptoBulkEntry x + uptoBulkEntries r
def uptoBulkEntry {H : Type} : Lit × DataW H → Nat
  | (.string bytes, d) => bytes.length + uptoBulk d + 1
  | (_, d) => uptoBulk d + 1
 end
def uptoSmall : (H : Type) → List (DataW H) → Bool := fun _ ds => decide (uptoBulkAll ds ≤ 1048576)
def OpenSpec.upto (s : _root_.Go.ChangeSpec) : _root_.Go.OpenSpec := { _root_.Go.OpenSpec.ofChange s with cond := some uptoSmall }

/-- 'sizarlaw27.PetitionsFactSpec', WHERE WHAT IT READS IS OF BULK AT MOST 1048576: true; the input reads as it did. -/
def petitionsFactSpecUptoRow : OpenClaim := { program := "ytbnaecdeocbkpaa", sum := "69a19673d428c54bde1466f533036c74dc72eb14d8c7c93d4b46856f2a2498d5", func := "sizar/sizarlaw27.PetitionsFactSpec", spec := "petitionsFactSpec", unfollowed := true, recurses := true, apart := false, narrowed := true }
def PetitionsFactSpecUptoSaid : Prop := petitionsFactSpecUptoRow.holds Try.pinned (OpenSpec.upto petitionsFactSpecSpec)

/-- 'sizarlaw27.PetitionsActiveSpec', WHERE WHAT IT READS IS OF BULK AT MOST 1048576: true; the input reads as it did. -/
def petitionsActiveSpecUptoRow : OpenClaim := { program := "ytbnaecdeocbkpaa", sum := "69a19673d428c54bde1466f533036c74dc72eb14d8c7c93d4b46856f2a2498d5", func := "sizar/sizarlaw27.PetitionsActiveSpec", spec := "petitionsActiveSpec", unfollowed := true, recurses := true, apart := false, narrowed := true }
def PetitionsActiveSpecUptoSaid : Prop := petitionsActiveSpecUptoRow.holds Try.pinned (OpenSpec.upto petitionsActiveSpecSpec)

/-- 'sizarlaw27.PetitionsHeldSpec', WHERE WHAT IT READS IS OF BULK AT MOST 1048576: true; the input reads as it did. -/
def petitionsHeldSpecUptoRow : OpenClaim := { program := "ytbnaecdeocbkpaa", sum := "69a19673d428c54bde1466f533036c74dc72eb14d8c7c93d4b46856f2a2498d5", func := "sizar/sizarlaw27.PetitionsHeldSpec", spec := "petitionsHeldSpec", unfollowed := true, recurses := true, apart := false, narrowed := true }
def PetitionsHeldSpecUptoSaid : Prop := petitionsHeldSpecUptoRow.holds Try.pinned (OpenSpec.upto petitionsHeldSpecSpec)

/-- 'sizarlaw27.PetitionsValid', WHERE WHAT IT READS IS OF BULK AT MOST 1048576: true; the input reads as it did. -/
def petitionsValidUptoRow : OpenClaim := { program := "ytbnaecdeocbkpaa", sum := "69a19673d428c54bde1466f533036c74dc72eb14d8c7c93d4b46856f2a2498d5", func := "sizar/sizarlaw27.PetitionsValid", spec := "petitionsValid", unfollowed := true, recurses := true, apart := false, narrowed := true }
def PetitionsValidUptoSaid : Prop := petitionsValidUptoRow.holds Try.pinned (OpenSpec.upto petitionsValidSpec)

/-- 'sizarlaw27.PetitionsApplies', WHERE WHAT IT READS IS OF BULK AT MOST 1048576: true; the input reads as it did. -/
def petitionsAppliesUptoRow : OpenClaim := { program := "ytbnaecdeocbkpaa", sum := "69a19673d428c54bde1466f533036c74dc72eb14d8c7c93d4b46856f2a2498d5", func := "sizar/sizarlaw27.PetitionsApplies", spec := "petitionsApplies", unfollowed := true, recurses := true, apart := false, narrowed := true }
def PetitionsAppliesUptoSaid : Prop := petitionsAppliesUptoRow.holds Try.pinned (OpenSpec.upto petitionsAppliesSpec)

/-- 'sizarlaw27.PetitionsGroups', WHERE WHAT IT READS IS OF BULK AT MOST 1048576: true; the input reads as it did. -/
def petitionsGroupsUptoRow : OpenClaim := { program := "ytbnaecdeocbkpaa", sum := "69a19673d428c54bde1466f533036c74dc72eb14d8c7c93d4b46856f2a2498d5", func := "sizar/sizarlaw27.PetitionsGroups", spec := "petitionsGroups", unfollowed := true, recurses := true, apart := false, narrowed := true }
def PetitionsGroupsUptoSaid : Prop := petitionsGroupsUptoRow.holds Try.pinned (OpenSpec.upto petitionsGroupsSpec)

/-- 'sizarlaw27.PetitionsPast', WHERE WHAT IT READS IS OF BULK AT MOST 1048576: true; the input reads as it did. -/
def petitionsPastUptoRow : OpenClaim := { program := "ytbnaecdeocbkpaa", sum := "69a19673d428c54bde1466f533036c74dc72eb14d8c7c93d4b46856f2a2498d5", func := "sizar/sizarlaw27.PetitionsPast", spec := "petitionsPast", unfollowed := true, recurses := true, apart := false, narrowed := true }
def PetitionsPastUptoSaid : Prop := petitionsPastUptoRow.holds Try.pinned (OpenSpec.upto petitionsPastSpec)

end Rows
end Go.Proofs.Ytbnaecdeocbkpaa
