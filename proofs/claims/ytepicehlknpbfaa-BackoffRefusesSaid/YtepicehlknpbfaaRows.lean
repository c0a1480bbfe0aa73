/-
  No cell of these rows narrows 'for every input' (looked for: loops, veiled, ifaces, maps, wideKeys, modest, calm, conditions, laid).
  DERIVED. THE GIVEN ROWS OF THIS SEAT. 8 by the template 'for every input the law returns true; each argument reads behind the call as it read before'; 0 by the template 'total and deterministic' (their statements: YtepicehlknpbfaaTotals.lean).
  GIVEN WITH THE SEED: the statements are not yours to turn. If you find one false, say at which input.
  Laid BY PROGRAM, IN A SANDBOX (cutbox-rows.mjs): the forced cells as the released guide's own fill.sh prints them over the translation 3e3ef7bd1073ff0e… (all of the seat's roots in one cut). By AI agents, Wed Nov 11 2026. No macro, syntax, notation, axiom, sorry.
-/
import Derived.Test.YtepicehlknpbfaaChecked
import GoSem.Claim
import GoSem.ClaimJoined
import GoSem.ClaimMapViews
import Derived.JoinedTies
import Derived.KernelRfl
namespace Go.Proofs.Ytepicehlknpbfaa
/- THE CELL 'sum', in the pinned program and in every row, IS THE sha256 OF THE DUMP (.gsa) THAT YtepicehlknpbfaaProg.lean LOADS. Nothing in Lean hashes anything: it is a label: what it is worth is what the hold of that sum in a sandbox is worth. -/
noncomputable def Try.pinned : Pinned := { name := "ytepicehlknpbfaa", sum := "3e3ef7bd1073ff0e41aa5f412b4d462c63736eb9c6e089090c60c18c84338196", checked := Try.checked }
namespace Rows
def none {H : Type} : Left H := { results := [], args := [] }

/-- 'estraylaw33.BackoffWaits': WHATEVER THE INPUT: true; the input reads as it did. -/
def backoffWaitsSpec : ChangeSpec := { name := "backoffWaits", fn := fun _ => fun
  | [d1, d2, d3] => { results := [.lit (.bool true)], args := [d1, d2, d3] }
  | _ => none }
def backoffWaitsRow : OpenClaim := { program := "ytepicehlknpbfaa", sum := "3e3ef7bd1073ff0e41aa5f412b4d462c63736eb9c6e089090c60c18c84338196", func := "estray/estraylaw33.BackoffWaits", spec := "backoffWaits", unfollowed := true, recurses := true, apart := false }
def BackoffWaitsSaid : Prop := backoffWaitsRow.holds Try.pinned (OpenSpec.ofChange backoffWaitsSpec)

/-- ITS FALSE NEIGHBOUR: 'it returns false'. Refute it at one input. -/
def backoffWaitsWrong : ChangeSpec := { name := "backoffWaits", fn := fun _ => fun
  | [d1, d2, d3] => { results := [.lit (.bool false)], args := [d1, d2, d3] }
  | _ => none }
def BackoffWaitsWrongFalsely : Prop := backoffWaitsRow.holds Try.pinned (OpenSpec.ofChange backoffWaitsWrong)

/-- 'estraylaw33.BackoffLists': WHATEVER THE INPUT: true; the input reads as it did. -/
def backoffListsSpec : ChangeSpec := { name := "backoffLists", fn := fun _ => fun
  | [d1, d2, d3] => { results := [.lit (.bool true)], args := [d1, d2, d3] }
  | _ => none }
def backoffListsRow : OpenClaim := { program := "ytepicehlknpbfaa", sum := "3e3ef7bd1073ff0e41aa5f412b4d462c63736eb9c6e089090c60c18c84338196", func := "estray/estraylaw33.BackoffLists", spec := "backoffLists", unfollowed := true, recurses := true, apart := false }
def BackoffListsSaid : Prop := backoffListsRow.holds Try.pinned (OpenSpec.ofChange backoffListsSpec)

/-- ITS FALSE NEIGHBOUR: 'it returns false'. Refute it at one input. -/
def backoffListsWrong : ChangeSpec := { name := "backoffLists", fn := fun _ => fun
  | [d1, d2, d3] => { results := [.lit (.bool false)], args := [d1, d2, d3] }
  | _ => none }
def BackoffListsWrongFalsely : Prop := backoffListsRow.holds Try.pinned (OpenSpec.ofChange backoffListsWrong)

/-- 'estraylaw33.BackoffNexts': WHATEVER THE INPUT: true; the input reads as it did. -/
def backoffNextsSpec : ChangeSpec := { name := "backoffNexts", fn := fun _ => fun
  | [d1, d2, d3, d4] => { results := [.lit (.bool true)], args := [d1, d2, d3, d4] }
  | _ => none }
def backoffNextsRow : OpenClaim := { program := "ytepicehlknpbfaa", sum := "3e3ef7bd1073ff0e41aa5f412b4d462c63736eb9c6e089090c60c18c84338196", func := "estray/estraylaw33.BackoffNexts", spec := "backoffNexts", unfollowed := true, recurses := true, apart := false }
def BackoffNextsSaid : Prop := backoffNextsRow.holds Try.pinned (OpenSpec.ofChange backoffNextsSpec)

/-- ITS FALSE NEIGHBOUR: 'it returns false'. Refute it at one input. -/
def backoffNextsWrong : ChangeSpec := { name := "backoffNexts", fn := fun _ => fun
  | [d1, d2, d3, d4] => { results := [.lit (.bool false)], args := [d1, d2, d3, d4] }
  | _ => none }
def BackoffNextsWrongFalsely : Prop := backoffNextsRow.holds Try.pinned (OpenSpec.ofChange backoffNextsWrong)

/-- 'estraylaw33.BackoffGrows': WHATEVER THE INPUT: true; the input reads as it did. -/
def backoffGrowsSpec : ChangeSpec := { name := "backoffGrows", fn := fun _ => fun
  | [d1, d2] => { results := [.lit (.bool true)], args := [d1, d2] }
  | _ => none }
def backoffGrowsRow : OpenClaim := { program := "ytepicehlknpbfaa", sum := "3e3ef7bd1073ff0e41aa5f412b4d462c63736eb9c6e089090c60c18c84338196", func := "estray/estraylaw33.BackoffGrows", spec := "backoffGrows", unfollowed := true, recurses := true, apart := false }
def BackoffGrowsSaid : Prop := backoffGrowsRow.holds Try.pinned (OpenSpec.ofChange backoffGrowsSpec)

/-- ITS FALSE NEIGHBOUR: 'it returns false'. Refute it at one input. -/
def backoffGrowsWrong : ChangeSpec := { name := "backoffGrows", fn := fun _ => fun
  | [d1, d2] => { results := [.lit (.bool false)], args := [d1, d2] }
  | _ => none }
def BackoffGrowsWrongFalsely : Prop := backoffGrowsRow.holds Try.pinned (OpenSpec.ofChange backoffGrowsWrong)

/-- 'estraylaw33.BackoffSums': WHATEVER THE INPUT: true; the input reads as it did. -/
def backoffSumsSpec : ChangeSpec := { name := "backoffSums", fn := fun _ => fun
  | [d1, d2, d3] => { results := [.lit (.bool true)], args := [d1, d2, d3] }
  | _ => none }
def backoffSumsRow : OpenClaim := { program := "ytepicehlknpbfaa", sum := "3e3ef7bd1073ff0e41aa5f412b4d462c63736eb9c6e089090c60c18c84338196", func := "estray/estraylaw33.BackoffSums", spec := "backoffSums", unfollowed := true, recurses := true, apart := false }
def BackoffSumsSaid : Prop := backoffSumsRow.holds Try.pinned (OpenSpec.ofChange backoffSumsSpec)

/-- ITS FALSE NEIGHBOUR: 'it returns false'. Refute it at one input. -/
def backoffSumsWrong : ChangeSpec := { name := "backoffSums", fn := fun _ => fun
  | [d1, d2, d3] => { results := [.lit (.bool false)], args := [d1, d2, d3] }
  | _ => none }
def BackoffSumsWrongFalsely : Prop := backoffSumsRow.holds Try.pinned (OpenSpec.ofChange backoffSumsWrong)

/-- 'estraylaw33.BackoffTimes': WHATEVER THE INPUT: true; the input reads as it did. -/
def backoffTimesSpec : ChangeSpec := { name := "backoffTimes", fn := fun _ => fun
  | [d1, d2, d3, d4] => { results := [.lit (.bool true)], args := [d1, d2, d3, d4] }
  | _ => none }
def backoffTimesRow : OpenClaim := { program := "ytepicehlknpbfaa", sum := "3e3ef7bd1073ff0e41aa5f412b4d462c63736eb9c6e089090c60c18c84338196", func := "estray/estraylaw33.BackoffTimes", spec := "backoffTimes", unfollowed := true, recurses := true, apart := false }
def BackoffTimesSaid : Prop := backoffTimesRow.holds Try.pinned (OpenSpec.ofChange backoffTimesSpec)

/-- ITS FALSE NEIGHBOUR: 'it returns false'. Refute it at one input. -/
def backoffTimesWrong : ChangeSpec := { name := "backoffTimes", fn := fun _ => fun
  | [d1, d2, d3, d4] => { results := [.lit (.bool false)], args := [d1, d2, d3, d4] }
  | _ => none }
def BackoffTimesWrongFalsely : Prop := backoffTimesRow.holds Try.pinned (OpenSpec.ofChange backoffTimesWrong)

/-- 'estraylaw33.BackoffLonger': WHATEVER THE INPUT: true; the input reads as it did. -/
def backoffLongerSpec : ChangeSpec := { name := "backoffLonger", fn := fun _ => fun
  | [d1, d2, d3, d4, d5] => { results := [.lit (.bool true)], args := [d1, d2, d3, d4, d5] }
  | _ => none }
def backoffLongerRow : OpenClaim := { program := "ytepicehlknpbfaa", sum := "3e3ef7bd1073ff0e41aa5f412b4d462c63736eb9c6e089090c60c18c84338196", func := "estray/estraylaw33.BackoffLonger", spec := "backoffLonger", unfollowed := true, recurses := true, apart := false }
def BackoffLongerSaid : Prop := backoffLongerRow.holds Try.pinned (OpenSpec.ofChange backoffLongerSpec)

/-- ITS FALSE NEIGHBOUR: 'it returns false'. Refute it at one input. -/
def backoffLongerWrong : ChangeSpec := { name := "backoffLonger", fn := fun _ => fun
  | [d1, d2, d3, d4, d5] => { results := [.lit (.bool false)], args := [d1, d2, d3, d4, d5] }
  | _ => none }
def BackoffLongerWrongFalsely : Prop := backoffLongerRow.holds Try.pinned (OpenSpec.ofChange backoffLongerWrong)

/-- 'estraylaw33.BackoffRefuses': WHATEVER THE INPUT: true; the input reads as it did. -/
def backoffRefusesSpec : ChangeSpec := { name := "backoffRefuses", fn := fun _ => fun
  | [d1, d2, d3] => { results := [.lit (.bool true)], args := [d1, d2, d3] }
  | _ => none }
def backoffRefusesRow : OpenClaim := { program := "ytepicehlknpbfaa", sum := "3e3ef7bd1073ff0e41aa5f412b4d462c63736eb9c6e089090c60c18c84338196", func := "estray/estraylaw33.BackoffRefuses", spec := "backoffRefuses", unfollowed := true, recurses := true, apart := false }
def BackoffRefusesSaid : Prop := backoffRefusesRow.holds Try.pinned (OpenSpec.ofChange backoffRefusesSpec)

/-- ITS FALSE NEIGHBOUR: 'it returns false'. Refute it at one input. -/
def backoffRefusesWrong : ChangeSpec := { name := "backoffRefuses", fn := fun _ => fun
  | [d1, d2, d3] => { results := [.lit (.bool false)], args := [d1, d2, d3] }
  | _ => none }
def BackoffRefusesWrongFalsely : Prop := backoffRefusesRow.holds Try.pinned (OpenSpec.ofChange backoffRefusesWrong)

/- THE SECOND FORM. 'bulk': how many values and letters a reading holds, each counted each time it is reached (what is shared counts as often as it is met; a slice's spare places count too). A statement '..UptoSaid' is the law's where the arguments, and the package variables that the reading takes, are together of bulk at most 1048576: NARROWER than '..Said'. Prove '..Said' where nothing that the law and all that it calls make is longer than what came in: it says more and counts as full. Else prove '..UptoSaid'. A law counts once. -/
mutual
def uptoBulk {H : Type} : DataW H → Nat
  | .lit (.string bytes) => bytes.length + 1
  | .lit _ => 1
  | .nil => 1
  | .ptr d => uptoBulk d + 1
  | .slice elems spare => uptoBulkAll elems + uptoBulkAll spare + 1
  | .agg parts => uptoBulkAll parts + 1
  | .iface _ d => uptoBulk d + 1
  | .map entries => uptoBulkEntries entries + 1
  | .held _ => 1
def uptoBulkAll {H : Type} : List (DataW H) → Nat
  | [] => 0
  | d :: r => uptoBulk d + uptoBulkAll r
def uptoBulkEntries {H : Type} : List (Lit × DataW H) → Nat
  | [] => 0
  | x :: r => uptoBulkEntry x + uptoBulkEntries r
def uptoBulkEntry {H : Type} : Lit × DataW H → Nat
  | (.string bytes, d) => bytes.length + uptoBulk d + 1
  | (_, d) => uptoBulk d + 1
 end
def uptoSmall : (H : Type) → List (DataW H) → Bool := fun _ ds => decide (uptoBulkAll ds ≤ 1048576)
def OpenSpec.upto (s : _root_.Go.ChangeSpec) : _root_.Go.OpenSpec := { _root_.Go.OpenSpec.ofChange s with cond := some uptoSmall }

/-- 'estraylaw33.BackoffWaits', WHERE WHAT IT READS IS OF BULK AT MOST 1048576: true; the input reads as it did. -/
def backoffWaitsUptoRow : OpenClaim := { program := "ytepicehlknpbfaa", sum := "3e3ef7bd1073ff0e41aa5f412b4d462c63736eb9c6e089090c60c18c84338196", func := "estray/estraylaw33.BackoffWaits", spec := "backoffWaits", unfollowed := true, recurses := true, apart := false, narrowed := true }
def BackoffWaitsUptoSaid : Prop := backoffWaitsUptoRow.holds Try.pinned (OpenSpec.upto backoffWaitsSpec)

/-- 'estraylaw33.BackoffLists', WHERE WHAT IT READS IS OF BULK AT MOST 1048576: true; the input reads as it did. -/
def backoffListsUptoRow : OpenClaim := { program := "ytepicehlknpbfaa", sum := "3e3ef7bd1073ff0e41aa5f412b4d462c63736eb9c6e089090c60c18c84338196", func := "estray/estraylaw33.BackoffLists", spec := "backoffLists", unfollowed := true, recurses := true, apart := false, narrowed := true }
def BackoffListsUptoSaid : Prop := backoffListsUptoRow.holds Try.pinned (OpenSpec.upto backoffListsSpec)

/-- 'estraylaw33.BackoffNexts', WHERE WHAT IT READS IS OF BULK AT MOST 1048576: true; the input reads as it did. -/
def backoffNextsUptoRow : OpenClaim := { program := "ytepicehlknpbfaa", sum := "3e3ef7bd1073ff0e41aa5f412b4d462c63736eb9c6e089090c60c18c84338196", func := "estray/estraylaw33.BackoffNexts", spec := "backoffNexts", unfollowed := true, recurses := true, apart := false, narrowed := true }
def BackoffNextsUptoSaid : Prop := backoffNextsUptoRow.holds Try.pinned (OpenSpec.upto backoffNextsSpec)

/-- 'estraylaw33.BackoffGrows', WHERE WHAT IT READS IS OF BULK AT MOST 1048576: true; the input reads as it did. -/
def backoffGrowsUptoRow : OpenClaim := { program := "ytepicehlknpbfaa", sum := "3e3ef7bd1073ff0e41aa5f412b4d462c63736eb9c6e089090c60c18c84338196", func := "estray/estraylaw33.BackoffGrows", spec := "backoffGrows", unfollowed := true, recurses := true, apart := false, narrowed := true }
def BackoffGrowsUptoSaid : Prop := backoffGrowsUptoRow.holds Try.pinned (OpenSpec.upto backoffGrowsSpec)

/-- 'estraylaw33.BackoffSums', WHERE WHAT IT READS IS OF BULK AT MOST 1048576: true; the input reads as it did. -/
def backoffSumsUptoRow : OpenClaim := { program := "ytepicehlknpbfaa", sum := "3e3ef7bd1073ff0e41aa5f412b4d462c63736eb9c6e089090c60c18c84338196", func := "estray/estraylaw33.BackoffSums", spec := "backoffSums", unfollowed := true, recurses := true, apart := false, narrowed := true }
def BackoffSumsUptoSaid : Prop := backoffSumsUptoRow.holds Try.pinned (OpenSpec.upto backoffSumsSpec)

/-- 'estraylaw33.BackoffTimes', WHERE WHAT IT READS IS OF BULK AT MOST 1048576: true; the input reads as it did. -/
def backoffTimesUptoRow : OpenClaim := { program := "ytepicehlknpbfaa", sum := "3e3ef7bd1073ff0e41aa5f412b4d462c63736eb9c6e089090c60c18c84338196", func := "estray/estraylaw33.BackoffTimes", spec := "backoffTimes", unfollowed := true, recurses := true, apart := false, narrowed := true }
def BackoffTimesUptoSaid : Prop := backoffTimesUptoRow.holds Try.pinned (OpenSpec.upto backoffTimesSpec)

/-- 'estraylaw33.BackoffLonger', WHERE WHAT IT READS IS OF BULK AT MOST 1048576: true; the input reads as it did. -/
def backoffLongerUptoRow : OpenClaim := { program := "ytepicehlknpbfaa", sum := "3e3ef7bd1073ff0e41aa5f412b4d462c63736eb9c6e089090c60c18c84338196", func := "estray/estraylaw33.BackoffLonger", spec := "backoffLonger", unfollowed := true, recurses := true, apart := false, narrowed := true }
def BackoffLongerUptoSaid : Prop := backoffLongerUptoRow.holds Try.pinned (OpenSpec.upto backoffLongerSpec)

/-- 'estraylaw33.BackoffRefuses', WHERE WHAT IT READS IS OF BULK AT MOST 1048576: true; the input reads as it did. -/
def backoffRefusesUptoRow : OpenClaim := { program := "ytepicehlknpbfaa", sum := "3e3ef7bd1073ff0e41aa5f412b4d462c63736eb9c6e089090c60c18c84338196", func := "estray/estraylaw33.BackoffRefuses", spec := "backoffRefuses", unfollowed := true, recurses := true, apart := false, narrowed := true }
def BackoffRefusesUptoSaid : Prop := backoffRefusesUptoRow.holds Try.pinned (OpenSpec.upto backoffRefusesSpec)

end Rows
end Go.Proofs.Ytepicehlknpbfaa
