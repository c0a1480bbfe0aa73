/-
  No cell of these rows narrows 'for every input' (looked for: loops, veiled, ifaces, maps, wideKeys, modest, calm, conditions, laid).
  DERIVED. THE GIVEN ROWS OF THIS SEAT. 7 by the template 'for every input the law returns true; each argument reads behind the call as it read before'; 0 by the template 'total and deterministic' (their statements: YtmojlfkjbnokcaaTotals.lean).
  GIVEN WITH THE SEED: the statements are not yours to turn. If you find one false, say at which input.
  Laid BY PROGRAM, IN A SANDBOX (cutbox-rows.mjs): the forced cells as the released guide's own fill.sh prints them over the translation 87a8be3d539a4a8e… (all of the seat's roots in one cut). By AI agents, Wed Nov 11 2026. No macro, syntax, notation, axiom, sorry.
-/
import Derived.Test.YtmojlfkjbnokcaaChecked
import GoSem.Claim
import GoSem.ClaimJoined
import GoSem.ClaimMapViews
import Derived.JoinedTies
import Derived.KernelRfl
namespace Go.Proofs.Ytmojlfkjbnokcaa
/- THE CELL 'sum', in the pinned program and in every row, IS THE sha256 OF THE DUMP (.gsa) THAT YtmojlfkjbnokcaaProg.lean LOADS. Nothing in Lean hashes anything: it is a label: what it is worth is what the hold of that sum in a sandbox is worth. -/
noncomputable def Try.pinned : Pinned := { name := "ytmojlfkjbnokcaa", sum := "87a8be3d539a4a8e51259f491069a5ffebffb9a9124d977db5c944e4a6e0294b", checked := Try.checked }
namespace Rows
def none {H : Type} : Left H := { results := [], args := [] }

/-- 'estraylaw21.BufferKeeps': WHATEVER THE INPUT: true; the input reads as it did. -/
def bufferKeepsSpec : ChangeSpec := { name := "bufferKeeps", fn := fun _ => fun
  | [d1, d2] => { results := [.lit (.bool true)], args := [d1, d2] }
  | _ => none }
def bufferKeepsRow : OpenClaim := { program := "ytmojlfkjbnokcaa", sum := "87a8be3d539a4a8e51259f491069a5ffebffb9a9124d977db5c944e4a6e0294b", func := "estray/estraylaw21.BufferKeeps", spec := "bufferKeeps", unfollowed := true, recurses := true, apart := false }
def BufferKeepsSaid : Prop := bufferKeepsRow.holds Try.pinned (OpenSpec.ofChange bufferKeepsSpec)

/-- ITS FALSE NEIGHBOUR: 'it returns false'. Refute it at one input. -/
def bufferKeepsWrong : ChangeSpec := { name := "bufferKeeps", fn := fun _ => fun
  | [d1, d2] => { results := [.lit (.bool false)], args := [d1, d2] }
  | _ => none }
def BufferKeepsWrongFalsely : Prop := bufferKeepsRow.holds Try.pinned (OpenSpec.ofChange bufferKeepsWrong)

/-- 'estraylaw21.BufferSettles': WHATEVER THE INPUT: true; the input reads as it did. -/
def bufferSettlesSpec : ChangeSpec := { name := "bufferSettles", fn := fun _ => fun
  | [d1, d2] => { results := [.lit (.bool true)], args := [d1, d2] }
  | _ => none }
def bufferSettlesRow : OpenClaim := { program := "ytmojlfkjbnokcaa", sum := "87a8be3d539a4a8e51259f491069a5ffebffb9a9124d977db5c944e4a6e0294b", func := "estray/estraylaw21.BufferSettles", spec := "bufferSettles", unfollowed := true, recurses := true, apart := false }
def BufferSettlesSaid : Prop := bufferSettlesRow.holds Try.pinned (OpenSpec.ofChange bufferSettlesSpec)

/-- ITS FALSE NEIGHBOUR: 'it returns false'. Refute it at one input. -/
def bufferSettlesWrong : ChangeSpec := { name := "bufferSettles", fn := fun _ => fun
  | [d1, d2] => { results := [.lit (.bool false)], args := [d1, d2] }
  | _ => none }
def BufferSettlesWrongFalsely : Prop := bufferSettlesRow.holds Try.pinned (OpenSpec.ofChange bufferSettlesWrong)

/-- 'estraylaw21.BufferRefuses': WHATEVER THE INPUT: true; the input reads as it did. -/
def bufferRefusesSpec : ChangeSpec := { name := "bufferRefuses", fn := fun _ => fun
  | [d1, d2] => { results := [.lit (.bool true)], args := [d1, d2] }
  | _ => none }
def bufferRefusesRow : OpenClaim := { program := "ytmojlfkjbnokcaa", sum := "87a8be3d539a4a8e51259f491069a5ffebffb9a9124d977db5c944e4a6e0294b", func := "estray/estraylaw21.BufferRefuses", spec := "bufferRefuses", unfollowed := true, recurses := true, apart := false }
def BufferRefusesSaid : Prop := bufferRefusesRow.holds Try.pinned (OpenSpec.ofChange bufferRefusesSpec)

/-- ITS FALSE NEIGHBOUR: 'it returns false'. Refute it at one input. -/
def bufferRefusesWrong : ChangeSpec := { name := "bufferRefuses", fn := fun _ => fun
  | [d1, d2] => { results := [.lit (.bool false)], args := [d1, d2] }
  | _ => none }
def BufferRefusesWrongFalsely : Prop := bufferRefusesRow.holds Try.pinned (OpenSpec.ofChange bufferRefusesWrong)

/-- 'estraylaw21.BufferPlays': WHATEVER THE INPUT: true; the input reads as it did. -/
def bufferPlaysSpec : ChangeSpec := { name := "bufferPlays", fn := fun _ => fun
  | [d1, d2] => { results := [.lit (.bool true)], args := [d1, d2] }
  | _ => none }
def bufferPlaysRow : OpenClaim := { program := "ytmojlfkjbnokcaa", sum := "87a8be3d539a4a8e51259f491069a5ffebffb9a9124d977db5c944e4a6e0294b", func := "estray/estraylaw21.BufferPlays", spec := "bufferPlays", unfollowed := true, recurses := true, apart := false }
def BufferPlaysSaid : Prop := bufferPlaysRow.holds Try.pinned (OpenSpec.ofChange bufferPlaysSpec)

/-- ITS FALSE NEIGHBOUR: 'it returns false'. Refute it at one input. -/
def bufferPlaysWrong : ChangeSpec := { name := "bufferPlays", fn := fun _ => fun
  | [d1, d2] => { results := [.lit (.bool false)], args := [d1, d2] }
  | _ => none }
def BufferPlaysWrongFalsely : Prop := bufferPlaysRow.holds Try.pinned (OpenSpec.ofChange bufferPlaysWrong)

/-- 'estraylaw21.BufferParts': WHATEVER THE INPUT: true; the input reads as it did. -/
def bufferPartsSpec : ChangeSpec := { name := "bufferParts", fn := fun _ => fun
  | [d1, d2, d3] => { results := [.lit (.bool true)], args := [d1, d2, d3] }
  | _ => none }
def bufferPartsRow : OpenClaim := { program := "ytmojlfkjbnokcaa", sum := "87a8be3d539a4a8e51259f491069a5ffebffb9a9124d977db5c944e4a6e0294b", func := "estray/estraylaw21.BufferParts", spec := "bufferParts", unfollowed := true, recurses := true, apart := false }
def BufferPartsSaid : Prop := bufferPartsRow.holds Try.pinned (OpenSpec.ofChange bufferPartsSpec)

/-- ITS FALSE NEIGHBOUR: 'it returns false'. Refute it at one input. -/
def bufferPartsWrong : ChangeSpec := { name := "bufferParts", fn := fun _ => fun
  | [d1, d2, d3] => { results := [.lit (.bool false)], args := [d1, d2, d3] }
  | _ => none }
def BufferPartsWrongFalsely : Prop := bufferPartsRow.holds Try.pinned (OpenSpec.ofChange bufferPartsWrong)

/-- 'estraylaw21.BufferApart': WHATEVER THE INPUT: true; the input reads as it did. -/
def bufferApartSpec : ChangeSpec := { name := "bufferApart", fn := fun _ => fun
  | [d1, d2, d3] => { results := [.lit (.bool true)], args := [d1, d2, d3] }
  | _ => none }
def bufferApartRow : OpenClaim := { program := "ytmojlfkjbnokcaa", sum := "87a8be3d539a4a8e51259f491069a5ffebffb9a9124d977db5c944e4a6e0294b", func := "estray/estraylaw21.BufferApart", spec := "bufferApart", unfollowed := true, recurses := true, apart := false }
def BufferApartSaid : Prop := bufferApartRow.holds Try.pinned (OpenSpec.ofChange bufferApartSpec)

/-- ITS FALSE NEIGHBOUR: 'it returns false'. Refute it at one input. -/
def bufferApartWrong : ChangeSpec := { name := "bufferApart", fn := fun _ => fun
  | [d1, d2, d3] => { results := [.lit (.bool false)], args := [d1, d2, d3] }
  | _ => none }
def BufferApartWrongFalsely : Prop := bufferApartRow.holds Try.pinned (OpenSpec.ofChange bufferApartWrong)

/-- 'estraylaw21.BufferNil': WHATEVER THE INPUT: true; the input reads as it did. -/
def bufferNilSpec : ChangeSpec := { name := "bufferNil", fn := fun _ => fun
  | [d] => { results := [.lit (.bool true)], args := [d] }
  | _ => none }
def bufferNilRow : OpenClaim := { program := "ytmojlfkjbnokcaa", sum := "87a8be3d539a4a8e51259f491069a5ffebffb9a9124d977db5c944e4a6e0294b", func := "estray/estraylaw21.BufferNil", spec := "bufferNil", unfollowed := true, recurses := true, apart := false }
def BufferNilSaid : Prop := bufferNilRow.holds Try.pinned (OpenSpec.ofChange bufferNilSpec)

/-- ITS FALSE NEIGHBOUR: 'it returns false'. Refute it at one input. -/
def bufferNilWrong : ChangeSpec := { name := "bufferNil", fn := fun _ => fun
  | [d] => { results := [.lit (.bool false)], args := [d] }
  | _ => none }
def BufferNilWrongFalsely : Prop := bufferNilRow.holds Try.pinned (OpenSpec.ofChange bufferNilWrong)

/- THE SECOND FORM. 'bulk': how many values and letters a reading holds, each counted each time it is reached (what is shared counts as often as it is met; a slice's spare places count too). A statement '..UptoSaid' is the law's where the arguments, and the package variables that the reading takes, are together of bulk at most 1048576: NARROWER than '..Said'. Prove '..Said' where nothing that the law and all that it calls make is longer than what came in: it says more and counts as full. Else prove '..UptoSaid'. A law counts once. -/
mutual
def uptoBulk {H : Type} : DataW H → Nat
  | .lit (.string bytes) => bytes.length + 1
  | .lit _ => 1
  | .nil => 1
  | .ptr d => uptoBulk d + 1
  | .slice elems spare => uptoBulkAll elems + uptoBulkAll spare + 1
  | .agg parts => uptoBulkAll parts + 1
  | .iface _ d => uptoBulk d + 1
  | .map entries => uptoBulkEntries entries + 1
  | .held _ => 1
def uptoBulkAll {H : Type} : List (DataW H) → Nat
  | [] => 0
  | d :: r => uptoBulk d + uptoBulkAll r
def uptoBulkEntries {H : Type} : List (Lit × DataW H) → Nat
  | [] => 0
  | x :: r => uptoBulkEntry x + uptoBulkEntries r
def uptoBulkEntry {H : Type} : Lit × DataW H → Nat
  | (.string bytes, d) => bytes.length + uptoBulk d + 1
  | (_, d) => uptoBulk d + 1
 end
def uptoSmall : (H : Type) → List (DataW H) → Bool := fun _ ds => decide (uptoBulkAll ds ≤ 1048576)
def OpenSpec.upto (s : _root_.Go.ChangeSpec) : _root_.Go.OpenSpec := { _root_.Go.OpenSpec.ofChange s with cond := some uptoSmall }

/-- 'estraylaw21.BufferKeeps', WHERE WHAT IT READS IS OF BULK AT MOST 1048576: true; the input reads as it did. -/
def bufferKeepsUptoRow : OpenClaim := { program := "ytmojlfkjbnokcaa", sum := "87a8be3d539a4a8e51259f491069a5ffebffb9a9124d977db5c944e4a6e0294b", func := "estray/estraylaw21.BufferKeeps", spec := "bufferKeeps", unfollowed := true, recurses := true, apart := false, narrowed := true }
def BufferKeepsUptoSaid : Prop := bufferKeepsUptoRow.holds Try.pinned (OpenSpec.upto bufferKeepsSpec)

/-- 'estraylaw21.BufferSettles', WHERE WHAT IT READS IS OF BULK AT MOST 1048576: true; the input reads as it did. -/
def bufferSettlesUptoRow : OpenClaim := { program := "ytmojlfkjbnokcaa", sum := "87a8be3d539a4a8e51259f491069a5ffebffb9a9124d977db5c944e4a6e0294b", func := "estray/estraylaw21.BufferSettles", spec := "bufferSettles", unfollowed := true, recurses := true, apart := false, narrowed := true }
def BufferSettlesUptoSaid : Prop := bufferSettlesUptoRow.holds Try.pinned (OpenSpec.upto bufferSettlesSpec)

/-- 'estraylaw21.BufferRefuses', WHERE WHAT IT READS IS OF BULK AT MOST 1048576: true; the input reads as it did. -/
def bufferRefusesUptoRow : OpenClaim := { program := "ytmojlfkjbnokcaa", sum := "87a8be3d539a4a8e51259f491069a5ffebffb9a9124d977db5c944e4a6e0294b", func := "estray/estraylaw21.BufferRefuses", spec := "bufferRefuses", unfollowed := true, recurses := true, apart := false, narrowed := true }
def BufferRefusesUptoSaid : Prop := bufferRefusesUptoRow.holds Try.pinned (OpenSpec.upto bufferRefusesSpec)

/-- 'estraylaw21.BufferPlays', WHERE WHAT IT READS IS OF BULK AT MOST 1048576: true; the input reads as it did. -/
def bufferPlaysUptoRow : OpenClaim := { program := "ytmojlfkjbnokcaa", sum := "87a8be3d539a4a8e51259f491069a5ffebffb9a9124d977db5c944e4a6e0294b", func := "estray/estraylaw21.BufferPlays", spec := "bufferPlays", unfollowed := true, recurses := true, apart := false, narrowed := true }
def BufferPlaysUptoSaid : Prop := bufferPlaysUptoRow.holds Try.pinned (OpenSpec.upto bufferPlaysSpec)

/-- 'estraylaw21.BufferParts', WHERE WHAT IT READS IS OF BULK AT MOST 1048576: true; the input reads as it did. -/
def bufferPartsUptoRow : OpenClaim := { program := "ytmojlfkjbnokcaa", sum := "87a8be3d539a4a8e51259f491069a5ffebffb9a9124d977db5c944e4a6e0294b", func := "estray/estraylaw21.BufferParts", spec := "bufferParts", unfollowed := true, recurses := true, apart := false, narrowed := true }
def BufferPartsUptoSaid : Prop := bufferPartsUptoRow.holds Try.pinned (OpenSpec.upto bufferPartsSpec)

/-- 'estraylaw21.BufferApart', WHERE WHAT IT READS IS OF BULK AT MOST 1048576: true; the input reads as it did. -/
def bufferApartUptoRow : OpenClaim := { program := "ytmojlfkjbnokcaa", sum := "87a8be3d539a4a8e51259f491069a5ffebffb9a9124d977db5c944e4a6e0294b", func := "estray/estraylaw21.BufferApart", spec := "bufferApart", unfollowed := true, recurses := true, apart := false, narrowed := true }
def BufferApartUptoSaid : Prop := bufferApartUptoRow.holds Try.pinned (OpenSpec.upto bufferApartSpec)

/-- 'estraylaw21.BufferNil', WHERE WHAT IT READS IS OF BULK AT MOST 1048576: true; the input reads as it did. -/
def bufferNilUptoRow : OpenClaim := { program := "ytmojlfkjbnokcaa", sum := "87a8be3d539a4a8e51259f491069a5ffebffb9a9124d977db5c944e4a6e0294b", func := "estray/estraylaw21.BufferNil", spec := "bufferNil", unfollowed := true, recurses := true, apart := false, narrowed := true }
def BufferNilUptoSaid : Prop := bufferNilUptoRow.holds Try.pinned (OpenSpec.upto bufferNilSpec)

end Rows
end Go.Proofs.Ytmojlfkjbnokcaa
