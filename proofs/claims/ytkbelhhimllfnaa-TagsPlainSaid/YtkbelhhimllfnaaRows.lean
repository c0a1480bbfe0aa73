/-
  No cell of these rows narrows 'for every input' (looked for: loops, veiled, ifaces, maps, wideKeys, modest, calm, conditions, laid).
  DERIVED. THE GIVEN ROWS OF THIS SEAT. 10 by the template 'for every input the law returns true; each argument reads behind the call as it read before'; 0 by the template 'total and deterministic' (their statements: YtkbelhhimllfnaaTotals.lean).
  GIVEN WITH THE SEED: the statements are not yours to turn. If you find one false, say at which input.
  Laid BY PROGRAM, IN A SANDBOX (cutbox-rows.mjs): the forced cells as the released guide's own fill.sh prints them over the translation 82c99c93cc906b0c… (all of the seat's roots in one cut). By AI agents, Wed Nov 11 2026. No macro, syntax, notation, axiom, sorry.
-/
import Derived.Test.YtkbelhhimllfnaaChecked
import GoSem.Claim
import GoSem.ClaimJoined
import GoSem.ClaimMapViews
import Derived.JoinedTies
import Derived.KernelRfl
namespace Go.Proofs.Ytkbelhhimllfnaa
/- THE CELL 'sum', in the pinned program and in every row, IS THE sha256 OF THE DUMP (.gsa) THAT YtkbelhhimllfnaaProg.lean LOADS. Nothing in Lean hashes anything: it is a label: what it is worth is what the hold of that sum in a sandbox is worth. -/
noncomputable def Try.pinned : Pinned := { name := "ytkbelhhimllfnaa", sum := "82c99c93cc906b0ccfcae861ece4c6a739abfcc42be4674e9ec2b199f353d6a1", checked := Try.checked }
namespace Rows
def none {H : Type} : Left H := { results := [], args := [] }

/-- 'estraylaw02.TagsRefuses': WHATEVER THE INPUT: true; the input reads as it did. -/
def tagsRefusesSpec : ChangeSpec := { name := "tagsRefuses", fn := fun _ => fun
  | [d1, d2, d3] => { results := [.lit (.bool true)], args := [d1, d2, d3] }
  | _ => none }
def tagsRefusesRow : OpenClaim := { program := "ytkbelhhimllfnaa", sum := "82c99c93cc906b0ccfcae861ece4c6a739abfcc42be4674e9ec2b199f353d6a1", func := "estray/estraylaw02.TagsRefuses", spec := "tagsRefuses", inPlace := ["internal/abi.NoEscape", "internal/bytealg.IndexByteString", "internal/bytealg.IndexString"], unfollowed := true, recurses := true, named := ["internal/bytealg.MaxLen"], apart := false }
def TagsRefusesSaid : Prop := tagsRefusesRow.holds Try.pinned (OpenSpec.ofChange tagsRefusesSpec)

/-- ITS FALSE NEIGHBOUR: 'it returns false'. Refute it at one input. -/
def tagsRefusesWrong : ChangeSpec := { name := "tagsRefuses", fn := fun _ => fun
  | [d1, d2, d3] => { results := [.lit (.bool false)], args := [d1, d2, d3] }
  | _ => none }
def TagsRefusesWrongFalsely : Prop := tagsRefusesRow.holds Try.pinned (OpenSpec.ofChange tagsRefusesWrong)

/-- 'estraylaw02.TagsPlain': WHATEVER THE INPUT: true; the input reads as it did. -/
def tagsPlainSpec : ChangeSpec := { name := "tagsPlain", fn := fun _ => fun
  | [d1, d2, d3] => { results := [.lit (.bool true)], args := [d1, d2, d3] }
  | _ => none }
def tagsPlainRow : OpenClaim := { program := "ytkbelhhimllfnaa", sum := "82c99c93cc906b0ccfcae861ece4c6a739abfcc42be4674e9ec2b199f353d6a1", func := "estray/estraylaw02.TagsPlain", spec := "tagsPlain", inPlace := ["internal/bytealg.IndexByteString", "internal/bytealg.IndexString", "internal/abi.NoEscape"], unfollowed := true, recurses := true, named := ["internal/bytealg.MaxLen"], apart := false }
def TagsPlainSaid : Prop := tagsPlainRow.holds Try.pinned (OpenSpec.ofChange tagsPlainSpec)

/-- ITS FALSE NEIGHBOUR: 'it returns false'. Refute it at one input. -/
def tagsPlainWrong : ChangeSpec := { name := "tagsPlain", fn := fun _ => fun
  | [d1, d2, d3] => { results := [.lit (.bool false)], args := [d1, d2, d3] }
  | _ => none }
def TagsPlainWrongFalsely : Prop := tagsPlainRow.holds Try.pinned (OpenSpec.ofChange tagsPlainWrong)

/-- 'estraylaw02.TagsChecks': WHATEVER THE INPUT: true; the input reads as it did. -/
def tagsChecksSpec : ChangeSpec := { name := "tagsChecks", fn := fun _ => fun
  | [d] => { results := [.lit (.bool true)], args := [d] }
  | _ => none }
def tagsChecksRow : OpenClaim := { program := "ytkbelhhimllfnaa", sum := "82c99c93cc906b0ccfcae861ece4c6a739abfcc42be4674e9ec2b199f353d6a1", func := "estray/estraylaw02.TagsChecks", spec := "tagsChecks", inPlace := ["internal/abi.NoEscape", "internal/bytealg.IndexByteString", "internal/bytealg.IndexString"], unfollowed := true, recurses := true, named := ["internal/bytealg.MaxLen"], apart := false }
def TagsChecksSaid : Prop := tagsChecksRow.holds Try.pinned (OpenSpec.ofChange tagsChecksSpec)

/-- ITS FALSE NEIGHBOUR: 'it returns false'. Refute it at one input. -/
def tagsChecksWrong : ChangeSpec := { name := "tagsChecks", fn := fun _ => fun
  | [d] => { results := [.lit (.bool false)], args := [d] }
  | _ => none }
def TagsChecksWrongFalsely : Prop := tagsChecksRow.holds Try.pinned (OpenSpec.ofChange tagsChecksWrong)

/-- 'estraylaw02.TagsReads': WHATEVER THE INPUT: true; the input reads as it did. -/
def tagsReadsSpec : ChangeSpec := { name := "tagsReads", fn := fun _ => fun
  | [d] => { results := [.lit (.bool true)], args := [d] }
  | _ => none }
def tagsReadsRow : OpenClaim := { program := "ytkbelhhimllfnaa", sum := "82c99c93cc906b0ccfcae861ece4c6a739abfcc42be4674e9ec2b199f353d6a1", func := "estray/estraylaw02.TagsReads", spec := "tagsReads", inPlace := ["internal/abi.NoEscape", "internal/bytealg.IndexByteString", "internal/bytealg.IndexString"], unfollowed := true, recurses := true, named := ["internal/bytealg.MaxLen"], apart := false }
def TagsReadsSaid : Prop := tagsReadsRow.holds Try.pinned (OpenSpec.ofChange tagsReadsSpec)

/-- ITS FALSE NEIGHBOUR: 'it returns false'. Refute it at one input. -/
def tagsReadsWrong : ChangeSpec := { name := "tagsReads", fn := fun _ => fun
  | [d] => { results := [.lit (.bool false)], args := [d] }
  | _ => none }
def TagsReadsWrongFalsely : Prop := tagsReadsRow.holds Try.pinned (OpenSpec.ofChange tagsReadsWrong)

/-- 'estraylaw02.TagsCuts': WHATEVER THE INPUT: true; the input reads as it did. -/
def tagsCutsSpec : ChangeSpec := { name := "tagsCuts", fn := fun _ => fun
  | [d1, d2] => { results := [.lit (.bool true)], args := [d1, d2] }
  | _ => none }
def tagsCutsRow : OpenClaim := { program := "ytkbelhhimllfnaa", sum := "82c99c93cc906b0ccfcae861ece4c6a739abfcc42be4674e9ec2b199f353d6a1", func := "estray/estraylaw02.TagsCuts", spec := "tagsCuts", inPlace := ["internal/abi.NoEscape", "internal/bytealg.IndexByteString", "internal/bytealg.IndexString"], unfollowed := true, recurses := true, named := ["internal/bytealg.MaxLen"], apart := false }
def TagsCutsSaid : Prop := tagsCutsRow.holds Try.pinned (OpenSpec.ofChange tagsCutsSpec)

/-- ITS FALSE NEIGHBOUR: 'it returns false'. Refute it at one input. -/
def tagsCutsWrong : ChangeSpec := { name := "tagsCuts", fn := fun _ => fun
  | [d1, d2] => { results := [.lit (.bool false)], args := [d1, d2] }
  | _ => none }
def TagsCutsWrongFalsely : Prop := tagsCutsRow.holds Try.pinned (OpenSpec.ofChange tagsCutsWrong)

/-- 'estraylaw02.TagsOrders': WHATEVER THE INPUT: true; the input reads as it did. -/
def tagsOrdersSpec : ChangeSpec := { name := "tagsOrders", fn := fun _ => fun
  | [d1, d2] => { results := [.lit (.bool true)], args := [d1, d2] }
  | _ => none }
def tagsOrdersRow : OpenClaim := { program := "ytkbelhhimllfnaa", sum := "82c99c93cc906b0ccfcae861ece4c6a739abfcc42be4674e9ec2b199f353d6a1", func := "estray/estraylaw02.TagsOrders", spec := "tagsOrders", inPlace := ["internal/abi.NoEscape", "internal/bytealg.IndexByteString", "internal/bytealg.IndexString"], unfollowed := true, recurses := true, named := ["internal/bytealg.MaxLen"], apart := false }
def TagsOrdersSaid : Prop := tagsOrdersRow.holds Try.pinned (OpenSpec.ofChange tagsOrdersSpec)

/-- ITS FALSE NEIGHBOUR: 'it returns false'. Refute it at one input. -/
def tagsOrdersWrong : ChangeSpec := { name := "tagsOrders", fn := fun _ => fun
  | [d1, d2] => { results := [.lit (.bool false)], args := [d1, d2] }
  | _ => none }
def TagsOrdersWrongFalsely : Prop := tagsOrdersRow.holds Try.pinned (OpenSpec.ofChange tagsOrdersWrong)

/-- 'estraylaw02.TagsBack': WHATEVER THE INPUT: true; the input reads as it did. -/
def tagsBackSpec : ChangeSpec := { name := "tagsBack", fn := fun _ => fun
  | [d1, d2] => { results := [.lit (.bool true)], args := [d1, d2] }
  | _ => none }
def tagsBackRow : OpenClaim := { program := "ytkbelhhimllfnaa", sum := "82c99c93cc906b0ccfcae861ece4c6a739abfcc42be4674e9ec2b199f353d6a1", func := "estray/estraylaw02.TagsBack", spec := "tagsBack", inPlace := ["internal/abi.NoEscape", "internal/bytealg.IndexByteString", "internal/bytealg.IndexString"], unfollowed := true, recurses := true, named := ["internal/bytealg.MaxLen"], apart := false }
def TagsBackSaid : Prop := tagsBackRow.holds Try.pinned (OpenSpec.ofChange tagsBackSpec)

/-- ITS FALSE NEIGHBOUR: 'it returns false'. Refute it at one input. -/
def tagsBackWrong : ChangeSpec := { name := "tagsBack", fn := fun _ => fun
  | [d1, d2] => { results := [.lit (.bool false)], args := [d1, d2] }
  | _ => none }
def TagsBackWrongFalsely : Prop := tagsBackRow.holds Try.pinned (OpenSpec.ofChange tagsBackWrong)

/-- 'estraylaw02.TagsRead': WHATEVER THE INPUT: true; the input reads as it did. -/
def tagsReadSpec : ChangeSpec := { name := "tagsRead", fn := fun _ => fun
  | [d] => { results := [.lit (.bool true)], args := [d] }
  | _ => none }
def tagsReadRow : OpenClaim := { program := "ytkbelhhimllfnaa", sum := "82c99c93cc906b0ccfcae861ece4c6a739abfcc42be4674e9ec2b199f353d6a1", func := "estray/estraylaw02.TagsRead", spec := "tagsRead", inPlace := ["internal/abi.NoEscape", "internal/bytealg.IndexByteString", "internal/bytealg.IndexString"], unfollowed := true, recurses := true, named := ["internal/bytealg.MaxLen"], apart := false }
def TagsReadSaid : Prop := tagsReadRow.holds Try.pinned (OpenSpec.ofChange tagsReadSpec)

/-- ITS FALSE NEIGHBOUR: 'it returns false'. Refute it at one input. -/
def tagsReadWrong : ChangeSpec := { name := "tagsRead", fn := fun _ => fun
  | [d] => { results := [.lit (.bool false)], args := [d] }
  | _ => none }
def TagsReadWrongFalsely : Prop := tagsReadRow.holds Try.pinned (OpenSpec.ofChange tagsReadWrong)

/-- 'estraylaw02.TagsParts': WHATEVER THE INPUT: true; the input reads as it did. -/
def tagsPartsSpec : ChangeSpec := { name := "tagsParts", fn := fun _ => fun
  | [d1, d2, d3] => { results := [.lit (.bool true)], args := [d1, d2, d3] }
  | _ => none }
def tagsPartsRow : OpenClaim := { program := "ytkbelhhimllfnaa", sum := "82c99c93cc906b0ccfcae861ece4c6a739abfcc42be4674e9ec2b199f353d6a1", func := "estray/estraylaw02.TagsParts", spec := "tagsParts", inPlace := ["internal/abi.NoEscape", "internal/bytealg.IndexByteString", "internal/bytealg.IndexString"], unfollowed := true, recurses := true, named := ["internal/bytealg.MaxLen"], apart := false }
def TagsPartsSaid : Prop := tagsPartsRow.holds Try.pinned (OpenSpec.ofChange tagsPartsSpec)

/-- ITS FALSE NEIGHBOUR: 'it returns false'. Refute it at one input. -/
def tagsPartsWrong : ChangeSpec := { name := "tagsParts", fn := fun _ => fun
  | [d1, d2, d3] => { results := [.lit (.bool false)], args := [d1, d2, d3] }
  | _ => none }
def TagsPartsWrongFalsely : Prop := tagsPartsRow.holds Try.pinned (OpenSpec.ofChange tagsPartsWrong)

/-- 'estraylaw02.TagsSorts': WHATEVER THE INPUT: true; the input reads as it did. -/
def tagsSortsSpec : ChangeSpec := { name := "tagsSorts", fn := fun _ => fun
  | [d1, d2, d3] => { results := [.lit (.bool true)], args := [d1, d2, d3] }
  | _ => none }
def tagsSortsRow : OpenClaim := { program := "ytkbelhhimllfnaa", sum := "82c99c93cc906b0ccfcae861ece4c6a739abfcc42be4674e9ec2b199f353d6a1", func := "estray/estraylaw02.TagsSorts", spec := "tagsSorts", inPlace := ["internal/abi.NoEscape", "internal/bytealg.IndexByteString", "internal/bytealg.IndexString"], unfollowed := true, recurses := true, named := ["internal/bytealg.MaxLen"], apart := false }
def TagsSortsSaid : Prop := tagsSortsRow.holds Try.pinned (OpenSpec.ofChange tagsSortsSpec)

/-- ITS FALSE NEIGHBOUR: 'it returns false'. Refute it at one input. -/
def tagsSortsWrong : ChangeSpec := { name := "tagsSorts", fn := fun _ => fun
  | [d1, d2, d3] => { results := [.lit (.bool false)], args := [d1, d2, d3] }
  | _ => none }
def TagsSortsWrongFalsely : Prop := tagsSortsRow.holds Try.pinned (OpenSpec.ofChange tagsSortsWrong)

/- THE SECOND FORM. 'bulk': how many values and letters a reading holds, each counted each time it is reached (what is shared counts as often as it is met; a slice's spare places count too). A statement '..UptoSaid' is the law's where the arguments, and the package variables that the reading takes, are together of bulk at most 1048576: NARROWER than '..Said'. Prove '..Said' where nothing that the law and all that it calls make is longer than what came in: it says more and counts as full. Else prove '..UptoSaid'. A law counts once. -/
mutual
def uptoBulk {H : Type} : DataW H → Nat
  | .lit (.string bytes) => bytes.length + 1
  | .lit _ => 1
  | .nil => 1
  | .ptr d => uptoBulk d + 1
  | .slice elems spare => uptoBulkAll elems + uptoBulkAll spare + 1
  | .agg parts => uptoBulkAll parts + 1
  | .iface _ d => uptoBulk d + 1
  | .map entries => uptoBulkEntries entries + 1
  | .held _ => 1
def uptoBulkAll {H : Type} : List (DataW H) → Nat
  | [] => 0
  | d :: r => uptoBulk d + uptoBulkAll r
def uptoBulkEntries {H : Type} : List (Lit × DataW H) → Nat
  | [] => 0
  | x :: r => uptoBulkEntry x + uptoBulkEntries r
def uptoBulkEntry {H : Type} : Lit × DataW H → Nat
  | (.string bytes, d) => bytes.length + uptoBulk d + 1
  | (_, d) => uptoBulk d + 1
 end
def uptoSmall : (H : Type) → List (DataW H) → Bool := fun _ ds => decide (uptoBulkAll ds ≤ 1048576)
def OpenSpec.upto (s : _root_.Go.ChangeSpec) : _root_.Go.OpenSpec := { _root_.Go.OpenSpec.ofChange s with cond := some uptoSmall }

/-- 'estraylaw02.TagsRefuses', WHERE WHAT IT READS IS OF BULK AT MOST 1048576: true; the input reads as it did. -/
def tagsRefusesUptoRow : OpenClaim := { program := "ytkbelhhimllfnaa", sum := "82c99c93cc906b0ccfcae861ece4c6a739abfcc42be4674e9ec2b199f353d6a1", func := "estray/estraylaw02.TagsRefuses", spec := "tagsRefuses", inPlace := ["internal/abi.NoEscape", "internal/bytealg.IndexByteString", "internal/bytealg.IndexString"], unfollowed := true, recurses := true, named := ["internal/bytealg.MaxLen"], apart := false, narrowed := true }
def TagsRefusesUptoSaid : Prop := tagsRefusesUptoRow.holds Try.pinned (OpenSpec.upto tagsRefusesSpec)

/-- 'estraylaw02.TagsPlain', WHERE WHAT IT READS IS OF BULK AT MOST 1048576: true; the input reads as it did. -/
def tagsPlainUptoRow : OpenClaim := { program := "ytkbelhhimllfnaa", sum := "82c99c93cc906b0ccfcae861ece4c6a739abfcc42be4674e9ec2b199f353d6a1", func := "estray/estraylaw02.TagsPlain", spec := "tagsPlain", inPlace := ["internal/bytealg.IndexByteString", "internal/bytealg.IndexString", "internal/abi.NoEscape"], unfollowed := true, recurses := true, named := ["internal/bytealg.MaxLen"], apart := false, narrowed := true }
def TagsPlainUptoSaid : Prop := tagsPlainUptoRow.holds Try.pinned (OpenSpec.upto tagsPlainSpec)

/-- 'estraylaw02.TagsChecks', WHERE WHAT IT READS IS OF BULK AT MOST 1048576: true; the input reads as it did. -/
def tagsChecksUptoRow : OpenClaim := { program := "ytkbelhhimllfnaa", sum := "82c99c93cc906b0ccfcae861ece4c6a739abfcc42be4674e9ec2b199f353d6a1", func := "estray/estraylaw02.TagsChecks", spec := "tagsChecks", inPlace := ["internal/abi.NoEscape", "internal/bytealg.IndexByteString", "internal/bytealg.IndexString"], unfollowed := true, recurses := true, named := ["internal/bytealg.MaxLen"], apart := false, narrowed := true }
def TagsChecksUptoSaid : Prop := tagsChecksUptoRow.holds Try.pinned (OpenSpec.upto tagsChecksSpec)

/-- 'estraylaw02.TagsReads', WHERE WHAT IT READS IS OF BULK AT MOST 1048576: true; the input reads as it did. -/
def tagsReadsUptoRow : OpenClaim := { program := "ytkbelhhimllfnaa", sum := "82c99c93cc906b0ccfcae861ece4c6a739abfcc42be4674e9ec2b199f353d6a1", func := "estray/estraylaw02.TagsReads", spec := "tagsReads", inPlace := ["internal/abi.NoEscape", "internal/bytealg.IndexByteString", "internal/bytealg.IndexString"], unfollowed := true, recurses := true, named := ["internal/bytealg.MaxLen"], apart := false, narrowed := true }
def TagsReadsUptoSaid : Prop := tagsReadsUptoRow.holds Try.pinned (OpenSpec.upto tagsReadsSpec)

/-- 'estraylaw02.TagsCuts', WHERE WHAT IT READS IS OF BULK AT MOST 1048576: true; the input reads as it did. -/
def tagsCutsUptoRow : OpenClaim := { program := "ytkbelhhimllfnaa", sum := "82c99c93cc906b0ccfcae861ece4c6a739abfcc42be4674e9ec2b199f353d6a1", func := "estray/estraylaw02.TagsCuts", spec := "tagsCuts", inPlace := ["internal/abi.NoEscape", "internal/bytealg.IndexByteString", "internal/bytealg.IndexString"], unfollowed := true, recurses := true, named := ["internal/bytealg.MaxLen"], apart := false, narrowed := true }
def TagsCutsUptoSaid : Prop := tagsCutsUptoRow.holds Try.pinned (OpenSpec.upto tagsCutsSpec)

/-- 'estraylaw02.TagsOrders', WHERE WHAT IT READS IS OF BULK AT MOST 1048576: true; the input reads as it did. -/
def tagsOrdersUptoRow : OpenClaim := { program := "ytkbelhhimllfnaa", sum := "82c99c93cc906b0ccfcae861ece4c6a739abfcc42be4674e9ec2b199f353d6a1", func := "estray/estraylaw02.TagsOrders", spec := "tagsOrders", inPlace := ["internal/abi.NoEscape", "internal/bytealg.IndexByteString", "internal/bytealg.IndexString"], unfollowed := true, recurses := true, named := ["internal/bytealg.MaxLen"], apart := false, narrowed := true }
def TagsOrdersUptoSaid : Prop := tagsOrdersUptoRow.holds Try.pinned (OpenSpec.upto tagsOrdersSpec)

/-- 'estraylaw02.TagsBack', WHERE WHAT IT READS IS OF BULK AT MOST 1048576: true; the input reads as it did. -/
def tagsBackUptoRow : OpenClaim := { program := "ytkbelhhimllfnaa", sum := "82c99c93cc906b0ccfcae861ece4c6a739abfcc42be4674e9ec2b199f353d6a1", func := "estray/estraylaw02.TagsBack", spec := "tagsBack", inPlace := ["internal/abi.NoEscape", "internal/bytealg.IndexByteString", "internal/bytealg.IndexString"], unfollowed := true, recurses := true, named := ["internal/bytealg.MaxLen"], apart := false, narrowed := true }
def TagsBackUptoSaid : Prop := tagsBackUptoRow.holds Try.pinned (OpenSpec.upto tagsBackSpec)

/-- 'estraylaw02.TagsRead', WHERE WHAT IT READS IS OF BULK AT MOST 1048576: true; the input reads as it did. -/
def tagsReadUptoRow : OpenClaim := { program := "ytkbelhhimllfnaa", sum := "82c99c93cc906b0ccfcae861ece4c6a739abfcc42be4674e9ec2b199f353d6a1", func := "estray/estraylaw02.TagsRead", spec := "tagsRead", inPlace := ["internal/abi.NoEscape", "internal/bytealg.IndexByteString", "internal/bytealg.IndexString"], unfollowed := true, recurses := true, named := ["internal/bytealg.MaxLen"], apart := false, narrowed := true }
def TagsReadUptoSaid : Prop := tagsReadUptoRow.holds Try.pinned (OpenSpec.upto tagsReadSpec)

/-- 'estraylaw02.TagsParts', WHERE WHAT IT READS IS OF BULK AT MOST 1048576: true; the input reads as it did. -/
def tagsPartsUptoRow : OpenClaim := { program := "ytkbelhhimllfnaa", sum := "82c99c93cc906b0ccfcae861ece4c6a739abfcc42be4674e9ec2b199f353d6a1", func := "estray/estraylaw02.TagsParts", spec := "tagsParts", inPlace := ["internal/abi.NoEscape", "internal/bytealg.IndexByteString", "internal/bytealg.IndexString"], unfollowed := true, recurses := true, named := ["internal/bytealg.MaxLen"], apart := false, narrowed := true }
def TagsPartsUptoSaid : Prop := tagsPartsUptoRow.holds Try.pinned (OpenSpec.upto tagsPartsSpec)

/-- 'estraylaw02.TagsSorts', WHERE WHAT IT READS IS OF BULK AT MOST 1048576: true; the input reads as it did. -/
def tagsSortsUptoRow : OpenClaim := { program := "ytkbelhhimllfnaa", sum := "82c99c93cc906b0ccfcae861ece4c6a739abfcc42be4674e9ec2b199f353d6a1", func := "estray/estraylaw02.TagsSorts", spec := "tagsSorts", inPlace := ["internal/abi.NoEscape", "internal/bytealg.IndexByteString", "internal/bytealg.IndexString"], unfollowed := true, recurses := true, named := ["internal/bytealg.MaxLen"], apart := false, narrowed := true }
def TagsSortsUptoSaid : Prop := tagsSortsUptoRow.holds Try.pinned (OpenSpec.upto tagsSortsSpec)

end Rows
end Go.Proofs.Ytkbelhhimllfnaa
