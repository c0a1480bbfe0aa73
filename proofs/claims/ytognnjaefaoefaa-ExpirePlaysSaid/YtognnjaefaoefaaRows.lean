/-
  No cell of these rows narrows 'for every input' (looked for: loops, veiled, ifaces, maps, wideKeys, modest, calm, conditions, laid).
  DERIVED. THE GIVEN ROWS OF THIS SEAT. 8 by the template 'for every input the law returns true; each argument reads behind the call as it read before'; 0 by the template 'total and deterministic' (their statements: YtognnjaefaoefaaTotals.lean).
  GIVEN WITH THE SEED: the statements are not yours to turn. If you find one false, say at which input.
  Laid BY PROGRAM, IN A SANDBOX (cutbox-rows.mjs): the forced cells as the released guide's own fill.sh prints them over the translation 080bc9feb10e2c94… (all of the seat's roots in one cut). By AI agents, Wed Nov 11 2026. No macro, syntax, notation, axiom, sorry.
-/
import Derived.Test.YtognnjaefaoefaaChecked
import GoSem.Claim
import GoSem.ClaimJoined
import GoSem.ClaimMapViews
import Derived.JoinedTies
import Derived.KernelRfl
namespace Go.Proofs.Ytognnjaefaoefaa
/- THE CELL 'sum', in the pinned program and in every row, IS THE sha256 OF THE DUMP (.gsa) THAT YtognnjaefaoefaaProg.lean LOADS. Nothing in Lean hashes anything: it is a label: what it is worth is what the hold of that sum in a sandbox is worth. -/
noncomputable def Try.pinned : Pinned := { name := "ytognnjaefaoefaa", sum := "080bc9feb10e2c94b37182a7cd8a678499c41467a4f65f9e1d1294ca52a9ff6f", checked := Try.checked }
namespace Rows
def none {H : Type} : Left H := { results := [], args := [] }

/-- 'estraylaw08.ExpireSplit': WHATEVER THE INPUT: true; the input reads as it did. -/
def expireSplitSpec : ChangeSpec := { name := "expireSplit", fn := fun _ => fun
  | [d1, d2, d3] => { results := [.lit (.bool true)], args := [d1, d2, d3] }
  | _ => none }
def expireSplitRow : OpenClaim := { program := "ytognnjaefaoefaa", sum := "080bc9feb10e2c94b37182a7cd8a678499c41467a4f65f9e1d1294ca52a9ff6f", func := "estray/estraylaw08.ExpireSplit", spec := "expireSplit", inPlace := ["slices.overlaps[estray/expire.entry]"], unfollowed := true, recurses := true, apart := false }
def ExpireSplitSaid : Prop := expireSplitRow.holds Try.pinned (OpenSpec.ofChange expireSplitSpec)

/-- ITS FALSE NEIGHBOUR: 'it returns false'. Refute it at one input. -/
def expireSplitWrong : ChangeSpec := { name := "expireSplit", fn := fun _ => fun
  | [d1, d2, d3] => { results := [.lit (.bool false)], args := [d1, d2, d3] }
  | _ => none }
def ExpireSplitWrongFalsely : Prop := expireSplitRow.holds Try.pinned (OpenSpec.ofChange expireSplitWrong)

/-- 'estraylaw08.ExpireOrder': WHATEVER THE INPUT: true; the input reads as it did. -/
def expireOrderSpec : ChangeSpec := { name := "expireOrder", fn := fun _ => fun
  | [d1, d2] => { results := [.lit (.bool true)], args := [d1, d2] }
  | _ => none }
def expireOrderRow : OpenClaim := { program := "ytognnjaefaoefaa", sum := "080bc9feb10e2c94b37182a7cd8a678499c41467a4f65f9e1d1294ca52a9ff6f", func := "estray/estraylaw08.ExpireOrder", spec := "expireOrder", inPlace := ["slices.overlaps[estray/expire.entry]"], unfollowed := true, recurses := true, apart := false }
def ExpireOrderSaid : Prop := expireOrderRow.holds Try.pinned (OpenSpec.ofChange expireOrderSpec)

/-- ITS FALSE NEIGHBOUR: 'it returns false'. Refute it at one input. -/
def expireOrderWrong : ChangeSpec := { name := "expireOrder", fn := fun _ => fun
  | [d1, d2] => { results := [.lit (.bool false)], args := [d1, d2] }
  | _ => none }
def ExpireOrderWrongFalsely : Prop := expireOrderRow.holds Try.pinned (OpenSpec.ofChange expireOrderWrong)

/-- 'estraylaw08.ExpireKnown': WHATEVER THE INPUT: true; the input reads as it did. -/
def expireKnownSpec : ChangeSpec := { name := "expireKnown", fn := fun _ => fun
  | [] => { results := [.lit (.bool true)], args := [] }
  | _ => none }
def expireKnownRow : OpenClaim := { program := "ytognnjaefaoefaa", sum := "080bc9feb10e2c94b37182a7cd8a678499c41467a4f65f9e1d1294ca52a9ff6f", func := "estray/estraylaw08.ExpireKnown", spec := "expireKnown", inPlace := ["slices.overlaps[estray/expire.entry]"], unfollowed := true, recurses := true, apart := false }
def ExpireKnownSaid : Prop := expireKnownRow.holds Try.pinned (OpenSpec.ofChange expireKnownSpec)

/-- ITS FALSE NEIGHBOUR: 'it returns false'. Refute it at one input. -/
def expireKnownWrong : ChangeSpec := { name := "expireKnown", fn := fun _ => fun
  | [] => { results := [.lit (.bool false)], args := [] }
  | _ => none }
def ExpireKnownWrongFalsely : Prop := expireKnownRow.holds Try.pinned (OpenSpec.ofChange expireKnownWrong)

/-- 'estraylaw08.ExpireOnce': WHATEVER THE INPUT: true; the input reads as it did. -/
def expireOnceSpec : ChangeSpec := { name := "expireOnce", fn := fun _ => fun
  | [d1, d2] => { results := [.lit (.bool true)], args := [d1, d2] }
  | _ => none }
def expireOnceRow : OpenClaim := { program := "ytognnjaefaoefaa", sum := "080bc9feb10e2c94b37182a7cd8a678499c41467a4f65f9e1d1294ca52a9ff6f", func := "estray/estraylaw08.ExpireOnce", spec := "expireOnce", inPlace := ["slices.overlaps[estray/expire.entry]"], unfollowed := true, recurses := true, apart := false }
def ExpireOnceSaid : Prop := expireOnceRow.holds Try.pinned (OpenSpec.ofChange expireOnceSpec)

/-- ITS FALSE NEIGHBOUR: 'it returns false'. Refute it at one input. -/
def expireOnceWrong : ChangeSpec := { name := "expireOnce", fn := fun _ => fun
  | [d1, d2] => { results := [.lit (.bool false)], args := [d1, d2] }
  | _ => none }
def ExpireOnceWrongFalsely : Prop := expireOnceRow.holds Try.pinned (OpenSpec.ofChange expireOnceWrong)

/-- 'estraylaw08.ExpireSets': WHATEVER THE INPUT: true; the input reads as it did. -/
def expireSetsSpec : ChangeSpec := { name := "expireSets", fn := fun _ => fun
  | [d1, d2, d3, d4] => { results := [.lit (.bool true)], args := [d1, d2, d3, d4] }
  | _ => none }
def expireSetsRow : OpenClaim := { program := "ytognnjaefaoefaa", sum := "080bc9feb10e2c94b37182a7cd8a678499c41467a4f65f9e1d1294ca52a9ff6f", func := "estray/estraylaw08.ExpireSets", spec := "expireSets", inPlace := ["slices.overlaps[estray/expire.entry]"], unfollowed := true, recurses := true, apart := false }
def ExpireSetsSaid : Prop := expireSetsRow.holds Try.pinned (OpenSpec.ofChange expireSetsSpec)

/-- ITS FALSE NEIGHBOUR: 'it returns false'. Refute it at one input. -/
def expireSetsWrong : ChangeSpec := { name := "expireSets", fn := fun _ => fun
  | [d1, d2, d3, d4] => { results := [.lit (.bool false)], args := [d1, d2, d3, d4] }
  | _ => none }
def ExpireSetsWrongFalsely : Prop := expireSetsRow.holds Try.pinned (OpenSpec.ofChange expireSetsWrong)

/-- 'estraylaw08.ExpirePlays': WHATEVER THE INPUT: true; the input reads as it did. -/
def expirePlaysSpec : ChangeSpec := { name := "expirePlays", fn := fun _ => fun
  | [d1, d2] => { results := [.lit (.bool true)], args := [d1, d2] }
  | _ => none }
def expirePlaysRow : OpenClaim := { program := "ytognnjaefaoefaa", sum := "080bc9feb10e2c94b37182a7cd8a678499c41467a4f65f9e1d1294ca52a9ff6f", func := "estray/estraylaw08.ExpirePlays", spec := "expirePlays", inPlace := ["slices.overlaps[estray/expire.entry]"], unfollowed := true, recurses := true, apart := false }
def ExpirePlaysSaid : Prop := expirePlaysRow.holds Try.pinned (OpenSpec.ofChange expirePlaysSpec)

/-- ITS FALSE NEIGHBOUR: 'it returns false'. Refute it at one input. -/
def expirePlaysWrong : ChangeSpec := { name := "expirePlays", fn := fun _ => fun
  | [d1, d2] => { results := [.lit (.bool false)], args := [d1, d2] }
  | _ => none }
def ExpirePlaysWrongFalsely : Prop := expirePlaysRow.holds Try.pinned (OpenSpec.ofChange expirePlaysWrong)

/-- 'estraylaw08.ExpireNil': WHATEVER THE INPUT: true; the input reads as it did. -/
def expireNilSpec : ChangeSpec := { name := "expireNil", fn := fun _ => fun
  | [d1, d2] => { results := [.lit (.bool true)], args := [d1, d2] }
  | _ => none }
def expireNilRow : OpenClaim := { program := "ytognnjaefaoefaa", sum := "080bc9feb10e2c94b37182a7cd8a678499c41467a4f65f9e1d1294ca52a9ff6f", func := "estray/estraylaw08.ExpireNil", spec := "expireNil", inPlace := ["slices.overlaps[estray/expire.entry]"], unfollowed := true, recurses := true, apart := false }
def ExpireNilSaid : Prop := expireNilRow.holds Try.pinned (OpenSpec.ofChange expireNilSpec)

/-- ITS FALSE NEIGHBOUR: 'it returns false'. Refute it at one input. -/
def expireNilWrong : ChangeSpec := { name := "expireNil", fn := fun _ => fun
  | [d1, d2] => { results := [.lit (.bool false)], args := [d1, d2] }
  | _ => none }
def ExpireNilWrongFalsely : Prop := expireNilRow.holds Try.pinned (OpenSpec.ofChange expireNilWrong)

/-- 'estraylaw08.ExpireCopies': WHATEVER THE INPUT: true; the input reads as it did. -/
def expireCopiesSpec : ChangeSpec := { name := "expireCopies", fn := fun _ => fun
  | [d1, d2, d3] => { results := [.lit (.bool true)], args := [d1, d2, d3] }
  | _ => none }
def expireCopiesRow : OpenClaim := { program := "ytognnjaefaoefaa", sum := "080bc9feb10e2c94b37182a7cd8a678499c41467a4f65f9e1d1294ca52a9ff6f", func := "estray/estraylaw08.ExpireCopies", spec := "expireCopies", inPlace := ["slices.overlaps[estray/expire.entry]"], unfollowed := true, recurses := true, apart := false }
def ExpireCopiesSaid : Prop := expireCopiesRow.holds Try.pinned (OpenSpec.ofChange expireCopiesSpec)

/-- ITS FALSE NEIGHBOUR: 'it returns false'. Refute it at one input. -/
def expireCopiesWrong : ChangeSpec := { name := "expireCopies", fn := fun _ => fun
  | [d1, d2, d3] => { results := [.lit (.bool false)], args := [d1, d2, d3] }
  | _ => none }
def ExpireCopiesWrongFalsely : Prop := expireCopiesRow.holds Try.pinned (OpenSpec.ofChange expireCopiesWrong)

/- THE SECOND FORM. 'bulk': how many values and letters a reading holds, each counted each time it is reached (what is shared counts as often as it is met; a slice's spare places count too). A statement '..UptoSaid' is the law's where the arguments, and the package variables that the reading takes, are together of bulk at most 1048576: NARROWER than '..Said'. Prove '..Said' where nothing that the law and all that it calls make is longer than what came in: it says more and counts as full. Else prove '..UptoSaid'. A law counts once. -/
mutual
def uptoBulk {H : Type} : DataW H → Nat
  | .lit (.string bytes) => bytes.length + 1
  | .lit _ => 1
  | .nil => 1
  | .ptr d => uptoBulk d + 1
  | .slice elems spare => uptoBulkAll elems + uptoBulkAll spare + 1
  | .agg parts => uptoBulkAll parts + 1
  | .iface _ d => uptoBulk d + 1
  | .map entries => uptoBulkEntries entries + 1
  | .held _ => 1
def uptoBulkAll {H : Type} : List (DataW H) → Nat
  | [] => 0
  | d :: r => uptoBulk d + uptoBulkAll r
def uptoBulkEntries {H : Type} : List (Lit × DataW H) → Nat
  | [] => 0
  | x :: r => uptoBulkEntry x + uptoBulkEntries r
def uptoBulkEntry {H : Type} : Lit × DataW H → Nat
  | (.string bytes, d) => bytes.length + uptoBulk d + 1
  | (_, d) => uptoBulk d + 1
 end
def uptoSmall : (H : Type) → List (DataW H) → Bool := fun _ ds => decide (uptoBulkAll ds ≤ 1048576)
def OpenSpec.upto (s : _root_.Go.ChangeSpec) : _root_.Go.OpenSpec := { _root_.Go.OpenSpec.ofChange s with cond := some uptoSmall }

/-- 'estraylaw08.ExpireSplit', WHERE WHAT IT READS IS OF BULK AT MOST 1048576: true; the input reads as it did. -/
def expireSplitUptoRow : OpenClaim := { program := "ytognnjaefaoefaa", sum := "080bc9feb10e2c94b37182a7cd8a678499c41467a4f65f9e1d1294ca52a9ff6f", func := "estray/estraylaw08.ExpireSplit", spec := "expireSplit", inPlace := ["slices.overlaps[estray/expire.entry]"], unfollowed := true, recurses := true, apart := false, narrowed := true }
def ExpireSplitUptoSaid : Prop := expireSplitUptoRow.holds Try.pinned (OpenSpec.upto expireSplitSpec)

/-- 'estraylaw08.ExpireOrder', WHERE WHAT IT READS IS OF BULK AT MOST 1048576: true; the input reads as it did. -/
def expireOrderUptoRow : OpenClaim := { program := "ytognnjaefaoefaa", sum := "080bc9feb10e2c94b37182a7cd8a678499c41467a4f65f9e1d1294ca52a9ff6f", func := "estray/estraylaw08.ExpireOrder", spec := "expireOrder", inPlace := ["slices.overlaps[estray/expire.entry]"], unfollowed := true, recurses := true, apart := false, narrowed := true }
def ExpireOrderUptoSaid : Prop := expireOrderUptoRow.holds Try.pinned (OpenSpec.upto expireOrderSpec)

/-- 'estraylaw08.ExpireKnown', WHERE WHAT IT READS IS OF BULK AT MOST 1048576: true; the input reads as it did. -/
def expireKnownUptoRow : OpenClaim := { program := "ytognnjaefaoefaa", sum := "080bc9feb10e2c94b37182a7cd8a678499c41467a4f65f9e1d1294ca52a9ff6f", func := "estray/estraylaw08.ExpireKnown", spec := "expireKnown", inPlace := ["slices.overlaps[estray/expire.entry]"], unfollowed := true, recurses := true, apart := false, narrowed := true }
def ExpireKnownUptoSaid : Prop := expireKnownUptoRow.holds Try.pinned (OpenSpec.upto expireKnownSpec)

/-- 'estraylaw08.ExpireOnce', WHERE WHAT IT READS IS OF BULK AT MOST 1048576: true; the input reads as it did. -/
def expireOnceUptoRow : OpenClaim := { program := "ytognnjaefaoefaa", sum := "080bc9feb10e2c94b37182a7cd8a678499c41467a4f65f9e1d1294ca52a9ff6f", func := "estray/estraylaw08.ExpireOnce", spec := "expireOnce", inPlace := ["slices.overlaps[estray/expire.entry]"], unfollowed := true, recurses := true, apart := false, narrowed := true }
def ExpireOnceUptoSaid : Prop := expireOnceUptoRow.holds Try.pinned (OpenSpec.upto expireOnceSpec)

/-- 'estraylaw08.ExpireSets', WHERE WHAT IT READS IS OF BULK AT MOST 1048576: true; the input reads as it did. -/
def expireSetsUptoRow : OpenClaim := { program := "ytognnjaefaoefaa", sum := "080bc9feb10e2c94b37182a7cd8a678499c41467a4f65f9e1d1294ca52a9ff6f", func := "estray/estraylaw08.ExpireSets", spec := "expireSets", inPlace := ["slices.overlaps[estray/expire.entry]"], unfollowed := true, recurses := true, apart := false, narrowed := true }
def ExpireSetsUptoSaid : Prop := expireSetsUptoRow.holds Try.pinned (OpenSpec.upto expireSetsSpec)

/-- 'estraylaw08.ExpirePlays', WHERE WHAT IT READS IS OF BULK AT MOST 1048576: true; the input reads as it did. -/
def expirePlaysUptoRow : OpenClaim := { program := "ytognnjaefaoefaa", sum := "080bc9feb10e2c94b37182a7cd8a678499c41467a4f65f9e1d1294ca52a9ff6f", func := "estray/estraylaw08.ExpirePlays", spec := "expirePlays", inPlace := ["slices.overlaps[estray/expire.entry]"], unfollowed := true, recurses := true, apart := false, narrowed := true }
def ExpirePlaysUptoSaid : Prop := expirePlaysUptoRow.holds Try.pinned (OpenSpec.upto expirePlaysSpec)

/-- 'estraylaw08.ExpireNil', WHERE WHAT IT READS IS OF BULK AT MOST 1048576: true; the input reads as it did. -/
def expireNilUptoRow : OpenClaim := { program := "ytognnjaefaoefaa", sum := "080bc9feb10e2c94b37182a7cd8a678499c41467a4f65f9e1d1294ca52a9ff6f", func := "estray/estraylaw08.ExpireNil", spec := "expireNil", inPlace := ["slices.overlaps[estray/expire.entry]"], unfollowed := true, recurses := true, apart := false, narrowed := true }
def ExpireNilUptoSaid : Prop := expireNilUptoRow.holds Try.pinned (OpenSpec.upto expireNilSpec)

/-- 'estraylaw08.ExpireCopies', WHERE WHAT IT READS IS OF BULK AT MOST 1048576: true; the input reads as it did. -/
def expireCopiesUptoRow : OpenClaim := { program := "ytognnjaefaoefaa", sum := "080bc9feb10e2c94b37182a7cd8a678499c41467a4f65f9e1d1294ca52a9ff6f", func := "estray/estraylaw08.ExpireCopies", spec := "expireCopies", inPlace := ["slices.overlaps[estray/expire.entry]"], unfollowed := true, recurses := true, apart := false, narrowed := true }
def ExpireCopiesUptoSaid : Prop := expireCopiesUptoRow.holds Try.pinned (OpenSpec.upto expireCopiesSpec)

end Rows
end Go.Proofs.Ytognnjaefaoefaa
