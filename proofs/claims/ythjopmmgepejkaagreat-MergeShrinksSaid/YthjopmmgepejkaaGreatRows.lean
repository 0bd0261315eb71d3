/-
  No cell of these rows narrows 'for every input' (looked for: loops, veiled, ifaces, maps, wideKeys, modest, calm, conditions, laid).
  DERIVED. THE GIVEN ROWS OF THIS SEAT. 5 by the template 'for every input the law returns true; each argument reads behind the call as it read before'; 0 by the template 'total and deterministic' (their statements: YthjopmmgepejkaaGreatTotals.lean).
  GIVEN WITH THE SEED: the statements are not yours to turn. If you find one false, say at which input.
  Laid BY PROGRAM, IN A SANDBOX (cutbox-rows.mjs): the forced cells as the released guide's own fill.sh prints them over the translation 897bac9f862d6cec… (all of the seat's roots in one cut). By AI agents, Wed Nov 11 2026. No macro, syntax, notation, axiom, sorry.
-/
import Derived.Test.YthjopmmgepejkaaGreatChecked
import GoSem.Claim
import GoSem.ClaimJoined
import GoSem.ClaimMapViews
import Derived.JoinedTies
import Derived.KernelRfl
namespace Go.Proofs.YthjopmmgepejkaaGreat
/- THE CELL 'sum', in the pinned program and in every row, IS THE sha256 OF THE DUMP (.gsa) THAT YthjopmmgepejkaaGreatProg.lean LOADS. Nothing in Lean hashes anything: it is a label: what it is worth is what the hold of that sum in a sandbox is worth. -/
noncomputable def Tryz.pinned : Pinned := { name := "ythjopmmgepejkaagreat", sum := "897bac9f862d6cecac79597253d5952782cafc4557c0826121ffa95455f569d0", checked := Tryz.checked }
namespace Rows
def none {H : Type} : Left H := { results := [], args := [] }

/-- 'torsionlaw31.MergeIdentifies': WHATEVER THE INPUT: true; the input reads as it did. -/
def mergeIdentifiesSpec : ChangeSpec := { name := "mergeIdentifies", fn := fun _ => fun
  | [d] => { results := [.lit (.bool true)], args := [d] }
  | _ => none }
def mergeIdentifiesRow : OpenClaim := { program := "ythjopmmgepejkaagreat", sum := "897bac9f862d6cecac79597253d5952782cafc4557c0826121ffa95455f569d0", func := "torsion/torsionlaw31.MergeIdentifies", spec := "mergeIdentifies", unfollowed := true, recurses := true, apart := false }
def MergeIdentifiesSaid : Prop := mergeIdentifiesRow.holds Tryz.pinned (OpenSpec.ofChange mergeIdentifiesSpec)

/-- ITS FALSE NEIGHBOUR: 'it returns false'. Refute it at one input. -/
def mergeIdentifiesWrong : ChangeSpec := { name := "mergeIdentifies", fn := fun _ => fun
  | [d] => { results := [.lit (.bool false)], args := [d] }
  | _ => none }
def MergeIdentifiesWrongFalsely : Prop := mergeIdentifiesRow.holds Tryz.pinned (OpenSpec.ofChange mergeIdentifiesWrong)

/-- 'torsionlaw31.MergeTwins': WHATEVER THE INPUT: true; the input reads as it did. -/
def mergeTwinsSpec : ChangeSpec := { name := "mergeTwins", fn := fun _ => fun
  | [d1, d2] => { results := [.lit (.bool true)], args := [d1, d2] }
  | _ => none }
def mergeTwinsRow : OpenClaim := { program := "ythjopmmgepejkaagreat", sum := "897bac9f862d6cecac79597253d5952782cafc4557c0826121ffa95455f569d0", func := "torsion/torsionlaw31.MergeTwins", spec := "mergeTwins", unfollowed := true, recurses := true, apart := false }
def MergeTwinsSaid : Prop := mergeTwinsRow.holds Tryz.pinned (OpenSpec.ofChange mergeTwinsSpec)

/-- ITS FALSE NEIGHBOUR: 'it returns false'. Refute it at one input. -/
def mergeTwinsWrong : ChangeSpec := { name := "mergeTwins", fn := fun _ => fun
  | [d1, d2] => { results := [.lit (.bool false)], args := [d1, d2] }
  | _ => none }
def MergeTwinsWrongFalsely : Prop := mergeTwinsRow.holds Tryz.pinned (OpenSpec.ofChange mergeTwinsWrong)

/-- 'torsionlaw31.MergeShrinks': WHATEVER THE INPUT: true; the input reads as it did. -/
def mergeShrinksSpec : ChangeSpec := { name := "mergeShrinks", fn := fun _ => fun
  | [d] => { results := [.lit (.bool true)], args := [d] }
  | _ => none }
def mergeShrinksRow : OpenClaim := { program := "ythjopmmgepejkaagreat", sum := "897bac9f862d6cecac79597253d5952782cafc4557c0826121ffa95455f569d0", func := "torsion/torsionlaw31.MergeShrinks", spec := "mergeShrinks", unfollowed := true, recurses := true, apart := false }
def MergeShrinksSaid : Prop := mergeShrinksRow.holds Tryz.pinned (OpenSpec.ofChange mergeShrinksSpec)

/-- ITS FALSE NEIGHBOUR: 'it returns false'. Refute it at one input. -/
def mergeShrinksWrong : ChangeSpec := { name := "mergeShrinks", fn := fun _ => fun
  | [d] => { results := [.lit (.bool false)], args := [d] }
  | _ => none }
def MergeShrinksWrongFalsely : Prop := mergeShrinksRow.holds Tryz.pinned (OpenSpec.ofChange mergeShrinksWrong)

/-- 'torsionlaw31.MergeSubdivides': WHATEVER THE INPUT: true; the input reads as it did. -/
def mergeSubdividesSpec : ChangeSpec := { name := "mergeSubdivides", fn := fun _ => fun
  | [d1, d2] => { results := [.lit (.bool true)], args := [d1, d2] }
  | _ => none }
def mergeSubdividesRow : OpenClaim := { program := "ythjopmmgepejkaagreat", sum := "897bac9f862d6cecac79597253d5952782cafc4557c0826121ffa95455f569d0", func := "torsion/torsionlaw31.MergeSubdivides", spec := "mergeSubdivides", unfollowed := true, recurses := true, apart := false }
def MergeSubdividesSaid : Prop := mergeSubdividesRow.holds Tryz.pinned (OpenSpec.ofChange mergeSubdividesSpec)

/-- ITS FALSE NEIGHBOUR: 'it returns false'. Refute it at one input. -/
def mergeSubdividesWrong : ChangeSpec := { name := "mergeSubdivides", fn := fun _ => fun
  | [d1, d2] => { results := [.lit (.bool false)], args := [d1, d2] }
  | _ => none }
def MergeSubdividesWrongFalsely : Prop := mergeSubdividesRow.holds Tryz.pinned (OpenSpec.ofChange mergeSubdividesWrong)

/-- 'torsionlaw31.MergeGrows': WHATEVER THE INPUT: true; the input reads as it did. -/
def mergeGrowsSpec : ChangeSpec := { name := "mergeGrows", fn := fun _ => fun
  | [d1, d2, d3] => { results := [.lit (.bool true)], args := [d1, d2, d3] }
  | _ => none }
def mergeGrowsRow : OpenClaim := { program := "ythjopmmgepejkaagreat", sum := "897bac9f862d6cecac79597253d5952782cafc4557c0826121ffa95455f569d0", func := "torsion/torsionlaw31.MergeGrows", spec := "mergeGrows", unfollowed := true, recurses := true, apart := false }
def MergeGrowsSaid : Prop := mergeGrowsRow.holds Tryz.pinned (OpenSpec.ofChange mergeGrowsSpec)

/-- ITS FALSE NEIGHBOUR: 'it returns false'. Refute it at one input. -/
def mergeGrowsWrong : ChangeSpec := { name := "mergeGrows", fn := fun _ => fun
  | [d1, d2, d3] => { results := [.lit (.bool false)], args := [d1, d2, d3] }
  | _ => none }
def MergeGrowsWrongFalsely : Prop := mergeGrowsRow.holds Tryz.pinned (OpenSpec.ofChange mergeGrowsWrong)

/- THE SECOND FORM. 'bulk': how many values and letters a reading holds, each counted each time it is reached (what is shared counts as often as it is met; a slice's spare places count too). A statement '..UptoSaid' is the law's where the arguments, and the package variables that the reading takes, are together of bulk at most 1048576: NARROWER than '..Said'. Prove '..Said' where nothing that the law and all that it calls make is longer than what came in: it says more and counts as full. Else prove '..UptoSaid'. A law counts once. -/
mutual
def uptoBulk {H : Type} : DataW H → Nat
  | .lit (.string bytes) => bytes.length + 1
  | .lit _ => 1
  | .nil => 1
  | .ptr d => uptoBulk d + 1
  | .slice elems spare => uptoBulkAll elems + uptoBulkAll spare + 1
  | .agg parts => uptoBulkAll parts + 1
  | .iface _ d => uptoBulk d + 1
  | .map entries => uptoBulkEntries entries + 1
  | .held _ => 1
def uptoBulkAll {H : Type} : List (DataW H) → Nat
  | [] => 0
  | d :: r => uptoBulk d + uptoBulkAll r
def uptoBulkEntries {H : Type} : List (Lit × DataW H) → Nat
  | [] => 0
  | x :: r => uptoBulkEntry x + uptoBulkEntries r
def uptoBulkEntry {H : Type} : Lit × DataW H → Nat
  | (.string bytes, d) => bytes.length + uptoBulk d + 1
  | (_, d) => uptoBulk d + 1
 end
def uptoSmall : (H : Type) → List (DataW H) → Bool := fun _ ds => decide (uptoBulkAll ds ≤ 1048576)
def OpenSpec.upto (s : _root_.Go.ChangeSpec) : _root_.Go.OpenSpec := { _root_.Go.OpenSpec.ofChange s with cond := some uptoSmall }

/-- 'torsionlaw31.MergeIdentifies', WHERE WHAT IT READS IS OF BULK AT MOST 1048576: true; the input reads as it did. -/
def mergeIdentifiesUptoRow : OpenClaim := { program := "ythjopmmgepejkaagreat", sum := "897bac9f862d6cecac79597253d5952782cafc4557c0826121ffa95455f569d0", func := "torsion/torsionlaw31.MergeIdentifies", spec := "mergeIdentifies", unfollowed := true, recurses := true, apart := false, narrowed := true }
def MergeIdentifiesUptoSaid : Prop := mergeIdentifiesUptoRow.holds Tryz.pinned (OpenSpec.upto mergeIdentifiesSpec)

/-- 'torsionlaw31.MergeTwins', WHERE WHAT IT READS IS OF BULK AT MOST 1048576: true; the input reads as it did. -/
def mergeTwinsUptoRow : OpenClaim := { program := "ythjopmmgepejkaagreat", sum := "897bac9f862d6cecac79597253d5952782cafc4557c0826121ffa95455f569d0", func := "torsion/torsionlaw31.MergeTwins", spec := "mergeTwins", unfollowed := true, recurses := true, apart := false, narrowed := true }
def MergeTwinsUptoSaid : Prop := mergeTwinsUptoRow.holds Tryz.pinned (OpenSpec.upto mergeTwinsSpec)

/-- 'torsionlaw31.MergeShrinks', WHERE WHAT IT READS IS OF BULK AT MOST 1048576: true; the input reads as it did. -/
def mergeShrinksUptoRow : OpenClaim := { program := "ythjopmmgepejkaagreat", sum := "897bac9f862d6cecac79597253d5952782cafc4557c0826121ffa95455f569d0", func := "torsion/torsionlaw31.MergeShrinks", spec := "mergeShrinks", unfollowed := true, recurses := true, apart := false, narrowed := true }
def MergeShrinksUptoSaid : Prop := mergeShrinksUptoRow.holds Tryz.pinned (OpenSpec.upto mergeShrinksSpec)

/-- 'torsionlaw31.MergeSubdivides', WHERE WHAT IT READS IS OF BULK AT MOST 1048576: true; the input reads as it did. -/
def mergeSubdividesUptoRow : OpenClaim := { program := "ythjopmmgepejkaagreat", sum := "897bac9f862d6cecac79597253d5952782cafc4557c0826121ffa95455f569d0", func := "torsion/torsionlaw31.MergeSubdivides", spec := "mergeSubdivides", unfollowed := true, recurses := true, apart := false, narrowed := true }
def MergeSubdividesUptoSaid : Prop := mergeSubdividesUptoRow.holds Tryz.pinned (OpenSpec.upto mergeSubdividesSpec)

/-- 'torsionlaw31.MergeGrows', WHERE WHAT IT READS IS OF BULK AT MOST 1048576: true; the input reads as it did. -/
def mergeGrowsUptoRow : OpenClaim := { program := "ythjopmmgepejkaagreat", sum := "897bac9f862d6cecac79597253d5952782cafc4557c0826121ffa95455f569d0", func := "torsion/torsionlaw31.MergeGrows", spec := "mergeGrows", unfollowed := true, recurses := true, apart := false, narrowed := true }
def MergeGrowsUptoSaid : Prop := mergeGrowsUptoRow.holds Tryz.pinned (OpenSpec.upto mergeGrowsSpec)

end Rows
end Go.Proofs.YthjopmmgepejkaaGreat
