/-
  No cell of these rows narrows 'for every input' (looked for: loops, veiled, ifaces, maps, wideKeys, modest, calm, conditions, laid).
  DERIVED. THE GIVEN ROWS OF THIS SEAT. 4 by the template 'for every input the law returns true; each argument reads behind the call as it read before'; 0 by the template 'total and deterministic' (their statements: YtgjjndadkmodpaaGreatTotals.lean).
  GIVEN WITH THE SEED: the statements are not yours to turn. If you find one false, say at which input.
  Laid BY PROGRAM, IN A SANDBOX (cutbox-rows.mjs): the forced cells as the released guide's own fill.sh prints them over the translation 1e3cd199cf8c2ae9… (all of the seat's roots in one cut). By AI agents, Wed Nov 11 2026. No macro, syntax, notation, axiom, sorry.
-/
import Derived.Test.YtgjjndadkmodpaaGreatChecked
import GoSem.Claim
import GoSem.ClaimJoined
import GoSem.ClaimMapViews
import Derived.JoinedTies
import Derived.KernelRfl
namespace Go.Proofs.YtgjjndadkmodpaaGreat
/- THE CELL 'sum', in the pinned program and in every row, IS THE sha256 OF THE DUMP (.gsa) THAT YtgjjndadkmodpaaGreatProg.lean LOADS. Nothing in Lean hashes anything: it is a label: what it is worth is what the hold of that sum in a sandbox is worth. -/
noncomputable def Tryz.pinned : Pinned := { name := "ytgjjndadkmodpaagreat", sum := "1e3cd199cf8c2ae98a92899913e033d4fd742e312ba45e1bfc6e33233ef42d53", checked := Tryz.checked }
namespace Rows
def none {H : Type} : Left H := { results := [], args := [] }

/-- 'torsionlaw32.VersionMatchesReference': WHATEVER THE INPUT: true; the input reads as it did. -/
def versionMatchesReferenceSpec : ChangeSpec := { name := "versionMatchesReference", fn := fun _ => fun
  | [d1, d2, d3] => { results := [.lit (.bool true)], args := [d1, d2, d3] }
  | _ => none }
def versionMatchesReferenceRow : OpenClaim := { program := "ytgjjndadkmodpaagreat", sum := "1e3cd199cf8c2ae98a92899913e033d4fd742e312ba45e1bfc6e33233ef42d53", func := "torsion/torsionlaw32.VersionMatchesReference", spec := "versionMatchesReference", unfollowed := true, recurses := true, apart := false }
def VersionMatchesReferenceSaid : Prop := versionMatchesReferenceRow.holds Tryz.pinned (OpenSpec.ofChange versionMatchesReferenceSpec)

/-- ITS FALSE NEIGHBOUR: 'it returns false'. Refute it at one input. -/
def versionMatchesReferenceWrong : ChangeSpec := { name := "versionMatchesReference", fn := fun _ => fun
  | [d1, d2, d3] => { results := [.lit (.bool false)], args := [d1, d2, d3] }
  | _ => none }
def VersionMatchesReferenceWrongFalsely : Prop := versionMatchesReferenceRow.holds Tryz.pinned (OpenSpec.ofChange versionMatchesReferenceWrong)

/-- 'torsionlaw32.VersionUndoes': WHATEVER THE INPUT: true; the input reads as it did. -/
def versionUndoesSpec : ChangeSpec := { name := "versionUndoes", fn := fun _ => fun
  | [d1, d2, d3] => { results := [.lit (.bool true)], args := [d1, d2, d3] }
  | _ => none }
def versionUndoesRow : OpenClaim := { program := "ytgjjndadkmodpaagreat", sum := "1e3cd199cf8c2ae98a92899913e033d4fd742e312ba45e1bfc6e33233ef42d53", func := "torsion/torsionlaw32.VersionUndoes", spec := "versionUndoes", unfollowed := true, recurses := true, apart := false }
def VersionUndoesSaid : Prop := versionUndoesRow.holds Tryz.pinned (OpenSpec.ofChange versionUndoesSpec)

/-- ITS FALSE NEIGHBOUR: 'it returns false'. Refute it at one input. -/
def versionUndoesWrong : ChangeSpec := { name := "versionUndoes", fn := fun _ => fun
  | [d1, d2, d3] => { results := [.lit (.bool false)], args := [d1, d2, d3] }
  | _ => none }
def VersionUndoesWrongFalsely : Prop := versionUndoesRow.holds Tryz.pinned (OpenSpec.ofChange versionUndoesWrong)

/-- 'torsionlaw32.VersionCompacts': WHATEVER THE INPUT: true; the input reads as it did. -/
def versionCompactsSpec : ChangeSpec := { name := "versionCompacts", fn := fun _ => fun
  | [d1, d2, d3] => { results := [.lit (.bool true)], args := [d1, d2, d3] }
  | _ => none }
def versionCompactsRow : OpenClaim := { program := "ytgjjndadkmodpaagreat", sum := "1e3cd199cf8c2ae98a92899913e033d4fd742e312ba45e1bfc6e33233ef42d53", func := "torsion/torsionlaw32.VersionCompacts", spec := "versionCompacts", unfollowed := true, recurses := true, apart := false }
def VersionCompactsSaid : Prop := versionCompactsRow.holds Tryz.pinned (OpenSpec.ofChange versionCompactsSpec)

/-- ITS FALSE NEIGHBOUR: 'it returns false'. Refute it at one input. -/
def versionCompactsWrong : ChangeSpec := { name := "versionCompacts", fn := fun _ => fun
  | [d1, d2, d3] => { results := [.lit (.bool false)], args := [d1, d2, d3] }
  | _ => none }
def VersionCompactsWrongFalsely : Prop := versionCompactsRow.holds Tryz.pinned (OpenSpec.ofChange versionCompactsWrong)

/-- 'torsionlaw32.VersionMergesBeginnings': WHATEVER THE INPUT: true; the input reads as it did. -/
def versionMergesBeginningsSpec : ChangeSpec := { name := "versionMergesBeginnings", fn := fun _ => fun
  | [d1, d2, d3] => { results := [.lit (.bool true)], args := [d1, d2, d3] }
  | _ => none }
def versionMergesBeginningsRow : OpenClaim := { program := "ytgjjndadkmodpaagreat", sum := "1e3cd199cf8c2ae98a92899913e033d4fd742e312ba45e1bfc6e33233ef42d53", func := "torsion/torsionlaw32.VersionMergesBeginnings", spec := "versionMergesBeginnings", unfollowed := true, recurses := true, apart := false }
def VersionMergesBeginningsSaid : Prop := versionMergesBeginningsRow.holds Tryz.pinned (OpenSpec.ofChange versionMergesBeginningsSpec)

/-- ITS FALSE NEIGHBOUR: 'it returns false'. Refute it at one input. -/
def versionMergesBeginningsWrong : ChangeSpec := { name := "versionMergesBeginnings", fn := fun _ => fun
  | [d1, d2, d3] => { results := [.lit (.bool false)], args := [d1, d2, d3] }
  | _ => none }
def VersionMergesBeginningsWrongFalsely : Prop := versionMergesBeginningsRow.holds Tryz.pinned (OpenSpec.ofChange versionMergesBeginningsWrong)

/- THE SECOND FORM. 'bulk': how many values and letters a reading holds, each counted each time it is reached (what is shared counts as often as it is met; a slice's spare places count too). A statement '..UptoSaid' is the law's where the arguments, and the package variables that the reading takes, are together of bulk at most 1048576: NARROWER than '..Said'. Prove '..Said' where nothing that the law and all that it calls make is longer than what came in: it says more and counts as full. Else prove '..UptoSaid'. A law counts once. -/
mutual
def uptoBulk {H : Type} : DataW H → Nat
  | .lit (.string bytes) => bytes.length + 1
  | .lit _ => 1
  | .nil => 1
  | .ptr d => uptoBulk d + 1
  | .slice elems spare => uptoBulkAll elems + uptoBulkAll spare + 1
  | .agg parts => uptoBulkAll parts + 1
  | .iface _ d => uptoBulk d + 1
  | .map entries => uptoBulkEntries entries + 1
  | .held _ => 1
def uptoBulkAll {H : Type} : List (DataW H) → Nat
  | [] => 0
  | d :: r => uptoBulk d + uptoBulkAll r
def uptoBulkEntries {H : Type} : List (Lit × DataW H) → Nat
  | [] => 0
  | x :: r => uptoBulkEntry x + uptoBulkEntries r
def uptoBulkEntry {H : Type} : Lit × DataW H → Nat
  | (.string bytes, d) => bytes.length + uptoBulk d + 1
  | (_, d) => uptoBulk d + 1
 end
def uptoSmall : (H : Type) → List (DataW H) → Bool := fun _ ds => decide (uptoBulkAll ds ≤ 1048576)
def OpenSpec.upto (s : _root_.Go.ChangeSpec) : _root_.Go.OpenSpec := { _root_.Go.OpenSpec.ofChange s with cond := some uptoSmall }

/-- 'torsionlaw32.VersionMatchesReference', WHERE WHAT IT READS IS OF BULK AT MOST 1048576: true; the input reads as it did. -/
def versionMatchesReferenceUptoRow : OpenClaim := { program := "ytgjjndadkmodpaagreat", sum := "1e3cd199cf8c2ae98a92899913e033d4fd742e312ba45e1bfc6e33233ef42d53", func := "torsion/torsionlaw32.VersionMatchesReference", spec := "versionMatchesReference", unfollowed := true, recurses := true, apart := false, narrowed := true }
def VersionMatchesReferenceUptoSaid : Prop := versionMatchesReferenceUptoRow.holds Tryz.pinned (OpenSpec.upto versionMatchesReferenceSpec)

/-- 'torsionlaw32.VersionUndoes', WHERE WHAT IT READS IS OF BULK AT MOST 1048576: true; the input reads as it did. -/
def versionUndoesUptoRow : OpenClaim := { program := "ytgjjndadkmodpaagreat", sum := "1e3cd199cf8c2ae98a92899913e033d4fd742e312ba45e1bfc6e33233ef42d53", func := "torsion/torsionlaw32.VersionUndoes", spec := "versionUndoes", unfollowed := true, recurses := true, apart := false, narrowed := true }
def VersionUndoesUptoSaid : Prop := versionUndoesUptoRow.holds Tryz.pinned (OpenSpec.upto versionUndoesSpec)

/-- 'torsionlaw32.VersionCompacts', WHERE WHAT IT READS IS OF BULK AT MOST 1048576: true; the input reads as it did. -/
def versionCompactsUptoRow : OpenClaim := { program := "ytgjjndadkmodpaagreat", sum := "1e3cd199cf8c2ae98a92899913e033d4fd742e312ba45e1bfc6e33233ef42d53", func := "torsion/torsionlaw32.VersionCompacts", spec := "versionCompacts", unfollowed := true, recurses := true, apart := false, narrowed := true }
def VersionCompactsUptoSaid : Prop := versionCompactsUptoRow.holds Tryz.pinned (OpenSpec.upto versionCompactsSpec)

/-- 'torsionlaw32.VersionMergesBeginnings', WHERE WHAT IT READS IS OF BULK AT MOST 1048576: true; the input reads as it did. -/
def versionMergesBeginningsUptoRow : OpenClaim := { program := "ytgjjndadkmodpaagreat", sum := "1e3cd199cf8c2ae98a92899913e033d4fd742e312ba45e1bfc6e33233ef42d53", func := "torsion/torsionlaw32.VersionMergesBeginnings", spec := "versionMergesBeginnings", unfollowed := true, recurses := true, apart := false, narrowed := true }
def VersionMergesBeginningsUptoSaid : Prop := versionMergesBeginningsUptoRow.holds Tryz.pinned (OpenSpec.upto versionMergesBeginningsSpec)

end Rows
end Go.Proofs.YtgjjndadkmodpaaGreat
