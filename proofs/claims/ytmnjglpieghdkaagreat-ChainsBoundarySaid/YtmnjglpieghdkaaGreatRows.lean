/-
  No cell of these rows narrows 'for every input' (looked for: loops, veiled, ifaces, maps, wideKeys, modest, calm, conditions, laid).
  DERIVED. THE GIVEN ROWS OF THIS SEAT. 3 by the template 'for every input the law returns true; each argument reads behind the call as it read before'; 0 by the template 'total and deterministic' (their statements: YtmnjglpieghdkaaGreatTotals.lean).
  GIVEN WITH THE SEED: the statements are not yours to turn. If you find one false, say at which input.
  Laid BY PROGRAM, IN A SANDBOX (cutbox-rows.mjs): the forced cells as the released guide's own fill.sh prints them over the translation 2327affaae0f0abd… (all of the seat's roots in one cut). By AI agents, Wed Nov 11 2026. No macro, syntax, notation, axiom, sorry.
-/
import Derived.Test.YtmnjglpieghdkaaGreatChecked
import GoSem.Claim
import GoSem.ClaimJoined
import GoSem.ClaimMapViews
import Derived.JoinedTies
import Derived.KernelRfl
namespace Go.Proofs.YtmnjglpieghdkaaGreat
/- THE CELL 'sum', in the pinned program and in every row, IS THE sha256 OF THE DUMP (.gsa) THAT YtmnjglpieghdkaaGreatProg.lean LOADS. Nothing in Lean hashes anything: it is a label: what it is worth is what the hold of that sum in a sandbox is worth. -/
noncomputable def Tryz.pinned : Pinned := { name := "ytmnjglpieghdkaagreat", sum := "2327affaae0f0abdfe10411507279775f8d8df74d264366433748943818fe598", checked := Tryz.checked }
namespace Rows
def none {H : Type} : Left H := { results := [], args := [] }

/-- 'torsionlaw26.ChainsMatchesReference': WHATEVER THE INPUT: true; the input reads as it did. -/
def chainsMatchesReferenceSpec : ChangeSpec := { name := "chainsMatchesReference", fn := fun _ => fun
  | [d1, d2, d3] => { results := [.lit (.bool true)], args := [d1, d2, d3] }
  | _ => none }
def chainsMatchesReferenceRow : OpenClaim := { program := "ytmnjglpieghdkaagreat", sum := "2327affaae0f0abdfe10411507279775f8d8df74d264366433748943818fe598", func := "torsion/torsionlaw26.ChainsMatchesReference", spec := "chainsMatchesReference", unfollowed := true, recurses := true, apart := false }
def ChainsMatchesReferenceSaid : Prop := chainsMatchesReferenceRow.holds Tryz.pinned (OpenSpec.ofChange chainsMatchesReferenceSpec)

/-- ITS FALSE NEIGHBOUR: 'it returns false'. Refute it at one input. -/
def chainsMatchesReferenceWrong : ChangeSpec := { name := "chainsMatchesReference", fn := fun _ => fun
  | [d1, d2, d3] => { results := [.lit (.bool false)], args := [d1, d2, d3] }
  | _ => none }
def ChainsMatchesReferenceWrongFalsely : Prop := chainsMatchesReferenceRow.holds Tryz.pinned (OpenSpec.ofChange chainsMatchesReferenceWrong)

/-- 'torsionlaw26.ChainsBoundary': WHATEVER THE INPUT: true; the input reads as it did. -/
def chainsBoundarySpec : ChangeSpec := { name := "chainsBoundary", fn := fun _ => fun
  | [d1, d2, d3] => { results := [.lit (.bool true)], args := [d1, d2, d3] }
  | _ => none }
def chainsBoundaryRow : OpenClaim := { program := "ytmnjglpieghdkaagreat", sum := "2327affaae0f0abdfe10411507279775f8d8df74d264366433748943818fe598", func := "torsion/torsionlaw26.ChainsBoundary", spec := "chainsBoundary", unfollowed := true, recurses := true, apart := false }
def ChainsBoundarySaid : Prop := chainsBoundaryRow.holds Tryz.pinned (OpenSpec.ofChange chainsBoundarySpec)

/-- ITS FALSE NEIGHBOUR: 'it returns false'. Refute it at one input. -/
def chainsBoundaryWrong : ChangeSpec := { name := "chainsBoundary", fn := fun _ => fun
  | [d1, d2, d3] => { results := [.lit (.bool false)], args := [d1, d2, d3] }
  | _ => none }
def ChainsBoundaryWrongFalsely : Prop := chainsBoundaryRow.holds Tryz.pinned (OpenSpec.ofChange chainsBoundaryWrong)

/-- 'torsionlaw26.ChainsRows': WHATEVER THE INPUT: true; the input reads as it did. -/
def chainsRowsSpec : ChangeSpec := { name := "chainsRows", fn := fun _ => fun
  | [d1, d2, d3] => { results := [.lit (.bool true)], args := [d1, d2, d3] }
  | _ => none }
def chainsRowsRow : OpenClaim := { program := "ytmnjglpieghdkaagreat", sum := "2327affaae0f0abdfe10411507279775f8d8df74d264366433748943818fe598", func := "torsion/torsionlaw26.ChainsRows", spec := "chainsRows", unfollowed := true, recurses := true, apart := false }
def ChainsRowsSaid : Prop := chainsRowsRow.holds Tryz.pinned (OpenSpec.ofChange chainsRowsSpec)

/-- ITS FALSE NEIGHBOUR: 'it returns false'. Refute it at one input. -/
def chainsRowsWrong : ChangeSpec := { name := "chainsRows", fn := fun _ => fun
  | [d1, d2, d3] => { results := [.lit (.bool false)], args := [d1, d2, d3] }
  | _ => none }
def ChainsRowsWrongFalsely : Prop := chainsRowsRow.holds Tryz.pinned (OpenSpec.ofChange chainsRowsWrong)

/- THE SECOND FORM. 'bulk': how many values and letters a reading holds, each counted each time it is reached (what is shared counts as often as it is met; a slice's spare places count too). A statement '..UptoSaid' is the law's where the arguments, and the package variables that the reading takes, are together of bulk at most 1048576: NARROWER than '..Said'. Prove '..Said' where nothing that the law and all that it calls make is longer than what came in: it says more and counts as full. Else prove '..UptoSaid'. A law counts once. -/
mutual
def uptoBulk {H : Type} : DataW H → Nat
  | .lit (.string bytes) => bytes.length + 1
  | .lit _ => 1
  | .nil => 1
  | .ptr d => uptoBulk d + 1
  | .slice elems spare => uptoBulkAll elems + uptoBulkAll spare + 1
  | .agg parts => uptoBulkAll parts + 1
  | .iface _ d => uptoBulk d + 1
  | .map entries => uptoBulkEntries entries + 1
  | .held _ => 1
def uptoBulkAll {H : Type} : List (DataW H) → Nat
  | [] => 0
  | d :: r => uptoBulk d + uptoBulkAll r
def uptoBulkEntries {H : Type} : List (Lit × DataW H) → Nat
  | [] => 0
  | x :: r => uptoBulkEntry x + uptoBulkEntries r
def uptoBulkEntry {H : Type} : Lit × DataW H → Nat
  | (.string bytes, d) => bytes.length + uptoBulk d + 1
  | (_, d) => uptoBulk d + 1
 end
def uptoSmall : (H : Type) → List (DataW H) → Bool := fun _ ds => decide (uptoBulkAll ds ≤ 1048576)
def OpenSpec.upto (s : _root_.Go.ChangeSpec) : _root_.Go.OpenSpec := { _root_.Go.OpenSpec.ofChange s with cond := some uptoSmall }

/-- 'torsionlaw26.ChainsMatchesReference', WHERE WHAT IT READS IS OF BULK AT MOST 1048576: true; the input reads as it did. -/
def chainsMatchesReferenceUptoRow : OpenClaim := { program := "ytmnjglpieghdkaagreat", sum := "2327affaae0f0abdfe10411507279775f8d8df74d264366433748943818fe598", func := "torsion/torsionlaw26.ChainsMatchesReference", spec := "chainsMatchesReference", unfollowed := true, recurses := true, apart := false, narrowed := true }
def ChainsMatchesReferenceUptoSaid : Prop := chainsMatchesReferenceUptoRow.holds Tryz.pinned (OpenSpec.upto chainsMatchesReferenceSpec)

/-- 'torsionlaw26.ChainsBoundary', WHERE WHAT IT READS IS OF BULK AT MOST 1048576: true; the input reads as it did. -/
def chainsBoundaryUptoRow : OpenClaim := { program := "ytmnjglpieghdkaagreat", sum := "2327affaae0f0abdfe10411507279775f8d8df74d264366433748943818fe598", func := "torsion/torsionlaw26.ChainsBoundary", spec := "chainsBoundary", unfollowed := true, recurses := true, apart := false, narrowed := true }
def ChainsBoundaryUptoSaid : Prop := chainsBoundaryUptoRow.holds Tryz.pinned (OpenSpec.upto chainsBoundarySpec)

/-- 'torsionlaw26.ChainsRows', WHERE WHAT IT READS IS OF BULK AT MOST 1048576: true; the input reads as it did. -/
def chainsRowsUptoRow : OpenClaim := { program := "ytmnjglpieghdkaagreat", sum := "2327affaae0f0abdfe10411507279775f8d8df74d264366433748943818fe598", func := "torsion/torsionlaw26.ChainsRows", spec := "chainsRows", unfollowed := true, recurses := true, apart := false, narrowed := true }
def ChainsRowsUptoSaid : Prop := chainsRowsUptoRow.holds Tryz.pinned (OpenSpec.upto chainsRowsSpec)

end Rows
end Go.Proofs.YtmnjglpieghdkaaGreat
