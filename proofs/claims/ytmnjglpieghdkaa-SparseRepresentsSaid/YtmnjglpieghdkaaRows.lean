/-
  No cell of these rows narrows 'for every input' (looked for: loops, veiled, ifaces, maps, wideKeys, modest, calm, conditions, laid).
  DERIVED. THE GIVEN ROWS OF THIS SEAT. 8 by the template 'for every input the law returns true; each argument reads behind the call as it read before'; 0 by the template 'total and deterministic' (their statements: YtmnjglpieghdkaaTotals.lean).
  GIVEN WITH THE SEED: the statements are not yours to turn. If you find one false, say at which input.
  Laid BY PROGRAM, IN A SANDBOX (cutbox-rows.mjs): the forced cells as the released guide's own fill.sh prints them over the translation 4bf2ede415760978… (all of the seat's roots in one cut). By AI agents, Wed Nov 11 2026. No macro, syntax, notation, axiom, sorry.
-/
import Derived.Test.YtmnjglpieghdkaaChecked
import GoSem.Claim
import GoSem.ClaimJoined
import GoSem.ClaimMapViews
import Derived.JoinedTies
import Derived.KernelRfl
namespace Go.Proofs.Ytmnjglpieghdkaa
/- THE CELL 'sum', in the pinned program and in every row, IS THE sha256 OF THE DUMP (.gsa) THAT YtmnjglpieghdkaaProg.lean LOADS. Nothing in Lean hashes anything: it is a label: what it is worth is what the hold of that sum in a sandbox is worth. -/
noncomputable def Try.pinned : Pinned := { name := "ytmnjglpieghdkaa", sum := "4bf2ede4157609785b214b65691ea5408d31b597a34f6543744fea0446687cd4", checked := Try.checked }
namespace Rows
def none {H : Type} : Left H := { results := [], args := [] }

/-- 'torsionlaw26.ChainsMakes': WHATEVER THE INPUT: true; the input reads as it did. -/
def chainsMakesSpec : ChangeSpec := { name := "chainsMakes", fn := fun _ => fun
  | [d1, d2, d3] => { results := [.lit (.bool true)], args := [d1, d2, d3] }
  | _ => none }
def chainsMakesRow : OpenClaim := { program := "ytmnjglpieghdkaa", sum := "4bf2ede4157609785b214b65691ea5408d31b597a34f6543744fea0446687cd4", func := "torsion/torsionlaw26.ChainsMakes", spec := "chainsMakes", unfollowed := true, recurses := true, apart := false }
def ChainsMakesSaid : Prop := chainsMakesRow.holds Try.pinned (OpenSpec.ofChange chainsMakesSpec)

/-- ITS FALSE NEIGHBOUR: 'it returns false'. Refute it at one input. -/
def chainsMakesWrong : ChangeSpec := { name := "chainsMakes", fn := fun _ => fun
  | [d1, d2, d3] => { results := [.lit (.bool false)], args := [d1, d2, d3] }
  | _ => none }
def ChainsMakesWrongFalsely : Prop := chainsMakesRow.holds Try.pinned (OpenSpec.ofChange chainsMakesWrong)

/-- 'torsionlaw26.ChainsModule': WHATEVER THE INPUT: true; the input reads as it did. -/
def chainsModuleSpec : ChangeSpec := { name := "chainsModule", fn := fun _ => fun
  | [d1, d2, d3] => { results := [.lit (.bool true)], args := [d1, d2, d3] }
  | _ => none }
def chainsModuleRow : OpenClaim := { program := "ytmnjglpieghdkaa", sum := "4bf2ede4157609785b214b65691ea5408d31b597a34f6543744fea0446687cd4", func := "torsion/torsionlaw26.ChainsModule", spec := "chainsModule", unfollowed := true, recurses := true, apart := false }
def ChainsModuleSaid : Prop := chainsModuleRow.holds Try.pinned (OpenSpec.ofChange chainsModuleSpec)

/-- ITS FALSE NEIGHBOUR: 'it returns false'. Refute it at one input. -/
def chainsModuleWrong : ChangeSpec := { name := "chainsModule", fn := fun _ => fun
  | [d1, d2, d3] => { results := [.lit (.bool false)], args := [d1, d2, d3] }
  | _ => none }
def ChainsModuleWrongFalsely : Prop := chainsModuleRow.holds Try.pinned (OpenSpec.ofChange chainsModuleWrong)

/-- 'torsionlaw06.SparseValid': WHATEVER THE INPUT: true; the input reads as it did. -/
def sparseValidSpec : ChangeSpec := { name := "sparseValid", fn := fun _ => fun
  | [d] => { results := [.lit (.bool true)], args := [d] }
  | _ => none }
def sparseValidRow : OpenClaim := { program := "ytmnjglpieghdkaa", sum := "4bf2ede4157609785b214b65691ea5408d31b597a34f6543744fea0446687cd4", func := "torsion/torsionlaw06.SparseValid", spec := "sparseValid", unfollowed := true, recurses := true, apart := false }
def SparseValidSaid : Prop := sparseValidRow.holds Try.pinned (OpenSpec.ofChange sparseValidSpec)

/-- ITS FALSE NEIGHBOUR: 'it returns false'. Refute it at one input. -/
def sparseValidWrong : ChangeSpec := { name := "sparseValid", fn := fun _ => fun
  | [d] => { results := [.lit (.bool false)], args := [d] }
  | _ => none }
def SparseValidWrongFalsely : Prop := sparseValidRow.holds Try.pinned (OpenSpec.ofChange sparseValidWrong)

/-- 'torsionlaw06.SparseMerges': WHATEVER THE INPUT: true; the input reads as it did. -/
def sparseMergesSpec : ChangeSpec := { name := "sparseMerges", fn := fun _ => fun
  | [d1, d2, d3] => { results := [.lit (.bool true)], args := [d1, d2, d3] }
  | _ => none }
def sparseMergesRow : OpenClaim := { program := "ytmnjglpieghdkaa", sum := "4bf2ede4157609785b214b65691ea5408d31b597a34f6543744fea0446687cd4", func := "torsion/torsionlaw06.SparseMerges", spec := "sparseMerges", unfollowed := true, recurses := true, apart := false }
def SparseMergesSaid : Prop := sparseMergesRow.holds Try.pinned (OpenSpec.ofChange sparseMergesSpec)

/-- ITS FALSE NEIGHBOUR: 'it returns false'. Refute it at one input. -/
def sparseMergesWrong : ChangeSpec := { name := "sparseMerges", fn := fun _ => fun
  | [d1, d2, d3] => { results := [.lit (.bool false)], args := [d1, d2, d3] }
  | _ => none }
def SparseMergesWrongFalsely : Prop := sparseMergesRow.holds Try.pinned (OpenSpec.ofChange sparseMergesWrong)

/-- 'torsionlaw06.SparseRows': WHATEVER THE INPUT: true; the input reads as it did. -/
def sparseRowsSpec : ChangeSpec := { name := "sparseRows", fn := fun _ => fun
  | [d1, d2, d3] => { results := [.lit (.bool true)], args := [d1, d2, d3] }
  | _ => none }
def sparseRowsRow : OpenClaim := { program := "ytmnjglpieghdkaa", sum := "4bf2ede4157609785b214b65691ea5408d31b597a34f6543744fea0446687cd4", func := "torsion/torsionlaw06.SparseRows", spec := "sparseRows", unfollowed := true, recurses := true, apart := false }
def SparseRowsSaid : Prop := sparseRowsRow.holds Try.pinned (OpenSpec.ofChange sparseRowsSpec)

/-- ITS FALSE NEIGHBOUR: 'it returns false'. Refute it at one input. -/
def sparseRowsWrong : ChangeSpec := { name := "sparseRows", fn := fun _ => fun
  | [d1, d2, d3] => { results := [.lit (.bool false)], args := [d1, d2, d3] }
  | _ => none }
def SparseRowsWrongFalsely : Prop := sparseRowsRow.holds Try.pinned (OpenSpec.ofChange sparseRowsWrong)

/-- 'torsionlaw06.SparseMultiplies': WHATEVER THE INPUT: true; the input reads as it did. -/
def sparseMultipliesSpec : ChangeSpec := { name := "sparseMultiplies", fn := fun _ => fun
  | [d1, d2, d3] => { results := [.lit (.bool true)], args := [d1, d2, d3] }
  | _ => none }
def sparseMultipliesRow : OpenClaim := { program := "ytmnjglpieghdkaa", sum := "4bf2ede4157609785b214b65691ea5408d31b597a34f6543744fea0446687cd4", func := "torsion/torsionlaw06.SparseMultiplies", spec := "sparseMultiplies", unfollowed := true, recurses := true, apart := false }
def SparseMultipliesSaid : Prop := sparseMultipliesRow.holds Try.pinned (OpenSpec.ofChange sparseMultipliesSpec)

/-- ITS FALSE NEIGHBOUR: 'it returns false'. Refute it at one input. -/
def sparseMultipliesWrong : ChangeSpec := { name := "sparseMultiplies", fn := fun _ => fun
  | [d1, d2, d3] => { results := [.lit (.bool false)], args := [d1, d2, d3] }
  | _ => none }
def SparseMultipliesWrongFalsely : Prop := sparseMultipliesRow.holds Try.pinned (OpenSpec.ofChange sparseMultipliesWrong)

/-- 'torsionlaw06.SparseRepresents': WHATEVER THE INPUT: true; the input reads as it did. -/
def sparseRepresentsSpec : ChangeSpec := { name := "sparseRepresents", fn := fun _ => fun
  | [d] => { results := [.lit (.bool true)], args := [d] }
  | _ => none }
def sparseRepresentsRow : OpenClaim := { program := "ytmnjglpieghdkaa", sum := "4bf2ede4157609785b214b65691ea5408d31b597a34f6543744fea0446687cd4", func := "torsion/torsionlaw06.SparseRepresents", spec := "sparseRepresents", unfollowed := true, recurses := true, apart := false }
def SparseRepresentsSaid : Prop := sparseRepresentsRow.holds Try.pinned (OpenSpec.ofChange sparseRepresentsSpec)

/-- ITS FALSE NEIGHBOUR: 'it returns false'. Refute it at one input. -/
def sparseRepresentsWrong : ChangeSpec := { name := "sparseRepresents", fn := fun _ => fun
  | [d] => { results := [.lit (.bool false)], args := [d] }
  | _ => none }
def SparseRepresentsWrongFalsely : Prop := sparseRepresentsRow.holds Try.pinned (OpenSpec.ofChange sparseRepresentsWrong)

/-- 'torsionlaw06.SparseMatchesReference': WHATEVER THE INPUT: true; the input reads as it did. -/
def sparseMatchesReferenceSpec : ChangeSpec := { name := "sparseMatchesReference", fn := fun _ => fun
  | [d1, d2, d3] => { results := [.lit (.bool true)], args := [d1, d2, d3] }
  | _ => none }
def sparseMatchesReferenceRow : OpenClaim := { program := "ytmnjglpieghdkaa", sum := "4bf2ede4157609785b214b65691ea5408d31b597a34f6543744fea0446687cd4", func := "torsion/torsionlaw06.SparseMatchesReference", spec := "sparseMatchesReference", unfollowed := true, recurses := true, apart := false }
def SparseMatchesReferenceSaid : Prop := sparseMatchesReferenceRow.holds Try.pinned (OpenSpec.ofChange sparseMatchesReferenceSpec)

/-- ITS FALSE NEIGHBOUR: 'it returns false'. Refute it at one input. -/
def sparseMatchesReferenceWrong : ChangeSpec := { name := "sparseMatchesReference", fn := fun _ => fun
  | [d1, d2, d3] => { results := [.lit (.bool false)], args := [d1, d2, d3] }
  | _ => none }
def SparseMatchesReferenceWrongFalsely : Prop := sparseMatchesReferenceRow.holds Try.pinned (OpenSpec.ofChange sparseMatchesReferenceWrong)

/- THE SECOND FORM. 'bulk': how many values and letters a reading holds, each counted each time it is reached (what is shared counts as often as it is met; a slice's spare places count too). A statement '..UptoSaid' is the law's where the arguments, and the package variables that the reading takes, are together of bulk at most 1048576: NARROWER than '..Said'. Prove '..Said' where nothing that the law and all that it calls make is longer than what came in: it says more and counts as full. Else prove '..UptoSaid'. A law counts once. -/
mutual
def uptoBulk {H : Type} : DataW H → Nat
  | .lit (.string bytes) => bytes.length + 1
  | .lit _ => 1
  | .nil => 1
  | .ptr d => uptoBulk d + 1
  | .slice elems spare => uptoBulkAll elems + uptoBulkAll spare + 1
  | .agg parts => uptoBulkAll parts + 1
  | .iface _ d => uptoBulk d + 1
  | .map entries => uptoBulkEntries entries + 1
  | .held _ => 1
def uptoBulkAll {H : Type} : List (DataW H) → Nat
  | [] => 0
  | d :: r => uptoBulk d + uptoBulkAll r
def uptoBulkEntries {H : Type} : List (Lit × DataW H) → Nat
  | [] => 0
  | x :: r => uptoBulkEntry x + uptoBulkEntries r
def uptoBulkEntry {H : Type} : Lit × DataW H → Nat
  | (.string bytes, d) => bytes.length + uptoBulk d + 1
  | (_, d) => uptoBulk d + 1
 end
def uptoSmall : (H : Type) → List (DataW H) → Bool := fun _ ds => decide (uptoBulkAll ds ≤ 1048576)
def OpenSpec.upto (s : _root_.Go.ChangeSpec) : _root_.Go.OpenSpec := { _root_.Go.OpenSpec.ofChange s with cond := some uptoSmall }

/-- 'torsionlaw26.ChainsMakes', WHERE WHAT IT READS IS OF BULK AT MOST 1048576: true; the input reads as it did. -/
def chainsMakesUptoRow : OpenClaim := { program := "ytmnjglpieghdkaa", sum := "4bf2ede4157609785b214b65691ea5408d31b597a34f6543744fea0446687cd4", func := "torsion/torsionlaw26.ChainsMakes", spec := "chainsMakes", unfollowed := true, recurses := true, apart := false, narrowed := true }
def ChainsMakesUptoSaid : Prop := chainsMakesUptoRow.holds Try.pinned (OpenSpec.upto chainsMakesSpec)

/-- 'torsionlaw26.ChainsModule', WHERE WHAT IT READS IS OF BULK AT MOST 1048576: true; the input reads as it did. -/
def chainsModuleUptoRow : OpenClaim := { program := "ytmnjglpieghdkaa", sum := "4bf2ede4157609785b214b65691ea5408d31b597a34f6543744fea0446687cd4", func := "torsion/torsionlaw26.ChainsModule", spec := "chainsModule", unfollowed := true, recurses := true, apart := false, narrowed := true }
def ChainsModuleUptoSaid : Prop := chainsModuleUptoRow.holds Try.pinned (OpenSpec.upto chainsModuleSpec)

/-- 'torsionlaw06.SparseValid', WHERE WHAT IT READS IS OF BULK AT MOST 1048576: true; the input reads as it did. -/
def sparseValidUptoRow : OpenClaim := { program := "ytmnjglpieghdkaa", sum := "4bf2ede4157609785b214b65691ea5408d31b597a34f6543744fea0446687cd4", func := "torsion/torsionlaw06.SparseValid", spec := "sparseValid", unfollowed := true, recurses := true, apart := false, narrowed := true }
def SparseValidUptoSaid : Prop := sparseValidUptoRow.holds Try.pinned (OpenSpec.upto sparseValidSpec)

/-- 'torsionlaw06.SparseMerges', WHERE WHAT IT READS IS OF BULK AT MOST 1048576: true; the input reads as it did. -/
def sparseMergesUptoRow : OpenClaim := { program := "ytmnjglpieghdkaa", sum := "4bf2ede4157609785b214b65691ea5408d31b597a34f6543744fea0446687cd4", func := "torsion/torsionlaw06.SparseMerges", spec := "sparseMerges", unfollowed := true, recurses := true, apart := false, narrowed := true }
def SparseMergesUptoSaid : Prop := sparseMergesUptoRow.holds Try.pinned (OpenSpec.upto sparseMergesSpec)

/-- 'torsionlaw06.SparseRows', WHERE WHAT IT READS IS OF BULK AT MOST 1048576: true; the input reads as it did. -/
def sparseRowsUptoRow : OpenClaim := { program := "ytmnjglpieghdkaa", sum := "4bf2ede4157609785b214b65691ea5408d31b597a34f6543744fea0446687cd4", func := "torsion/torsionlaw06.SparseRows", spec := "sparseRows", unfollowed := true, recurses := true, apart := false, narrowed := true }
def SparseRowsUptoSaid : Prop := sparseRowsUptoRow.holds Try.pinned (OpenSpec.upto sparseRowsSpec)

/-- 'torsionlaw06.SparseMultiplies', WHERE WHAT IT READS IS OF BULK AT MOST 1048576: true; the input reads as it did. -/
def sparseMultipliesUptoRow : OpenClaim := { program := "ytmnjglpieghdkaa", sum := "4bf2ede4157609785b214b65691ea5408d31b597a34f6543744fea0446687cd4", func := "torsion/torsionlaw06.SparseMultiplies", spec := "sparseMultiplies", unfollowed := true, recurses := true, apart := false, narrowed := true }
def SparseMultipliesUptoSaid : Prop := sparseMultipliesUptoRow.holds Try.pinned (OpenSpec.upto sparseMultipliesSpec)

/-- 'torsionlaw06.SparseRepresents', WHERE WHAT IT READS IS OF BULK AT MOST 1048576: true; the input reads as it did. -/
def sparseRepresentsUptoRow : OpenClaim := { program := "ytmnjglpieghdkaa", sum := "4bf2ede4157609785b214b65691ea5408d31b597a34f6543744fea0446687cd4", func := "torsion/torsionlaw06.SparseRepresents", spec := "sparseRepresents", unfollowed := true, recurses := true, apart := false, narrowed := true }
def SparseRepresentsUptoSaid : Prop := sparseRepresentsUptoRow.holds Try.pinned (OpenSpec.upto sparseRepresentsSpec)

/-- 'torsionlaw06.SparseMatchesReference', WHERE WHAT IT READS IS OF BULK AT MOST 1048576: true; the input reads as it did. -/
def sparseMatchesReferenceUptoRow : OpenClaim := { program := "ytmnjglpieghdkaa", sum := "4bf2ede4157609785b214b65691ea5408d31b597a34f6543744fea0446687cd4", func := "torsion/torsionlaw06.SparseMatchesReference", spec := "sparseMatchesReference", unfollowed := true, recurses := true, apart := false, narrowed := true }
def SparseMatchesReferenceUptoSaid : Prop := sparseMatchesReferenceUptoRow.holds Try.pinned (OpenSpec.upto sparseMatchesReferenceSpec)

end Rows
end Go.Proofs.Ytmnjglpieghdkaa
