/-
  No cell of these rows narrows 'for every input' (looked for: loops, veiled, ifaces, maps, wideKeys, modest, calm, conditions, laid).
  DERIVED. THE GIVEN ROWS OF THIS SEAT. 3 by the template 'for every input the law returns true; each argument reads behind the call as it read before'; 0 by the template 'total and deterministic' (their statements: YtaekgiimepenkaaGreatTotals.lean).
  GIVEN WITH THE SEED: the statements are not yours to turn. If you find one false, say at which input.
  Laid BY PROGRAM, IN A SANDBOX (cutbox-rows.mjs): the forced cells as the released guide's own fill.sh prints them over the translation 20fdd58d3ee9b087… (all of the seat's roots in one cut). By AI agents, Wed Nov 11 2026. No macro, syntax, notation, axiom, sorry.
-/
import Derived.Test.YtaekgiimepenkaaGreatChecked
import GoSem.Claim
import GoSem.ClaimJoined
import GoSem.ClaimMapViews
import Derived.JoinedTies
import Derived.KernelRfl
namespace Go.Proofs.YtaekgiimepenkaaGreat
/- THE CELL 'sum', in the pinned program and in every row, IS THE sha256 OF THE DUMP (.gsa) THAT YtaekgiimepenkaaGreatProg.lean LOADS. Nothing in Lean hashes anything: it is a label: what it is worth is what the hold of that sum in a sandbox is worth. -/
noncomputable def Tryz.pinned : Pinned := { name := "ytaekgiimepenkaagreat", sum := "20fdd58d3ee9b087bff83b11dfcc75d1dc5771c8136b755e6a29008fad666d56", checked := Tryz.checked }
namespace Rows
def none {H : Type} : Left H := { results := [], args := [] }

/-- 'torsiontop.TopLiarsAreBlamed': WHATEVER THE INPUT: true; the input reads as it did. -/
def topLiarsAreBlamedSpec : ChangeSpec := { name := "topLiarsAreBlamed", fn := fun _ => fun
  | [d1, d2, d3] => { results := [.lit (.bool true)], args := [d1, d2, d3] }
  | _ => none }
def topLiarsAreBlamedRow : OpenClaim := { program := "ytaekgiimepenkaagreat", sum := "20fdd58d3ee9b087bff83b11dfcc75d1dc5771c8136b755e6a29008fad666d56", func := "torsion/torsiontop.TopLiarsAreBlamed", spec := "topLiarsAreBlamed", inPlace := ["(*sync.WaitGroup).Add", "internal/race.ReleaseMerge", "internal/race.Disable", "internal/race.Enable", "internal/synctest.IsInBubble", "internal/synctest.Associate[sync.WaitGroup]", "sync.fatal", "sync/atomic.OrUint64", "sync/atomic.AddUint64", "internal/race.Read", "sync/atomic.LoadUint64", "sync/atomic.StoreUint64", "internal/synctest.Disassociate[sync.WaitGroup]", "sync.runtime_Semrelease", "(*sync.WaitGroup).Done", "(*sync.WaitGroup).Wait", "internal/race.Acquire", "internal/synctest.IsAssociated[sync.WaitGroup]", "sync/atomic.CompareAndSwapUint64", "internal/race.Write", "sync.runtime_SemacquireWaitGroup", "slices.overlaps[torsion/hermite.pivot]"], unfollowed := true, recurses := true, leaving := true, apart := false }
def TopLiarsAreBlamedSaid : Prop := topLiarsAreBlamedRow.holds Tryz.pinned (OpenSpec.ofChange topLiarsAreBlamedSpec)

/-- ITS FALSE NEIGHBOUR: 'it returns false'. Refute it at one input. -/
def topLiarsAreBlamedWrong : ChangeSpec := { name := "topLiarsAreBlamed", fn := fun _ => fun
  | [d1, d2, d3] => { results := [.lit (.bool false)], args := [d1, d2, d3] }
  | _ => none }
def TopLiarsAreBlamedWrongFalsely : Prop := topLiarsAreBlamedRow.holds Tryz.pinned (OpenSpec.ofChange topLiarsAreBlamedWrong)

/-- 'torsiontop.TopListsReplay': WHATEVER THE INPUT: true; the input reads as it did. -/
def topListsReplaySpec : ChangeSpec := { name := "topListsReplay", fn := fun _ => fun
  | [d1, d2, d3] => { results := [.lit (.bool true)], args := [d1, d2, d3] }
  | _ => none }
def topListsReplayRow : OpenClaim := { program := "ytaekgiimepenkaagreat", sum := "20fdd58d3ee9b087bff83b11dfcc75d1dc5771c8136b755e6a29008fad666d56", func := "torsion/torsiontop.TopListsReplay", spec := "topListsReplay", inPlace := ["(*sync.WaitGroup).Add", "internal/race.ReleaseMerge", "internal/race.Disable", "internal/race.Enable", "internal/synctest.IsInBubble", "internal/synctest.Associate[sync.WaitGroup]", "sync.fatal", "sync/atomic.OrUint64", "sync/atomic.AddUint64", "internal/race.Read", "sync/atomic.LoadUint64", "sync/atomic.StoreUint64", "internal/synctest.Disassociate[sync.WaitGroup]", "sync.runtime_Semrelease", "(*sync.WaitGroup).Done", "(*sync.WaitGroup).Wait", "internal/race.Acquire", "internal/synctest.IsAssociated[sync.WaitGroup]", "sync/atomic.CompareAndSwapUint64", "internal/race.Write", "sync.runtime_SemacquireWaitGroup", "slices.overlaps[torsion/hermite.pivot]"], unfollowed := true, recurses := true, leaving := true, apart := false }
def TopListsReplaySaid : Prop := topListsReplayRow.holds Tryz.pinned (OpenSpec.ofChange topListsReplaySpec)

/-- ITS FALSE NEIGHBOUR: 'it returns false'. Refute it at one input. -/
def topListsReplayWrong : ChangeSpec := { name := "topListsReplay", fn := fun _ => fun
  | [d1, d2, d3] => { results := [.lit (.bool false)], args := [d1, d2, d3] }
  | _ => none }
def TopListsReplayWrongFalsely : Prop := topListsReplayRow.holds Tryz.pinned (OpenSpec.ofChange topListsReplayWrong)

/-- 'torsiontop.TopFormsAgree': WHATEVER THE INPUT: true; the input reads as it did. -/
def topFormsAgreeSpec : ChangeSpec := { name := "topFormsAgree", fn := fun _ => fun
  | [d] => { results := [.lit (.bool true)], args := [d] }
  | _ => none }
def topFormsAgreeRow : OpenClaim := { program := "ytaekgiimepenkaagreat", sum := "20fdd58d3ee9b087bff83b11dfcc75d1dc5771c8136b755e6a29008fad666d56", func := "torsion/torsiontop.TopFormsAgree", spec := "topFormsAgree", inPlace := ["(*sync.WaitGroup).Add", "internal/race.ReleaseMerge", "internal/race.Disable", "internal/race.Enable", "internal/synctest.IsInBubble", "internal/synctest.Associate[sync.WaitGroup]", "sync.fatal", "sync/atomic.OrUint64", "sync/atomic.AddUint64", "internal/race.Read", "sync/atomic.LoadUint64", "sync/atomic.StoreUint64", "internal/synctest.Disassociate[sync.WaitGroup]", "sync.runtime_Semrelease", "(*sync.WaitGroup).Done", "(*sync.WaitGroup).Wait", "internal/race.Acquire", "internal/synctest.IsAssociated[sync.WaitGroup]", "sync/atomic.CompareAndSwapUint64", "internal/race.Write", "sync.runtime_SemacquireWaitGroup", "slices.overlaps[torsion/hermite.pivot]"], unfollowed := true, recurses := true, leaving := true, apart := false }
def TopFormsAgreeSaid : Prop := topFormsAgreeRow.holds Tryz.pinned (OpenSpec.ofChange topFormsAgreeSpec)

/-- ITS FALSE NEIGHBOUR: 'it returns false'. Refute it at one input. -/
def topFormsAgreeWrong : ChangeSpec := { name := "topFormsAgree", fn := fun _ => fun
  | [d] => { results := [.lit (.bool false)], args := [d] }
  | _ => none }
def TopFormsAgreeWrongFalsely : Prop := topFormsAgreeRow.holds Tryz.pinned (OpenSpec.ofChange topFormsAgreeWrong)

/- THE SECOND FORM. 'bulk': how many values and letters a reading holds, each counted each time it is reached (what is shared counts as often as it is met; a slice's spare places count too). A statement '..UptoSaid' is the law's where the arguments, and the package variables that the reading takes, are together of bulk at most 1048576: NARROWER than '..Said'. Prove '..Said' where nothing that the law and all that it calls make is longer than what came in: it says more and counts as full. Else prove '..UptoSaid'. A law counts once. -/
mutual
def uptoBulk {H : Type} : DataW H → Nat
  | .lit (.string bytes) => bytes.length + 1
  | .lit _ => 1
  | .nil => 1
  | .ptr d => uptoBulk d + 1
  | .slice elems spare => uptoBulkAll elems + uptoBulkAll spare + 1
  | .agg parts => uptoBulkAll parts + 1
  | .iface _ d => uptoBulk d + 1
  | .map entries => uptoBulkEntries entries + 1
  | .held _ => 1
def uptoBulkAll {H : Type} : List (DataW H) → Nat
  | [] => 0
  | d :: r => uptoBulk d + uptoBulkAll r
def uptoBulkEntries {H : Type} : List (Lit × DataW H) → Nat
  | [] => 0
  | x :: r => uptoBulkEntry x + uptoBulkEntries r
def uptoBulkEntry {H : Type} : Lit × DataW H → Nat
  | (.string bytes, d) => bytes.length + uptoBulk d + 1
  | (_, d) => uptoBulk d + 1
 end
def uptoSmall : (H : Type) → List (DataW H) → Bool := fun _ ds => decide (uptoBulkAll ds ≤ 1048576)
def OpenSpec.upto (s : _root_.Go.ChangeSpec) : _root_.Go.OpenSpec := { _root_.Go.OpenSpec.ofChange s with cond := some uptoSmall }

/-- 'torsiontop.TopLiarsAreBlamed', WHERE WHAT IT READS IS OF BULK AT MOST 1048576: true; the input reads as it did. -/
def topLiarsAreBlamedUptoRow : OpenClaim := { program := "ytaekgiimepenkaagreat", sum := "20fdd58d3ee9b087bff83b11dfcc75d1dc5771c8136b755e6a29008fad666d56", func := "torsion/torsiontop.TopLiarsAreBlamed", spec := "topLiarsAreBlamed", inPlace := ["(*sync.WaitGroup).Add", "internal/race.ReleaseMerge", "internal/race.Disable", "internal/race.Enable", "internal/synctest.IsInBubble", "internal/synctest.Associate[sync.WaitGroup]", "sync.fatal", "sync/atomic.OrUint64", "sync/atomic.AddUint64", "internal/race.Read", "sync/atomic.LoadUint64", "sync/atomic.StoreUint64", "internal/synctest.Disassociate[sync.WaitGroup]", "sync.runtime_Semrelease", "(*sync.WaitGroup).Done", "(*sync.WaitGroup).Wait", "internal/race.Acquire", "internal/synctest.IsAssociated[sync.WaitGroup]", "sync/atomic.CompareAndSwapUint64", "internal/race.Write", "sync.runtime_SemacquireWaitGroup", "slices.overlaps[torsion/hermite.pivot]"], unfollowed := true, recurses := true, leaving := true, apart := false, narrowed := true }
def TopLiarsAreBlamedUptoSaid : Prop := topLiarsAreBlamedUptoRow.holds Tryz.pinned (OpenSpec.upto topLiarsAreBlamedSpec)

/-- 'torsiontop.TopListsReplay', WHERE WHAT IT READS IS OF BULK AT MOST 1048576: true; the input reads as it did. -/
def topListsReplayUptoRow : OpenClaim := { program := "ytaekgiimepenkaagreat", sum := "20fdd58d3ee9b087bff83b11dfcc75d1dc5771c8136b755e6a29008fad666d56", func := "torsion/torsiontop.TopListsReplay", spec := "topListsReplay", inPlace := ["(*sync.WaitGroup).Add", "internal/race.ReleaseMerge", "internal/race.Disable", "internal/race.Enable", "internal/synctest.IsInBubble", "internal/synctest.Associate[sync.WaitGroup]", "sync.fatal", "sync/atomic.OrUint64", "sync/atomic.AddUint64", "internal/race.Read", "sync/atomic.LoadUint64", "sync/atomic.StoreUint64", "internal/synctest.Disassociate[sync.WaitGroup]", "sync.runtime_Semrelease", "(*sync.WaitGroup).Done", "(*sync.WaitGroup).Wait", "internal/race.Acquire", "internal/synctest.IsAssociated[sync.WaitGroup]", "sync/atomic.CompareAndSwapUint64", "internal/race.Write", "sync.runtime_SemacquireWaitGroup", "slices.overlaps[torsion/hermite.pivot]"], unfollowed := true, recurses := true, leaving := true, apart := false, narrowed := true }
def TopListsReplayUptoSaid : Prop := topListsReplayUptoRow.holds Tryz.pinned (OpenSpec.upto topListsReplaySpec)

/-- 'torsiontop.TopFormsAgree', WHERE WHAT IT READS IS OF BULK AT MOST 1048576: true; the input reads as it did. -/
def topFormsAgreeUptoRow : OpenClaim := { program := "ytaekgiimepenkaagreat", sum := "20fdd58d3ee9b087bff83b11dfcc75d1dc5771c8136b755e6a29008fad666d56", func := "torsion/torsiontop.TopFormsAgree", spec := "topFormsAgree", inPlace := ["(*sync.WaitGroup).Add", "internal/race.ReleaseMerge", "internal/race.Disable", "internal/race.Enable", "internal/synctest.IsInBubble", "internal/synctest.Associate[sync.WaitGroup]", "sync.fatal", "sync/atomic.OrUint64", "sync/atomic.AddUint64", "internal/race.Read", "sync/atomic.LoadUint64", "sync/atomic.StoreUint64", "internal/synctest.Disassociate[sync.WaitGroup]", "sync.runtime_Semrelease", "(*sync.WaitGroup).Done", "(*sync.WaitGroup).Wait", "internal/race.Acquire", "internal/synctest.IsAssociated[sync.WaitGroup]", "sync/atomic.CompareAndSwapUint64", "internal/race.Write", "sync.runtime_SemacquireWaitGroup", "slices.overlaps[torsion/hermite.pivot]"], unfollowed := true, recurses := true, leaving := true, apart := false, narrowed := true }
def TopFormsAgreeUptoSaid : Prop := topFormsAgreeUptoRow.holds Tryz.pinned (OpenSpec.upto topFormsAgreeSpec)

end Rows
end Go.Proofs.YtaekgiimepenkaaGreat
