/-
  No cell of these rows narrows 'for every input' (looked for: loops, veiled, ifaces, maps, wideKeys, modest, calm, conditions, laid).
  DERIVED. THE GIVEN ROWS OF THIS SEAT. 5 by the template 'for every input the law returns true; each argument reads behind the call as it read before'; 0 by the template 'total and deterministic' (their statements: YtdgdlndhaecliaaGreatTotals.lean).
  GIVEN WITH THE SEED: the statements are not yours to turn. If you find one false, say at which input.
  Laid BY PROGRAM, IN A SANDBOX (cutbox-rows.mjs): the forced cells as the released guide's own fill.sh prints them over the translation 80d613e3beef9b33… (all of the seat's roots in one cut). By AI agents, Wed Nov 11 2026. No macro, syntax, notation, axiom, sorry.
-/
import Derived.Test.YtdgdlndhaecliaaGreatChecked
import GoSem.Claim
import GoSem.ClaimJoined
import GoSem.ClaimMapViews
import Derived.JoinedTies
import Derived.KernelRfl
namespace Go.Proofs.YtdgdlndhaecliaaGreat
/- THE CELL 'sum', in the pinned program and in every row, IS THE sha256 OF THE DUMP (.gsa) THAT YtdgdlndhaecliaaGreatProg.lean LOADS. Nothing in Lean hashes anything: it is a label: what it is worth is what the hold of that sum in a sandbox is worth. -/
noncomputable def Tryz.pinned : Pinned := { name := "ytdgdlndhaecliaagreat", sum := "80d613e3beef9b33212ae72c2c919961e7166a38b7b4b1c2c6a12fbdcfabf4c4", checked := Tryz.checked }
namespace Rows
def none {H : Type} : Left H := { results := [], args := [] }

/-- 'torsionlaw20.WorkersMatchesReference': WHATEVER THE INPUT: true; the input reads as it did. -/
def workersMatchesReferenceSpec : ChangeSpec := { name := "workersMatchesReference", fn := fun _ => fun
  | [d1, d2, d3] => { results := [.lit (.bool true)], args := [d1, d2, d3] }
  | _ => none }
def workersMatchesReferenceRow : OpenClaim := { program := "ytdgdlndhaecliaagreat", sum := "80d613e3beef9b33212ae72c2c919961e7166a38b7b4b1c2c6a12fbdcfabf4c4", func := "torsion/torsionlaw20.WorkersMatchesReference", spec := "workersMatchesReference", inPlace := ["(*sync.WaitGroup).Add", "internal/race.ReleaseMerge", "internal/race.Disable", "internal/race.Enable", "internal/synctest.IsInBubble", "internal/synctest.Associate[sync.WaitGroup]", "sync.fatal", "sync/atomic.OrUint64", "sync/atomic.AddUint64", "internal/race.Read", "sync/atomic.LoadUint64", "sync/atomic.StoreUint64", "internal/synctest.Disassociate[sync.WaitGroup]", "sync.runtime_Semrelease", "(*sync.WaitGroup).Done", "(*sync.WaitGroup).Wait", "internal/race.Acquire", "internal/synctest.IsAssociated[sync.WaitGroup]", "sync/atomic.CompareAndSwapUint64", "internal/race.Write", "sync.runtime_SemacquireWaitGroup"], unfollowed := true, recurses := true, leaving := true, apart := false }
def WorkersMatchesReferenceSaid : Prop := workersMatchesReferenceRow.holds Tryz.pinned (OpenSpec.ofChange workersMatchesReferenceSpec)

/-- ITS FALSE NEIGHBOUR: 'it returns false'. Refute it at one input. -/
def workersMatchesReferenceWrong : ChangeSpec := { name := "workersMatchesReference", fn := fun _ => fun
  | [d1, d2, d3] => { results := [.lit (.bool false)], args := [d1, d2, d3] }
  | _ => none }
def WorkersMatchesReferenceWrongFalsely : Prop := workersMatchesReferenceRow.holds Tryz.pinned (OpenSpec.ofChange workersMatchesReferenceWrong)

/-- 'torsionlaw20.WorkersPrimes': WHATEVER THE INPUT: true; the input reads as it did. -/
def workersPrimesSpec : ChangeSpec := { name := "workersPrimes", fn := fun _ => fun
  | [d1, d2] => { results := [.lit (.bool true)], args := [d1, d2] }
  | _ => none }
def workersPrimesRow : OpenClaim := { program := "ytdgdlndhaecliaagreat", sum := "80d613e3beef9b33212ae72c2c919961e7166a38b7b4b1c2c6a12fbdcfabf4c4", func := "torsion/torsionlaw20.WorkersPrimes", spec := "workersPrimes", inPlace := ["(*sync.WaitGroup).Add", "internal/race.ReleaseMerge", "internal/race.Disable", "internal/race.Enable", "internal/synctest.IsInBubble", "internal/synctest.Associate[sync.WaitGroup]", "sync.fatal", "sync/atomic.OrUint64", "sync/atomic.AddUint64", "internal/race.Read", "sync/atomic.LoadUint64", "sync/atomic.StoreUint64", "internal/synctest.Disassociate[sync.WaitGroup]", "sync.runtime_Semrelease", "(*sync.WaitGroup).Done", "(*sync.WaitGroup).Wait", "internal/race.Acquire", "internal/synctest.IsAssociated[sync.WaitGroup]", "sync/atomic.CompareAndSwapUint64", "internal/race.Write", "sync.runtime_SemacquireWaitGroup"], unfollowed := true, recurses := true, leaving := true, apart := false }
def WorkersPrimesSaid : Prop := workersPrimesRow.holds Tryz.pinned (OpenSpec.ofChange workersPrimesSpec)

/-- ITS FALSE NEIGHBOUR: 'it returns false'. Refute it at one input. -/
def workersPrimesWrong : ChangeSpec := { name := "workersPrimes", fn := fun _ => fun
  | [d1, d2] => { results := [.lit (.bool false)], args := [d1, d2] }
  | _ => none }
def WorkersPrimesWrongFalsely : Prop := workersPrimesRow.holds Tryz.pinned (OpenSpec.ofChange workersPrimesWrong)

/-- 'torsionlaw20.WorkersCollect': WHATEVER THE INPUT: true; the input reads as it did. -/
def workersCollectSpec : ChangeSpec := { name := "workersCollect", fn := fun _ => fun
  | [d1, d2] => { results := [.lit (.bool true)], args := [d1, d2] }
  | _ => none }
def workersCollectRow : OpenClaim := { program := "ytdgdlndhaecliaagreat", sum := "80d613e3beef9b33212ae72c2c919961e7166a38b7b4b1c2c6a12fbdcfabf4c4", func := "torsion/torsionlaw20.WorkersCollect", spec := "workersCollect", inPlace := ["(*sync.WaitGroup).Add", "internal/race.ReleaseMerge", "internal/race.Disable", "internal/race.Enable", "internal/synctest.IsInBubble", "internal/synctest.Associate[sync.WaitGroup]", "sync.fatal", "sync/atomic.OrUint64", "sync/atomic.AddUint64", "internal/race.Read", "sync/atomic.LoadUint64", "sync/atomic.StoreUint64", "internal/synctest.Disassociate[sync.WaitGroup]", "sync.runtime_Semrelease", "(*sync.WaitGroup).Done", "(*sync.WaitGroup).Wait", "internal/race.Acquire", "internal/synctest.IsAssociated[sync.WaitGroup]", "sync/atomic.CompareAndSwapUint64", "internal/race.Write", "sync.runtime_SemacquireWaitGroup"], unfollowed := true, recurses := true, leaving := true, apart := false }
def WorkersCollectSaid : Prop := workersCollectRow.holds Tryz.pinned (OpenSpec.ofChange workersCollectSpec)

/-- ITS FALSE NEIGHBOUR: 'it returns false'. Refute it at one input. -/
def workersCollectWrong : ChangeSpec := { name := "workersCollect", fn := fun _ => fun
  | [d1, d2] => { results := [.lit (.bool false)], args := [d1, d2] }
  | _ => none }
def WorkersCollectWrongFalsely : Prop := workersCollectRow.holds Tryz.pinned (OpenSpec.ofChange workersCollectWrong)

/-- 'torsionlaw20.WorkersUnique': WHATEVER THE INPUT: true; the input reads as it did. -/
def workersUniqueSpec : ChangeSpec := { name := "workersUnique", fn := fun _ => fun
  | [d1, d2] => { results := [.lit (.bool true)], args := [d1, d2] }
  | _ => none }
def workersUniqueRow : OpenClaim := { program := "ytdgdlndhaecliaagreat", sum := "80d613e3beef9b33212ae72c2c919961e7166a38b7b4b1c2c6a12fbdcfabf4c4", func := "torsion/torsionlaw20.WorkersUnique", spec := "workersUnique", inPlace := ["(*sync.WaitGroup).Add", "internal/race.ReleaseMerge", "internal/race.Disable", "internal/race.Enable", "internal/synctest.IsInBubble", "internal/synctest.Associate[sync.WaitGroup]", "sync.fatal", "sync/atomic.OrUint64", "sync/atomic.AddUint64", "internal/race.Read", "sync/atomic.LoadUint64", "sync/atomic.StoreUint64", "internal/synctest.Disassociate[sync.WaitGroup]", "sync.runtime_Semrelease", "(*sync.WaitGroup).Done", "(*sync.WaitGroup).Wait", "internal/race.Acquire", "internal/synctest.IsAssociated[sync.WaitGroup]", "sync/atomic.CompareAndSwapUint64", "internal/race.Write", "sync.runtime_SemacquireWaitGroup"], unfollowed := true, recurses := true, leaving := true, apart := false }
def WorkersUniqueSaid : Prop := workersUniqueRow.holds Tryz.pinned (OpenSpec.ofChange workersUniqueSpec)

/-- ITS FALSE NEIGHBOUR: 'it returns false'. Refute it at one input. -/
def workersUniqueWrong : ChangeSpec := { name := "workersUnique", fn := fun _ => fun
  | [d1, d2] => { results := [.lit (.bool false)], args := [d1, d2] }
  | _ => none }
def WorkersUniqueWrongFalsely : Prop := workersUniqueRow.holds Tryz.pinned (OpenSpec.ofChange workersUniqueWrong)

/-- 'torsionlaw20.WorkersLosses': WHATEVER THE INPUT: true; the input reads as it did. -/
def workersLossesSpec : ChangeSpec := { name := "workersLosses", fn := fun _ => fun
  | [d1, d2] => { results := [.lit (.bool true)], args := [d1, d2] }
  | _ => none }
def workersLossesRow : OpenClaim := { program := "ytdgdlndhaecliaagreat", sum := "80d613e3beef9b33212ae72c2c919961e7166a38b7b4b1c2c6a12fbdcfabf4c4", func := "torsion/torsionlaw20.WorkersLosses", spec := "workersLosses", inPlace := ["(*sync.WaitGroup).Add", "internal/race.ReleaseMerge", "internal/race.Disable", "internal/race.Enable", "internal/synctest.IsInBubble", "internal/synctest.Associate[sync.WaitGroup]", "sync.fatal", "sync/atomic.OrUint64", "sync/atomic.AddUint64", "internal/race.Read", "sync/atomic.LoadUint64", "sync/atomic.StoreUint64", "internal/synctest.Disassociate[sync.WaitGroup]", "sync.runtime_Semrelease", "(*sync.WaitGroup).Done", "(*sync.WaitGroup).Wait", "internal/race.Acquire", "internal/synctest.IsAssociated[sync.WaitGroup]", "sync/atomic.CompareAndSwapUint64", "internal/race.Write", "sync.runtime_SemacquireWaitGroup"], unfollowed := true, recurses := true, leaving := true, apart := false }
def WorkersLossesSaid : Prop := workersLossesRow.holds Tryz.pinned (OpenSpec.ofChange workersLossesSpec)

/-- ITS FALSE NEIGHBOUR: 'it returns false'. Refute it at one input. -/
def workersLossesWrong : ChangeSpec := { name := "workersLosses", fn := fun _ => fun
  | [d1, d2] => { results := [.lit (.bool false)], args := [d1, d2] }
  | _ => none }
def WorkersLossesWrongFalsely : Prop := workersLossesRow.holds Tryz.pinned (OpenSpec.ofChange workersLossesWrong)

/- THE SECOND FORM. 'bulk': how many values and letters a reading holds, each counted each time it is reached (what is shared counts as often as it is met; a slice's spare places count too). A statement '..UptoSaid' is the law's where the arguments, and the package variables that the reading takes, are together of bulk at most 1048576: NARROWER than '..Said'. Prove '..Said' where nothing that the law and all that it calls make is longer than what came in: it says more and counts as full. Else prove '..UptoSaid'. A law counts once. -/
mutual
def uptoBulk {H : Type} : DataW H → Nat
  | .lit (.string bytes) => bytes.length + 1
  | .lit _ => 1
  | .nil => 1
  | .ptr d => uptoBulk d + 1
  | .slice elems spare => uptoBulkAll elems + uptoBulkAll spare + 1
  | .agg parts => uptoBulkAll parts + 1
  | .iface _ d => uptoBulk d + 1
  | .map entries => uptoBulkEntries entries + 1
  | .held _ => 1
def uptoBulkAll {H : Type} : List (DataW H) → Nat
  | [] => 0
  | d :: r => uptoBulk d + uptoBulkAll r
def uptoBulkEntries {H : Type} : List (Lit × DataW H) → Nat
  | [] => 0
  | x :: r => uptoBulkEntry x + uptoBulkEntries r
def uptoBulkEntry {H : Type} : Lit × DataW H → Nat
  | (.string bytes, d) => bytes.length + uptoBulk d + 1
  | (_, d) => uptoBulk d + 1
 end
def uptoSmall : (H : Type) → List (DataW H) → Bool := fun _ ds => decide (uptoBulkAll ds ≤ 1048576)
def OpenSpec.upto (s : _root_.Go.ChangeSpec) : _root_.Go.OpenSpec := { _root_.Go.OpenSpec.ofChange s with cond := some uptoSmall }

/-- 'torsionlaw20.WorkersMatchesReference', WHERE WHAT IT READS IS OF BULK AT MOST 1048576: true; the input reads as it did. -/
def workersMatchesReferenceUptoRow : OpenClaim := { program := "ytdgdlndhaecliaagreat", sum := "80d613e3beef9b33212ae72c2c919961e7166a38b7b4b1c2c6a12fbdcfabf4c4", func := "torsion/torsionlaw20.WorkersMatchesReference", spec := "workersMatchesReference", inPlace := ["(*sync.WaitGroup).Add", "internal/race.ReleaseMerge", "internal/race.Disable", "internal/race.Enable", "internal/synctest.IsInBubble", "internal/synctest.Associate[sync.WaitGroup]", "sync.fatal", "sync/atomic.OrUint64", "sync/atomic.AddUint64", "internal/race.Read", "sync/atomic.LoadUint64", "sync/atomic.StoreUint64", "internal/synctest.Disassociate[sync.WaitGroup]", "sync.runtime_Semrelease", "(*sync.WaitGroup).Done", "(*sync.WaitGroup).Wait", "internal/race.Acquire", "internal/synctest.IsAssociated[sync.WaitGroup]", "sync/atomic.CompareAndSwapUint64", "internal/race.Write", "sync.runtime_SemacquireWaitGroup"], unfollowed := true, recurses := true, leaving := true, apart := false, narrowed := true }
def WorkersMatchesReferenceUptoSaid : Prop := workersMatchesReferenceUptoRow.holds Tryz.pinned (OpenSpec.upto workersMatchesReferenceSpec)

/-- 'torsionlaw20.WorkersPrimes', WHERE WHAT IT READS IS OF BULK AT MOST 1048576: true; the input reads as it did. -/
def workersPrimesUptoRow : OpenClaim := { program := "ytdgdlndhaecliaagreat", sum := "80d613e3beef9b33212ae72c2c919961e7166a38b7b4b1c2c6a12fbdcfabf4c4", func := "torsion/torsionlaw20.WorkersPrimes", spec := "workersPrimes", inPlace := ["(*sync.WaitGroup).Add", "internal/race.ReleaseMerge", "internal/race.Disable", "internal/race.Enable", "internal/synctest.IsInBubble", "internal/synctest.Associate[sync.WaitGroup]", "sync.fatal", "sync/atomic.OrUint64", "sync/atomic.AddUint64", "internal/race.Read", "sync/atomic.LoadUint64", "sync/atomic.StoreUint64", "internal/synctest.Disassociate[sync.WaitGroup]", "sync.runtime_Semrelease", "(*sync.WaitGroup).Done", "(*sync.WaitGroup).Wait", "internal/race.Acquire", "internal/synctest.IsAssociated[sync.WaitGroup]", "sync/atomic.CompareAndSwapUint64", "internal/race.Write", "sync.runtime_SemacquireWaitGroup"], unfollowed := true, recurses := true, leaving := true, apart := false, narrowed := true }
def WorkersPrimesUptoSaid : Prop := workersPrimesUptoRow.holds Tryz.pinned (OpenSpec.upto workersPrimesSpec)

/-- 'torsionlaw20.WorkersCollect', WHERE WHAT IT READS IS OF BULK AT MOST 1048576: true; the input reads as it did. -/
def workersCollectUptoRow : OpenClaim := { program := "ytdgdlndhaecliaagreat", sum := "80d613e3beef9b33212ae72c2c919961e7166a38b7b4b1c2c6a12fbdcfabf4c4", func := "torsion/torsionlaw20.WorkersCollect", spec := "workersCollect", inPlace := ["(*sync.WaitGroup).Add", "internal/race.ReleaseMerge", "internal/race.Disable", "internal/race.Enable", "internal/synctest.IsInBubble", "internal/synctest.Associate[sync.WaitGroup]", "sync.fatal", "sync/atomic.OrUint64", "sync/atomic.AddUint64", "internal/race.Read", "sync/atomic.LoadUint64", "sync/atomic.StoreUint64", "internal/synctest.Disassociate[sync.WaitGroup]", "sync.runtime_Semrelease", "(*sync.WaitGroup).Done", "(*sync.WaitGroup).Wait", "internal/race.Acquire", "internal/synctest.IsAssociated[sync.WaitGroup]", "sync/atomic.CompareAndSwapUint64", "internal/race.Write", "sync.runtime_SemacquireWaitGroup"], unfollowed := true, recurses := true, leaving := true, apart := false, narrowed := true }
def WorkersCollectUptoSaid : Prop := workersCollectUptoRow.holds Tryz.pinned (OpenSpec.upto workersCollectSpec)

/-- 'torsionlaw20.WorkersUnique', WHERE WHAT IT READS IS OF BULK AT MOST 1048576: true; the input reads as it did. -/
def workersUniqueUptoRow : OpenClaim := { program := "ytdgdlndhaecliaagreat", sum := "80d613e3beef9b33212ae72c2c919961e7166a38b7b4b1c2c6a12fbdcfabf4c4", func := "torsion/torsionlaw20.WorkersUnique", spec := "workersUnique", inPlace := ["(*sync.WaitGroup).Add", "internal/race.ReleaseMerge", "internal/race.Disable", "internal/race.Enable", "internal/synctest.IsInBubble", "internal/synctest.Associate[sync.WaitGroup]", "sync.fatal", "sync/atomic.OrUint64", "sync/atomic.AddUint64", "internal/race.Read", "sync/atomic.LoadUint64", "sync/atomic.StoreUint64", "internal/synctest.Disassociate[sync.WaitGroup]", "sync.runtime_Semrelease", "(*sync.WaitGroup).Done", "(*sync.WaitGroup).Wait", "internal/race.Acquire", "internal/synctest.IsAssociated[sync.WaitGroup]", "sync/atomic.CompareAndSwapUint64", "internal/race.Write", "sync.runtime_SemacquireWaitGroup"], unfollowed := true, recurses := true, leaving := true, apart := false, narrowed := true }
def WorkersUniqueUptoSaid : Prop := workersUniqueUptoRow.holds Tryz.pinned (OpenSpec.upto workersUniqueSpec)

/-- 'torsionlaw20.WorkersLosses', WHERE WHAT IT READS IS OF BULK AT MOST 1048576: true; the input reads as it did. -/
def workersLossesUptoRow : OpenClaim := { program := "ytdgdlndhaecliaagreat", sum := "80d613e3beef9b33212ae72c2c919961e7166a38b7b4b1c2c6a12fbdcfabf4c4", func := "torsion/torsionlaw20.WorkersLosses", spec := "workersLosses", inPlace := ["(*sync.WaitGroup).Add", "internal/race.ReleaseMerge", "internal/race.Disable", "internal/race.Enable", "internal/synctest.IsInBubble", "internal/synctest.Associate[sync.WaitGroup]", "sync.fatal", "sync/atomic.OrUint64", "sync/atomic.AddUint64", "internal/race.Read", "sync/atomic.LoadUint64", "sync/atomic.StoreUint64", "internal/synctest.Disassociate[sync.WaitGroup]", "sync.runtime_Semrelease", "(*sync.WaitGroup).Done", "(*sync.WaitGroup).Wait", "internal/race.Acquire", "internal/synctest.IsAssociated[sync.WaitGroup]", "sync/atomic.CompareAndSwapUint64", "internal/race.Write", "sync.runtime_SemacquireWaitGroup"], unfollowed := true, recurses := true, leaving := true, apart := false, narrowed := true }
def WorkersLossesUptoSaid : Prop := workersLossesUptoRow.holds Tryz.pinned (OpenSpec.upto workersLossesSpec)

end Rows
end Go.Proofs.YtdgdlndhaecliaaGreat
