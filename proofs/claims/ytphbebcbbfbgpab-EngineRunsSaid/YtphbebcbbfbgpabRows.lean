/-
  No cell of these rows narrows 'for every input' (looked for: loops, veiled, ifaces, maps, wideKeys, modest, calm, conditions, laid).
  DERIVED. THE GIVEN ROWS OF THIS SEAT. 8 by the template 'for every input the law returns true; each argument reads behind the call as it read before'; 0 by the template 'total and deterministic' (their statements: YtphbebcbbfbgpabTotals.lean).
  GIVEN WITH THE SEED: the statements are not yours to turn. If you find one false, say at which input.
  Laid BY PROGRAM, IN A SANDBOX (cutbox-rows.mjs): the forced cells as the released guide's own fill.sh prints them over the translation 3ac50c8eb76447ac… (all of the seat's roots in one cut). By AI agents, Wed Nov 11 2026. No macro, syntax, notation, axiom, sorry.
-/
import Derived.Test.YtphbebcbbfbgpabChecked
import GoSem.Claim
import GoSem.ClaimJoined
import GoSem.ClaimMapViews
import Derived.JoinedTies
import Derived.KernelRfl
namespace Go.Proofs.Ytphbebcbbfbgpab
/- THE CELL 'sum', in the pinned program and in every row, IS THE sha256 OF THE DUMP (.gsa) THAT YtphbebcbbfbgpabProg.lean LOADS. Nothing in Lean hashes anything: it is a label: what it is worth is what the hold of that sum in a sandbox is worth. -/
noncomputable def Try.pinned : Pinned := { name := "ytphbebcbbfbgpab", sum := "3ac50c8eb76447ac2a1dbe8a9c5464601a744c123eda83aed69eb3b773269a31", checked := Try.checked }
namespace Rows
def none {H : Type} : Left H := { results := [], args := [] }

/-- 'saltcellarlaw.RepoDrops': WHATEVER THE INPUT: true; the input reads as it did. -/
def repoDropsSpec : ChangeSpec := { name := "repoDrops", fn := fun _ => fun
  | [d1, d2] => { results := [.lit (.bool true)], args := [d1, d2] }
  | _ => none }
def repoDropsRow : OpenClaim := { program := "ytphbebcbbfbgpab", sum := "3ac50c8eb76447ac2a1dbe8a9c5464601a744c123eda83aed69eb3b773269a31", func := "saltcellar/saltcellarlaw.RepoDrops", spec := "repoDrops", unfollowed := true, recurses := true, apart := false }
def RepoDropsSaid : Prop := repoDropsRow.holds Try.pinned (OpenSpec.ofChange repoDropsSpec)

/-- ITS FALSE NEIGHBOUR: 'it returns false'. Refute it at one input. -/
def repoDropsWrong : ChangeSpec := { name := "repoDrops", fn := fun _ => fun
  | [d1, d2] => { results := [.lit (.bool false)], args := [d1, d2] }
  | _ => none }
def RepoDropsWrongFalsely : Prop := repoDropsRow.holds Try.pinned (OpenSpec.ofChange repoDropsWrong)

/-- 'saltcellarlaw.VolumeReads': WHATEVER THE INPUT: true; the input reads as it did. -/
def volumeReadsSpec : ChangeSpec := { name := "volumeReads", fn := fun _ => fun
  | [d1, d2] => { results := [.lit (.bool true)], args := [d1, d2] }
  | _ => none }
def volumeReadsRow : OpenClaim := { program := "ytphbebcbbfbgpab", sum := "3ac50c8eb76447ac2a1dbe8a9c5464601a744c123eda83aed69eb3b773269a31", func := "saltcellar/saltcellarlaw.VolumeReads", spec := "volumeReads", unfollowed := true, recurses := true, apart := false }
def VolumeReadsSaid : Prop := volumeReadsRow.holds Try.pinned (OpenSpec.ofChange volumeReadsSpec)

/-- ITS FALSE NEIGHBOUR: 'it returns false'. Refute it at one input. -/
def volumeReadsWrong : ChangeSpec := { name := "volumeReads", fn := fun _ => fun
  | [d1, d2] => { results := [.lit (.bool false)], args := [d1, d2] }
  | _ => none }
def VolumeReadsWrongFalsely : Prop := volumeReadsRow.holds Try.pinned (OpenSpec.ofChange volumeReadsWrong)

/-- 'saltcellarlaw.LogScans': WHATEVER THE INPUT: true; the input reads as it did. -/
def logScansSpec : ChangeSpec := { name := "logScans", fn := fun _ => fun
  | [d1, d2] => { results := [.lit (.bool true)], args := [d1, d2] }
  | _ => none }
def logScansRow : OpenClaim := { program := "ytphbebcbbfbgpab", sum := "3ac50c8eb76447ac2a1dbe8a9c5464601a744c123eda83aed69eb3b773269a31", func := "saltcellar/saltcellarlaw.LogScans", spec := "logScans", apart := false }
def LogScansSaid : Prop := logScansRow.holds Try.pinned (OpenSpec.ofChange logScansSpec)

/-- ITS FALSE NEIGHBOUR: 'it returns false'. Refute it at one input. -/
def logScansWrong : ChangeSpec := { name := "logScans", fn := fun _ => fun
  | [d1, d2] => { results := [.lit (.bool false)], args := [d1, d2] }
  | _ => none }
def LogScansWrongFalsely : Prop := logScansRow.holds Try.pinned (OpenSpec.ofChange logScansWrong)

/-- 'saltcellarlaw.RepoKeeps': WHATEVER THE INPUT: true; the input reads as it did. -/
def repoKeepsSpec : ChangeSpec := { name := "repoKeeps", fn := fun _ => fun
  | [d1, d2] => { results := [.lit (.bool true)], args := [d1, d2] }
  | _ => none }
def repoKeepsRow : OpenClaim := { program := "ytphbebcbbfbgpab", sum := "3ac50c8eb76447ac2a1dbe8a9c5464601a744c123eda83aed69eb3b773269a31", func := "saltcellar/saltcellarlaw.RepoKeeps", spec := "repoKeeps", inPlace := ["slices.overlaps[saltcellar/api.Item]"], unfollowed := true, recurses := true, apart := false }
def RepoKeepsSaid : Prop := repoKeepsRow.holds Try.pinned (OpenSpec.ofChange repoKeepsSpec)

/-- ITS FALSE NEIGHBOUR: 'it returns false'. Refute it at one input. -/
def repoKeepsWrong : ChangeSpec := { name := "repoKeeps", fn := fun _ => fun
  | [d1, d2] => { results := [.lit (.bool false)], args := [d1, d2] }
  | _ => none }
def RepoKeepsWrongFalsely : Prop := repoKeepsRow.holds Try.pinned (OpenSpec.ofChange repoKeepsWrong)

/-- 'saltcellarkeep.PackRuns': WHATEVER THE INPUT: true; the input reads as it did. -/
def packRunsSpec : ChangeSpec := { name := "packRuns", fn := fun _ => fun
  | [d1, d2] => { results := [.lit (.bool true)], args := [d1, d2] }
  | _ => none }
def packRunsRow : OpenClaim := { program := "ytphbebcbbfbgpab", sum := "3ac50c8eb76447ac2a1dbe8a9c5464601a744c123eda83aed69eb3b773269a31", func := "saltcellar/saltcellarkeep.PackRuns", spec := "packRuns", inPlace := ["internal/abi.NoEscape", "internal/bytealg.MakeNoZero"], apart := false }
def PackRunsSaid : Prop := packRunsRow.holds Try.pinned (OpenSpec.ofChange packRunsSpec)

/-- ITS FALSE NEIGHBOUR: 'it returns false'. Refute it at one input. -/
def packRunsWrong : ChangeSpec := { name := "packRuns", fn := fun _ => fun
  | [d1, d2] => { results := [.lit (.bool false)], args := [d1, d2] }
  | _ => none }
def PackRunsWrongFalsely : Prop := packRunsRow.holds Try.pinned (OpenSpec.ofChange packRunsWrong)

/-- 'saltcellarkeep.PackBack': WHATEVER THE INPUT: true; the input reads as it did. -/
def packBackSpec : ChangeSpec := { name := "packBack", fn := fun _ => fun
  | [d1, d2] => { results := [.lit (.bool true)], args := [d1, d2] }
  | _ => none }
def packBackRow : OpenClaim := { program := "ytphbebcbbfbgpab", sum := "3ac50c8eb76447ac2a1dbe8a9c5464601a744c123eda83aed69eb3b773269a31", func := "saltcellar/saltcellarkeep.PackBack", spec := "packBack", inPlace := ["internal/abi.NoEscape", "internal/bytealg.MakeNoZero"], apart := false }
def PackBackSaid : Prop := packBackRow.holds Try.pinned (OpenSpec.ofChange packBackSpec)

/-- ITS FALSE NEIGHBOUR: 'it returns false'. Refute it at one input. -/
def packBackWrong : ChangeSpec := { name := "packBack", fn := fun _ => fun
  | [d1, d2] => { results := [.lit (.bool false)], args := [d1, d2] }
  | _ => none }
def PackBackWrongFalsely : Prop := packBackRow.holds Try.pinned (OpenSpec.ofChange packBackWrong)

/-- 'saltcellarlaw.VolumeApplies': WHATEVER THE INPUT: true; the input reads as it did. -/
def volumeAppliesSpec : ChangeSpec := { name := "volumeApplies", fn := fun _ => fun
  | [d1, d2] => { results := [.lit (.bool true)], args := [d1, d2] }
  | _ => none }
def volumeAppliesRow : OpenClaim := { program := "ytphbebcbbfbgpab", sum := "3ac50c8eb76447ac2a1dbe8a9c5464601a744c123eda83aed69eb3b773269a31", func := "saltcellar/saltcellarlaw.VolumeApplies", spec := "volumeApplies", inPlace := ["slices.overlaps[saltcellar/api.Item]"], unfollowed := true, recurses := true, apart := false }
def VolumeAppliesSaid : Prop := volumeAppliesRow.holds Try.pinned (OpenSpec.ofChange volumeAppliesSpec)

/-- ITS FALSE NEIGHBOUR: 'it returns false'. Refute it at one input. -/
def volumeAppliesWrong : ChangeSpec := { name := "volumeApplies", fn := fun _ => fun
  | [d1, d2] => { results := [.lit (.bool false)], args := [d1, d2] }
  | _ => none }
def VolumeAppliesWrongFalsely : Prop := volumeAppliesRow.holds Try.pinned (OpenSpec.ofChange volumeAppliesWrong)

/-- 'saltcellarlaw.EngineRuns': WHATEVER THE INPUT: true; the input reads as it did. -/
def engineRunsSpec : ChangeSpec := { name := "engineRuns", fn := fun _ => fun
  | [d1, d2] => { results := [.lit (.bool true)], args := [d1, d2] }
  | _ => none }
def engineRunsRow : OpenClaim := { program := "ytphbebcbbfbgpab", sum := "3ac50c8eb76447ac2a1dbe8a9c5464601a744c123eda83aed69eb3b773269a31", func := "saltcellar/saltcellarlaw.EngineRuns", spec := "engineRuns", inPlace := ["slices.overlaps[saltcellar/api.Write]", "slices.overlaps[saltcellar/api.Item]"], unfollowed := true, recurses := true, apart := false }
def EngineRunsSaid : Prop := engineRunsRow.holds Try.pinned (OpenSpec.ofChange engineRunsSpec)

/-- ITS FALSE NEIGHBOUR: 'it returns false'. Refute it at one input. -/
def engineRunsWrong : ChangeSpec := { name := "engineRuns", fn := fun _ => fun
  | [d1, d2] => { results := [.lit (.bool false)], args := [d1, d2] }
  | _ => none }
def EngineRunsWrongFalsely : Prop := engineRunsRow.holds Try.pinned (OpenSpec.ofChange engineRunsWrong)

/- THE SECOND FORM. 'bulk': how many values and letters a reading holds, each counted each time it is reached (what is shared counts as often as it is met; a slice's spare places count too). A statement '..UptoSaid' is the law's where the arguments, and the package variables that the reading takes, are together of bulk at most 1048576: NARROWER than '..Said'. Prove '..Said' where nothing that the law and all that it calls make is longer than what came in: it says more and counts as full. Else prove '..UptoSaid'. A law counts once. -/
mutual
def uptoBulk {H : Type} : DataW H → Nat
  | .lit (.string bytes) => bytes.length + 1
  | .lit _ => 1
  | .nil => 1
  | .ptr d => uptoBulk d + 1
  | .slice elems spare => uptoBulkAll elems + uptoBulkAll spare + 1
  | .agg parts => uptoBulkAll parts + 1
  | .iface _ d => uptoBulk d + 1
  | .map entries => uptoBulkEntries entries + 1
  | .held _ => 1
def uptoBulkAll {H : Type} : List (DataW H) → Nat
  | [] => 0
  | d :: r => uptoBulk d + uptoBulkAll r
def uptoBulkEntries {H : Type} : List (Lit × DataW H) → Nat
  | [] => 0
  | x :: r => uptoBulkEntry x + uptoBulkEntries r
def uptoBulkEntry {H : Type} : Lit × DataW H → Nat
  | (.string bytes, d) => bytes.length + uptoBulk d + 1
  | (_, d) => uptoBulk d + 1
 end
def uptoSmall : (H : Type) → List (DataW H) → Bool := fun _ ds => decide (uptoBulkAll ds ≤ 1048576)
def OpenSpec.upto (s : _root_.Go.ChangeSpec) : _root_.Go.OpenSpec := { _root_.Go.OpenSpec.ofChange s with cond := some uptoSmall }

/-- 'saltcellarlaw.RepoDrops', WHERE WHAT IT READS IS OF BULK AT MOST 1048576: true; the input reads as it did. -/
def repoDropsUptoRow : OpenClaim := { program := "ytphbebcbbfbgpab", sum := "3ac50c8eb76447ac2a1dbe8a9c5464601a744c123eda83aed69eb3b773269a31", func := "saltcellar/saltcellarlaw.RepoDrops", spec := "repoDrops", unfollowed := true, recurses := true, apart := false, narrowed := true }
def RepoDropsUptoSaid : Prop := repoDropsUptoRow.holds Try.pinned (OpenSpec.upto repoDropsSpec)

/-- 'saltcellarlaw.VolumeReads', WHERE WHAT IT READS IS OF BULK AT MOST 1048576: true; the input reads as it did. -/
def volumeReadsUptoRow : OpenClaim := { program := "ytphbebcbbfbgpab", sum := "3ac50c8eb76447ac2a1dbe8a9c5464601a744c123eda83aed69eb3b773269a31", func := "saltcellar/saltcellarlaw.VolumeReads", spec := "volumeReads", unfollowed := true, recurses := true, apart := false, narrowed := true }
def VolumeReadsUptoSaid : Prop := volumeReadsUptoRow.holds Try.pinned (OpenSpec.upto volumeReadsSpec)

/-- 'saltcellarlaw.LogScans', WHERE WHAT IT READS IS OF BULK AT MOST 1048576: true; the input reads as it did. -/
def logScansUptoRow : OpenClaim := { program := "ytphbebcbbfbgpab", sum := "3ac50c8eb76447ac2a1dbe8a9c5464601a744c123eda83aed69eb3b773269a31", func := "saltcellar/saltcellarlaw.LogScans", spec := "logScans", apart := false, narrowed := true }
def LogScansUptoSaid : Prop := logScansUptoRow.holds Try.pinned (OpenSpec.upto logScansSpec)

/-- 'saltcellarlaw.RepoKeeps', WHERE WHAT IT READS IS OF BULK AT MOST 1048576: true; the input reads as it did. -/
def repoKeepsUptoRow : OpenClaim := { program := "ytphbebcbbfbgpab", sum := "3ac50c8eb76447ac2a1dbe8a9c5464601a744c123eda83aed69eb3b773269a31", func := "saltcellar/saltcellarlaw.RepoKeeps", spec := "repoKeeps", inPlace := ["slices.overlaps[saltcellar/api.Item]"], unfollowed := true, recurses := true, apart := false, narrowed := true }
def RepoKeepsUptoSaid : Prop := repoKeepsUptoRow.holds Try.pinned (OpenSpec.upto repoKeepsSpec)

/-- 'saltcellarkeep.PackRuns', WHERE WHAT IT READS IS OF BULK AT MOST 1048576: true; the input reads as it did. -/
def packRunsUptoRow : OpenClaim := { program := "ytphbebcbbfbgpab", sum := "3ac50c8eb76447ac2a1dbe8a9c5464601a744c123eda83aed69eb3b773269a31", func := "saltcellar/saltcellarkeep.PackRuns", spec := "packRuns", inPlace := ["internal/abi.NoEscape", "internal/bytealg.MakeNoZero"], apart := false, narrowed := true }
def PackRunsUptoSaid : Prop := packRunsUptoRow.holds Try.pinned (OpenSpec.upto packRunsSpec)

/-- 'saltcellarkeep.PackBack', WHERE WHAT IT READS IS OF BULK AT MOST 1048576: true; the input reads as it did. -/
def packBackUptoRow : OpenClaim := { program := "ytphbebcbbfbgpab", sum := "3ac50c8eb76447ac2a1dbe8a9c5464601a744c123eda83aed69eb3b773269a31", func := "saltcellar/saltcellarkeep.PackBack", spec := "packBack", inPlace := ["internal/abi.NoEscape", "internal/bytealg.MakeNoZero"], apart := false, narrowed := true }
def PackBackUptoSaid : Prop := packBackUptoRow.holds Try.pinned (OpenSpec.upto packBackSpec)

/-- 'saltcellarlaw.VolumeApplies', WHERE WHAT IT READS IS OF BULK AT MOST 1048576: true; the input reads as it did. -/
def volumeAppliesUptoRow : OpenClaim := { program := "ytphbebcbbfbgpab", sum := "3ac50c8eb76447ac2a1dbe8a9c5464601a744c123eda83aed69eb3b773269a31", func := "saltcellar/saltcellarlaw.VolumeApplies", spec := "volumeApplies", inPlace := ["slices.overlaps[saltcellar/api.Item]"], unfollowed := true, recurses := true, apart := false, narrowed := true }
def VolumeAppliesUptoSaid : Prop := volumeAppliesUptoRow.holds Try.pinned (OpenSpec.upto volumeAppliesSpec)

/-- 'saltcellarlaw.EngineRuns', WHERE WHAT IT READS IS OF BULK AT MOST 1048576: true; the input reads as it did. -/
def engineRunsUptoRow : OpenClaim := { program := "ytphbebcbbfbgpab", sum := "3ac50c8eb76447ac2a1dbe8a9c5464601a744c123eda83aed69eb3b773269a31", func := "saltcellar/saltcellarlaw.EngineRuns", spec := "engineRuns", inPlace := ["slices.overlaps[saltcellar/api.Write]", "slices.overlaps[saltcellar/api.Item]"], unfollowed := true, recurses := true, apart := false, narrowed := true }
def EngineRunsUptoSaid : Prop := engineRunsUptoRow.holds Try.pinned (OpenSpec.upto engineRunsSpec)

end Rows
end Go.Proofs.Ytphbebcbbfbgpab
