/-
  No cell of these rows narrows 'for every input' (looked for: loops, veiled, ifaces, maps, wideKeys, modest, calm, conditions, laid).
  DERIVED. THE GIVEN ROWS OF THIS SEAT. 9 by the template 'for every input the law returns true; each argument reads behind the call as it read before'; 0 by the template 'total and deterministic' (their statements: YtphbebcbbfbgpaaTotals.lean).
  GIVEN WITH THE SEED: the statements are not yours to turn. If you find one false, say at which input.
  Laid BY PROGRAM, IN A SANDBOX (cutbox-rows.mjs): the forced cells as the released guide's own fill.sh prints them over the translation 53d74d46d14aad91… (all of the seat's roots in one cut). By AI agents, Wed Nov 11 2026. No macro, syntax, notation, axiom, sorry.
-/
import Derived.Test.YtphbebcbbfbgpaaChecked
import GoSem.Claim
import GoSem.ClaimJoined
import GoSem.ClaimMapViews
import Derived.JoinedTies
import Derived.KernelRfl
namespace Go.Proofs.Ytphbebcbbfbgpaa
/- THE CELL 'sum', in the pinned program and in every row, IS THE sha256 OF THE DUMP (.gsa) THAT YtphbebcbbfbgpaaProg.lean LOADS. Nothing in Lean hashes anything: it is a label: what it is worth is what the hold of that sum in a sandbox is worth. -/
noncomputable def Try.pinned : Pinned := { name := "ytphbebcbbfbgpaa", sum := "53d74d46d14aad91352d3168db2df7ec4411858cfa921fff0fa3e62145cd4c8d", checked := Try.checked }
namespace Rows
def none {H : Type} : Left H := { results := [], args := [] }

/-- 'saltcellarlaw.Names': WHATEVER THE INPUT: true; the input reads as it did. -/
def namesSpec : ChangeSpec := { name := "names", fn := fun _ => fun
  | [] => { results := [.lit (.bool true)], args := [] }
  | _ => none }
def namesRow : OpenClaim := { program := "ytphbebcbbfbgpaa", sum := "53d74d46d14aad91352d3168db2df7ec4411858cfa921fff0fa3e62145cd4c8d", func := "saltcellar/saltcellarlaw.Names", spec := "names", apart := false }
def NamesSaid : Prop := namesRow.holds Try.pinned (OpenSpec.ofChange namesSpec)

/-- ITS FALSE NEIGHBOUR: 'it returns false'. Refute it at one input. -/
def namesWrong : ChangeSpec := { name := "names", fn := fun _ => fun
  | [] => { results := [.lit (.bool false)], args := [] }
  | _ => none }
def NamesWrongFalsely : Prop := namesRow.holds Try.pinned (OpenSpec.ofChange namesWrong)

/-- 'saltcellarlaw.VolumeCopies': WHATEVER THE INPUT: true; the input reads as it did. -/
def volumeCopiesSpec : ChangeSpec := { name := "volumeCopies", fn := fun _ => fun
  | [d] => { results := [.lit (.bool true)], args := [d] }
  | _ => none }
def volumeCopiesRow : OpenClaim := { program := "ytphbebcbbfbgpaa", sum := "53d74d46d14aad91352d3168db2df7ec4411858cfa921fff0fa3e62145cd4c8d", func := "saltcellar/saltcellarlaw.VolumeCopies", spec := "volumeCopies", apart := false }
def VolumeCopiesSaid : Prop := volumeCopiesRow.holds Try.pinned (OpenSpec.ofChange volumeCopiesSpec)

/-- ITS FALSE NEIGHBOUR: 'it returns false'. Refute it at one input. -/
def volumeCopiesWrong : ChangeSpec := { name := "volumeCopies", fn := fun _ => fun
  | [d] => { results := [.lit (.bool false)], args := [d] }
  | _ => none }
def VolumeCopiesWrongFalsely : Prop := volumeCopiesRow.holds Try.pinned (OpenSpec.ofChange volumeCopiesWrong)

/-- 'saltcellarlaw.RepoChecks': WHATEVER THE INPUT: true; the input reads as it did. -/
def repoChecksSpec : ChangeSpec := { name := "repoChecks", fn := fun _ => fun
  | [d] => { results := [.lit (.bool true)], args := [d] }
  | _ => none }
def repoChecksRow : OpenClaim := { program := "ytphbebcbbfbgpaa", sum := "53d74d46d14aad91352d3168db2df7ec4411858cfa921fff0fa3e62145cd4c8d", func := "saltcellar/saltcellarlaw.RepoChecks", spec := "repoChecks", apart := false }
def RepoChecksSaid : Prop := repoChecksRow.holds Try.pinned (OpenSpec.ofChange repoChecksSpec)

/-- ITS FALSE NEIGHBOUR: 'it returns false'. Refute it at one input. -/
def repoChecksWrong : ChangeSpec := { name := "repoChecks", fn := fun _ => fun
  | [d] => { results := [.lit (.bool false)], args := [d] }
  | _ => none }
def RepoChecksWrongFalsely : Prop := repoChecksRow.holds Try.pinned (OpenSpec.ofChange repoChecksWrong)

/-- 'saltcellarlaw.PressPacks': WHATEVER THE INPUT: true; the input reads as it did. -/
def pressPacksSpec : ChangeSpec := { name := "pressPacks", fn := fun _ => fun
  | [d] => { results := [.lit (.bool true)], args := [d] }
  | _ => none }
def pressPacksRow : OpenClaim := { program := "ytphbebcbbfbgpaa", sum := "53d74d46d14aad91352d3168db2df7ec4411858cfa921fff0fa3e62145cd4c8d", func := "saltcellar/saltcellarlaw.PressPacks", spec := "pressPacks", apart := false }
def PressPacksSaid : Prop := pressPacksRow.holds Try.pinned (OpenSpec.ofChange pressPacksSpec)

/-- ITS FALSE NEIGHBOUR: 'it returns false'. Refute it at one input. -/
def pressPacksWrong : ChangeSpec := { name := "pressPacks", fn := fun _ => fun
  | [d] => { results := [.lit (.bool false)], args := [d] }
  | _ => none }
def PressPacksWrongFalsely : Prop := pressPacksRow.holds Try.pinned (OpenSpec.ofChange pressPacksWrong)

/-- 'saltcellarlaw.VolumeChecks': WHATEVER THE INPUT: true; the input reads as it did. -/
def volumeChecksSpec : ChangeSpec := { name := "volumeChecks", fn := fun _ => fun
  | [d] => { results := [.lit (.bool true)], args := [d] }
  | _ => none }
def volumeChecksRow : OpenClaim := { program := "ytphbebcbbfbgpaa", sum := "53d74d46d14aad91352d3168db2df7ec4411858cfa921fff0fa3e62145cd4c8d", func := "saltcellar/saltcellarlaw.VolumeChecks", spec := "volumeChecks", apart := false }
def VolumeChecksSaid : Prop := volumeChecksRow.holds Try.pinned (OpenSpec.ofChange volumeChecksSpec)

/-- ITS FALSE NEIGHBOUR: 'it returns false'. Refute it at one input. -/
def volumeChecksWrong : ChangeSpec := { name := "volumeChecks", fn := fun _ => fun
  | [d] => { results := [.lit (.bool false)], args := [d] }
  | _ => none }
def VolumeChecksWrongFalsely : Prop := volumeChecksRow.holds Try.pinned (OpenSpec.ofChange volumeChecksWrong)

/-- 'saltcellarlaw.RepoGets': WHATEVER THE INPUT: true; the input reads as it did. -/
def repoGetsSpec : ChangeSpec := { name := "repoGets", fn := fun _ => fun
  | [d1, d2] => { results := [.lit (.bool true)], args := [d1, d2] }
  | _ => none }
def repoGetsRow : OpenClaim := { program := "ytphbebcbbfbgpaa", sum := "53d74d46d14aad91352d3168db2df7ec4411858cfa921fff0fa3e62145cd4c8d", func := "saltcellar/saltcellarlaw.RepoGets", spec := "repoGets", unfollowed := true, recurses := true, apart := false }
def RepoGetsSaid : Prop := repoGetsRow.holds Try.pinned (OpenSpec.ofChange repoGetsSpec)

/-- ITS FALSE NEIGHBOUR: 'it returns false'. Refute it at one input. -/
def repoGetsWrong : ChangeSpec := { name := "repoGets", fn := fun _ => fun
  | [d1, d2] => { results := [.lit (.bool false)], args := [d1, d2] }
  | _ => none }
def RepoGetsWrongFalsely : Prop := repoGetsRow.holds Try.pinned (OpenSpec.ofChange repoGetsWrong)

/-- 'saltcellarlaw.PressUnpacks': WHATEVER THE INPUT: true; the input reads as it did. -/
def pressUnpacksSpec : ChangeSpec := { name := "pressUnpacks", fn := fun _ => fun
  | [d] => { results := [.lit (.bool true)], args := [d] }
  | _ => none }
def pressUnpacksRow : OpenClaim := { program := "ytphbebcbbfbgpaa", sum := "53d74d46d14aad91352d3168db2df7ec4411858cfa921fff0fa3e62145cd4c8d", func := "saltcellar/saltcellarlaw.PressUnpacks", spec := "pressUnpacks", apart := false }
def PressUnpacksSaid : Prop := pressUnpacksRow.holds Try.pinned (OpenSpec.ofChange pressUnpacksSpec)

/-- ITS FALSE NEIGHBOUR: 'it returns false'. Refute it at one input. -/
def pressUnpacksWrong : ChangeSpec := { name := "pressUnpacks", fn := fun _ => fun
  | [d] => { results := [.lit (.bool false)], args := [d] }
  | _ => none }
def PressUnpacksWrongFalsely : Prop := pressUnpacksRow.holds Try.pinned (OpenSpec.ofChange pressUnpacksWrong)

/-- 'saltcellarlaw.VolumeNews': WHATEVER THE INPUT: true; the input reads as it did. -/
def volumeNewsSpec : ChangeSpec := { name := "volumeNews", fn := fun _ => fun
  | [d] => { results := [.lit (.bool true)], args := [d] }
  | _ => none }
def volumeNewsRow : OpenClaim := { program := "ytphbebcbbfbgpaa", sum := "53d74d46d14aad91352d3168db2df7ec4411858cfa921fff0fa3e62145cd4c8d", func := "saltcellar/saltcellarlaw.VolumeNews", spec := "volumeNews", apart := false }
def VolumeNewsSaid : Prop := volumeNewsRow.holds Try.pinned (OpenSpec.ofChange volumeNewsSpec)

/-- ITS FALSE NEIGHBOUR: 'it returns false'. Refute it at one input. -/
def volumeNewsWrong : ChangeSpec := { name := "volumeNews", fn := fun _ => fun
  | [d] => { results := [.lit (.bool false)], args := [d] }
  | _ => none }
def VolumeNewsWrongFalsely : Prop := volumeNewsRow.holds Try.pinned (OpenSpec.ofChange volumeNewsWrong)

/-- 'saltcellarlaw.RepoUses': WHATEVER THE INPUT: true; the input reads as it did. -/
def repoUsesSpec : ChangeSpec := { name := "repoUses", fn := fun _ => fun
  | [d1, d2] => { results := [.lit (.bool true)], args := [d1, d2] }
  | _ => none }
def repoUsesRow : OpenClaim := { program := "ytphbebcbbfbgpaa", sum := "53d74d46d14aad91352d3168db2df7ec4411858cfa921fff0fa3e62145cd4c8d", func := "saltcellar/saltcellarlaw.RepoUses", spec := "repoUses", unfollowed := true, recurses := true, apart := false }
def RepoUsesSaid : Prop := repoUsesRow.holds Try.pinned (OpenSpec.ofChange repoUsesSpec)

/-- ITS FALSE NEIGHBOUR: 'it returns false'. Refute it at one input. -/
def repoUsesWrong : ChangeSpec := { name := "repoUses", fn := fun _ => fun
  | [d1, d2] => { results := [.lit (.bool false)], args := [d1, d2] }
  | _ => none }
def RepoUsesWrongFalsely : Prop := repoUsesRow.holds Try.pinned (OpenSpec.ofChange repoUsesWrong)

/- THE SECOND FORM. 'bulk': how many values and letters a reading holds, each counted each time it is reached (what is shared counts as often as it is met; a slice's spare places count too). A statement '..UptoSaid' is the law's where the arguments, and the package variables that the reading takes, are together of bulk at most 1048576: NARROWER than '..Said'. Prove '..Said' where nothing that the law and all that it calls make is longer than what came in: it says more and counts as full. Else prove '..UptoSaid'. A law counts once. -/
mutual
def uptoBulk {H : Type} : DataW H → Nat
  | .lit (.string bytes) => bytes.length + 1
  | .lit _ => 1
  | .nil => 1
  | .ptr d => uptoBulk d + 1
  | .slice elems spare => uptoBulkAll elems + uptoBulkAll spare + 1
  | .agg parts => uptoBulkAll parts + 1
  | .iface _ d => uptoBulk d + 1
  | .map entries => uptoBulkEntries entries + 1
  | .held _ => 1
def uptoBulkAll {H : Type} : List (DataW H) → Nat
  | [] => 0
  | d :: r => uptoBulk d + uptoBulkAll r
def uptoBulkEntries {H : Type} : List (Lit × DataW H) → Nat
  | [] => 0
  | x :: r => uptoBulkEntry x + uptoBulkEntries r
def uptoBulkEntry {H : Type} : Lit × DataW H → Nat
  | (.string bytes, d) => bytes.length + uptoBulk d + 1
  | (_, d) => uptoBulk d + 1
 end
def uptoSmall : (H : Type) → List (DataW H) → Bool := fun _ ds => decide (uptoBulkAll ds ≤ 1048576)
def OpenSpec.upto (s : _root_.Go.ChangeSpec) : _root_.Go.OpenSpec := { _root_.Go.OpenSpec.ofChange s with cond := some uptoSmall }

/-- 'saltcellarlaw.Names', WHERE WHAT IT READS IS OF BULK AT MOST 1048576: true; the input reads as it did. -/
def namesUptoRow : OpenClaim := { program := "ytphbebcbbfbgpaa", sum := "53d74d46d14aad91352d3168db2df7ec4411858cfa921fff0fa3e62145cd4c8d", func := "saltcellar/saltcellarlaw.Names", spec := "names", apart := false, narrowed := true }
def NamesUptoSaid : Prop := namesUptoRow.holds Try.pinned (OpenSpec.upto namesSpec)

/-- 'saltcellarlaw.VolumeCopies', WHERE WHAT IT READS IS OF BULK AT MOST 1048576: true; the input reads as it did. -/
def volumeCopiesUptoRow : OpenClaim := { program := "ytphbebcbbfbgpaa", sum := "53d74d46d14aad91352d3168db2df7ec4411858cfa921fff0fa3e62145cd4c8d", func := "saltcellar/saltcellarlaw.VolumeCopies", spec := "volumeCopies", apart := false, narrowed := true }
def VolumeCopiesUptoSaid : Prop := volumeCopiesUptoRow.holds Try.pinned (OpenSpec.upto volumeCopiesSpec)

/-- 'saltcellarlaw.RepoChecks', WHERE WHAT IT READS IS OF BULK AT MOST 1048576: true; the input reads as it did. -/
def repoChecksUptoRow : OpenClaim := { program := "ytphbebcbbfbgpaa", sum := "53d74d46d14aad91352d3168db2df7ec4411858cfa921fff0fa3e62145cd4c8d", func := "saltcellar/saltcellarlaw.RepoChecks", spec := "repoChecks", apart := false, narrowed := true }
def RepoChecksUptoSaid : Prop := repoChecksUptoRow.holds Try.pinned (OpenSpec.upto repoChecksSpec)

/-- 'saltcellarlaw.PressPacks', WHERE WHAT IT READS IS OF BULK AT MOST 1048576: true; the input reads as it did. -/
def pressPacksUptoRow : OpenClaim := { program := "ytphbebcbbfbgpaa", sum := "53d74d46d14aad91352d3168db2df7ec4411858cfa921fff0fa3e62145cd4c8d", func := "saltcellar/saltcellarlaw.PressPacks", spec := "pressPacks", apart := false, narrowed := true }
def PressPacksUptoSaid : Prop := pressPacksUptoRow.holds Try.pinned (OpenSpec.upto pressPacksSpec)

/-- 'saltcellarlaw.VolumeChecks', WHERE WHAT IT READS IS OF BULK AT MOST 1048576: true; the input reads as it did. -/
def volumeChecksUptoRow : OpenClaim := { program := "ytphbebcbbfbgpaa", sum := "53d74d46d14aad91352d3168db2df7ec4411858cfa921fff0fa3e62145cd4c8d", func := "saltcellar/saltcellarlaw.VolumeChecks", spec := "volumeChecks", apart := false, narrowed := true }
def VolumeChecksUptoSaid : Prop := volumeChecksUptoRow.holds Try.pinned (OpenSpec.upto volumeChecksSpec)

/-- 'saltcellarlaw.RepoGets', WHERE WHAT IT READS IS OF BULK AT MOST 1048576: true; the input reads as it did. -/
def repoGetsUptoRow : OpenClaim := { program := "ytphbebcbbfbgpaa", sum := "53d74d46d14aad91352d3168db2df7ec4411858cfa921fff0fa3e62145cd4c8d", func := "saltcellar/saltcellarlaw.RepoGets", spec := "repoGets", unfollowed := true, recurses := true, apart := false, narrowed := true }
def RepoGetsUptoSaid : Prop := repoGetsUptoRow.holds Try.pinned (OpenSpec.upto repoGetsSpec)

/-- 'saltcellarlaw.PressUnpacks', WHERE WHAT IT READS IS OF BULK AT MOST 1048576: true; the input reads as it did. -/
def pressUnpacksUptoRow : OpenClaim := { program := "ytphbebcbbfbgpaa", sum := "53d74d46d14aad91352d3168db2df7ec4411858cfa921fff0fa3e62145cd4c8d", func := "saltcellar/saltcellarlaw.PressUnpacks", spec := "pressUnpacks", apart := false, narrowed := true }
def PressUnpacksUptoSaid : Prop := pressUnpacksUptoRow.holds Try.pinned (OpenSpec.upto pressUnpacksSpec)

/-- 'saltcellarlaw.VolumeNews', WHERE WHAT IT READS IS OF BULK AT MOST 1048576: true; the input reads as it did. -/
def volumeNewsUptoRow : OpenClaim := { program := "ytphbebcbbfbgpaa", sum := "53d74d46d14aad91352d3168db2df7ec4411858cfa921fff0fa3e62145cd4c8d", func := "saltcellar/saltcellarlaw.VolumeNews", spec := "volumeNews", apart := false, narrowed := true }
def VolumeNewsUptoSaid : Prop := volumeNewsUptoRow.holds Try.pinned (OpenSpec.upto volumeNewsSpec)

/-- 'saltcellarlaw.RepoUses', WHERE WHAT IT READS IS OF BULK AT MOST 1048576: true; the input reads as it did. -/
def repoUsesUptoRow : OpenClaim := { program := "ytphbebcbbfbgpaa", sum := "53d74d46d14aad91352d3168db2df7ec4411858cfa921fff0fa3e62145cd4c8d", func := "saltcellar/saltcellarlaw.RepoUses", spec := "repoUses", unfollowed := true, recurses := true, apart := false, narrowed := true }
def RepoUsesUptoSaid : Prop := repoUsesUptoRow.holds Try.pinned (OpenSpec.upto repoUsesSpec)

end Rows
end Go.Proofs.Ytphbebcbbfbgpaa
