/-
  No cell of these rows narrows 'for every input' (looked for: loops, veiled, ifaces, maps, wideKeys, modest, calm, conditions, laid).
  DERIVED. THE GIVEN ROWS OF THIS SEAT. 10 by the template 'for every input the law returns true; each argument reads behind the call as it read before'; 0 by the template 'total and deterministic' (their statements: YtjdkdogiaokhjaaTotals.lean).
  GIVEN WITH THE SEED: the statements are not yours to turn. If you find one false, say at which input.
  Laid BY PROGRAM, IN A SANDBOX (cutbox-rows.mjs): the forced cells as the released guide's own fill.sh prints them over the translation df7b1b3e3f6d318d… (all of the seat's roots in one cut). By AI agents, Wed Nov 11 2026. No macro, syntax, notation, axiom, sorry.
-/
import Derived.Test.YtjdkdogiaokhjaaChecked
import GoSem.Claim
import GoSem.ClaimJoined
import GoSem.ClaimMapViews
import Derived.JoinedTies
import Derived.KernelRfl
namespace Go.Proofs.Ytjdkdogiaokhjaa
/- THE CELL 'sum', in the pinned program and in every row, IS THE sha256 OF THE DUMP (.gsa) THAT YtjdkdogiaokhjaaProg.lean LOADS. Nothing in Lean hashes anything: it is a label: what it is worth is what the hold of that sum in a sandbox is worth. -/
noncomputable def Try.pinned : Pinned := { name := "ytjdkdogiaokhjaa", sum := "df7b1b3e3f6d318d7619e4d01c7fb048483ab6308bb6f6c38e78055dede2fd82", checked := Try.checked }
namespace Rows
def none {H : Type} : Left H := { results := [], args := [] }

/-- 'archivoltlaw04.RunsPuts': WHATEVER THE INPUT: true; the input reads as it did. -/
def runsPutsSpec : ChangeSpec := { name := "runsPuts", fn := fun _ => fun
  | [d1, d2, d3, d4] => { results := [.lit (.bool true)], args := [d1, d2, d3, d4] }
  | _ => none }
def runsPutsRow : OpenClaim := { program := "ytjdkdogiaokhjaa", sum := "df7b1b3e3f6d318d7619e4d01c7fb048483ab6308bb6f6c38e78055dede2fd82", func := "archivolt/archivoltlaw04.RunsPuts", spec := "runsPuts", unfollowed := true, recurses := true, apart := false }
def RunsPutsSaid : Prop := runsPutsRow.holds Try.pinned (OpenSpec.ofChange runsPutsSpec)

/-- ITS FALSE NEIGHBOUR: 'it returns false'. Refute it at one input. -/
def runsPutsWrong : ChangeSpec := { name := "runsPuts", fn := fun _ => fun
  | [d1, d2, d3, d4] => { results := [.lit (.bool false)], args := [d1, d2, d3, d4] }
  | _ => none }
def RunsPutsWrongFalsely : Prop := runsPutsRow.holds Try.pinned (OpenSpec.ofChange runsPutsWrong)

/-- 'archivoltlaw04.RunsPacks': WHATEVER THE INPUT: true; the input reads as it did. -/
def runsPacksSpec : ChangeSpec := { name := "runsPacks", fn := fun _ => fun
  | [d1, d2, d3] => { results := [.lit (.bool true)], args := [d1, d2, d3] }
  | _ => none }
def runsPacksRow : OpenClaim := { program := "ytjdkdogiaokhjaa", sum := "df7b1b3e3f6d318d7619e4d01c7fb048483ab6308bb6f6c38e78055dede2fd82", func := "archivolt/archivoltlaw04.RunsPacks", spec := "runsPacks", unfollowed := true, recurses := true, apart := false }
def RunsPacksSaid : Prop := runsPacksRow.holds Try.pinned (OpenSpec.ofChange runsPacksSpec)

/-- ITS FALSE NEIGHBOUR: 'it returns false'. Refute it at one input. -/
def runsPacksWrong : ChangeSpec := { name := "runsPacks", fn := fun _ => fun
  | [d1, d2, d3] => { results := [.lit (.bool false)], args := [d1, d2, d3] }
  | _ => none }
def RunsPacksWrongFalsely : Prop := runsPacksRow.holds Try.pinned (OpenSpec.ofChange runsPacksWrong)

/-- 'archivoltlaw04.RunsNormal': WHATEVER THE INPUT: true; the input reads as it did. -/
def runsNormalSpec : ChangeSpec := { name := "runsNormal", fn := fun _ => fun
  | [d] => { results := [.lit (.bool true)], args := [d] }
  | _ => none }
def runsNormalRow : OpenClaim := { program := "ytjdkdogiaokhjaa", sum := "df7b1b3e3f6d318d7619e4d01c7fb048483ab6308bb6f6c38e78055dede2fd82", func := "archivolt/archivoltlaw04.RunsNormal", spec := "runsNormal", unfollowed := true, recurses := true, apart := false }
def RunsNormalSaid : Prop := runsNormalRow.holds Try.pinned (OpenSpec.ofChange runsNormalSpec)

/-- ITS FALSE NEIGHBOUR: 'it returns false'. Refute it at one input. -/
def runsNormalWrong : ChangeSpec := { name := "runsNormal", fn := fun _ => fun
  | [d] => { results := [.lit (.bool false)], args := [d] }
  | _ => none }
def RunsNormalWrongFalsely : Prop := runsNormalRow.holds Try.pinned (OpenSpec.ofChange runsNormalWrong)

/-- 'archivoltlaw04.RunsBytes': WHATEVER THE INPUT: true; the input reads as it did. -/
def runsBytesSpec : ChangeSpec := { name := "runsBytes", fn := fun _ => fun
  | [d1, d2, d3] => { results := [.lit (.bool true)], args := [d1, d2, d3] }
  | _ => none }
def runsBytesRow : OpenClaim := { program := "ytjdkdogiaokhjaa", sum := "df7b1b3e3f6d318d7619e4d01c7fb048483ab6308bb6f6c38e78055dede2fd82", func := "archivolt/archivoltlaw04.RunsBytes", spec := "runsBytes", unfollowed := true, recurses := true, apart := false }
def RunsBytesSaid : Prop := runsBytesRow.holds Try.pinned (OpenSpec.ofChange runsBytesSpec)

/-- ITS FALSE NEIGHBOUR: 'it returns false'. Refute it at one input. -/
def runsBytesWrong : ChangeSpec := { name := "runsBytes", fn := fun _ => fun
  | [d1, d2, d3] => { results := [.lit (.bool false)], args := [d1, d2, d3] }
  | _ => none }
def RunsBytesWrongFalsely : Prop := runsBytesRow.holds Try.pinned (OpenSpec.ofChange runsBytesWrong)

/-- 'archivoltlaw04.RunsMaps': WHATEVER THE INPUT: true; the input reads as it did. -/
def runsMapsSpec : ChangeSpec := { name := "runsMaps", fn := fun _ => fun
  | [d1, d2, d3] => { results := [.lit (.bool true)], args := [d1, d2, d3] }
  | _ => none }
def runsMapsRow : OpenClaim := { program := "ytjdkdogiaokhjaa", sum := "df7b1b3e3f6d318d7619e4d01c7fb048483ab6308bb6f6c38e78055dede2fd82", func := "archivolt/archivoltlaw04.RunsMaps", spec := "runsMaps", unfollowed := true, recurses := true, apart := false }
def RunsMapsSaid : Prop := runsMapsRow.holds Try.pinned (OpenSpec.ofChange runsMapsSpec)

/-- ITS FALSE NEIGHBOUR: 'it returns false'. Refute it at one input. -/
def runsMapsWrong : ChangeSpec := { name := "runsMaps", fn := fun _ => fun
  | [d1, d2, d3] => { results := [.lit (.bool false)], args := [d1, d2, d3] }
  | _ => none }
def RunsMapsWrongFalsely : Prop := runsMapsRow.holds Try.pinned (OpenSpec.ofChange runsMapsWrong)

/-- 'archivoltlaw04.RunsEdits': WHATEVER THE INPUT: true; the input reads as it did. -/
def runsEditsSpec : ChangeSpec := { name := "runsEdits", fn := fun _ => fun
  | [d1, d2, d3, d4] => { results := [.lit (.bool true)], args := [d1, d2, d3, d4] }
  | _ => none }
def runsEditsRow : OpenClaim := { program := "ytjdkdogiaokhjaa", sum := "df7b1b3e3f6d318d7619e4d01c7fb048483ab6308bb6f6c38e78055dede2fd82", func := "archivolt/archivoltlaw04.RunsEdits", spec := "runsEdits", unfollowed := true, recurses := true, apart := false }
def RunsEditsSaid : Prop := runsEditsRow.holds Try.pinned (OpenSpec.ofChange runsEditsSpec)

/-- ITS FALSE NEIGHBOUR: 'it returns false'. Refute it at one input. -/
def runsEditsWrong : ChangeSpec := { name := "runsEdits", fn := fun _ => fun
  | [d1, d2, d3, d4] => { results := [.lit (.bool false)], args := [d1, d2, d3, d4] }
  | _ => none }
def RunsEditsWrongFalsely : Prop := runsEditsRow.holds Try.pinned (OpenSpec.ofChange runsEditsWrong)

/-- 'archivoltlaw04.RunsUndone': WHATEVER THE INPUT: true; the input reads as it did. -/
def runsUndoneSpec : ChangeSpec := { name := "runsUndone", fn := fun _ => fun
  | [d1, d2, d3, d4] => { results := [.lit (.bool true)], args := [d1, d2, d3, d4] }
  | _ => none }
def runsUndoneRow : OpenClaim := { program := "ytjdkdogiaokhjaa", sum := "df7b1b3e3f6d318d7619e4d01c7fb048483ab6308bb6f6c38e78055dede2fd82", func := "archivolt/archivoltlaw04.RunsUndone", spec := "runsUndone", unfollowed := true, recurses := true, apart := false }
def RunsUndoneSaid : Prop := runsUndoneRow.holds Try.pinned (OpenSpec.ofChange runsUndoneSpec)

/-- ITS FALSE NEIGHBOUR: 'it returns false'. Refute it at one input. -/
def runsUndoneWrong : ChangeSpec := { name := "runsUndone", fn := fun _ => fun
  | [d1, d2, d3, d4] => { results := [.lit (.bool false)], args := [d1, d2, d3, d4] }
  | _ => none }
def RunsUndoneWrongFalsely : Prop := runsUndoneRow.holds Try.pinned (OpenSpec.ofChange runsUndoneWrong)

/-- 'archivoltlaw04.RunsPages': WHATEVER THE INPUT: true; the input reads as it did. -/
def runsPagesSpec : ChangeSpec := { name := "runsPages", fn := fun _ => fun
  | [d1, d2, d3, d4] => { results := [.lit (.bool true)], args := [d1, d2, d3, d4] }
  | _ => none }
def runsPagesRow : OpenClaim := { program := "ytjdkdogiaokhjaa", sum := "df7b1b3e3f6d318d7619e4d01c7fb048483ab6308bb6f6c38e78055dede2fd82", func := "archivolt/archivoltlaw04.RunsPages", spec := "runsPages", unfollowed := true, recurses := true, apart := false }
def RunsPagesSaid : Prop := runsPagesRow.holds Try.pinned (OpenSpec.ofChange runsPagesSpec)

/-- ITS FALSE NEIGHBOUR: 'it returns false'. Refute it at one input. -/
def runsPagesWrong : ChangeSpec := { name := "runsPages", fn := fun _ => fun
  | [d1, d2, d3, d4] => { results := [.lit (.bool false)], args := [d1, d2, d3, d4] }
  | _ => none }
def RunsPagesWrongFalsely : Prop := runsPagesRow.holds Try.pinned (OpenSpec.ofChange runsPagesWrong)

/-- 'archivoltlaw04.RunsCounts': WHATEVER THE INPUT: true; the input reads as it did. -/
def runsCountsSpec : ChangeSpec := { name := "runsCounts", fn := fun _ => fun
  | [d1, d2, d3] => { results := [.lit (.bool true)], args := [d1, d2, d3] }
  | _ => none }
def runsCountsRow : OpenClaim := { program := "ytjdkdogiaokhjaa", sum := "df7b1b3e3f6d318d7619e4d01c7fb048483ab6308bb6f6c38e78055dede2fd82", func := "archivolt/archivoltlaw04.RunsCounts", spec := "runsCounts", unfollowed := true, recurses := true, apart := false }
def RunsCountsSaid : Prop := runsCountsRow.holds Try.pinned (OpenSpec.ofChange runsCountsSpec)

/-- ITS FALSE NEIGHBOUR: 'it returns false'. Refute it at one input. -/
def runsCountsWrong : ChangeSpec := { name := "runsCounts", fn := fun _ => fun
  | [d1, d2, d3] => { results := [.lit (.bool false)], args := [d1, d2, d3] }
  | _ => none }
def RunsCountsWrongFalsely : Prop := runsCountsRow.holds Try.pinned (OpenSpec.ofChange runsCountsWrong)

/-- 'archivoltlaw04.RunsTells': WHATEVER THE INPUT: true; the input reads as it did. -/
def runsTellsSpec : ChangeSpec := { name := "runsTells", fn := fun _ => fun
  | [d1, d2] => { results := [.lit (.bool true)], args := [d1, d2] }
  | _ => none }
def runsTellsRow : OpenClaim := { program := "ytjdkdogiaokhjaa", sum := "df7b1b3e3f6d318d7619e4d01c7fb048483ab6308bb6f6c38e78055dede2fd82", func := "archivolt/archivoltlaw04.RunsTells", spec := "runsTells", unfollowed := true, recurses := true, apart := false }
def RunsTellsSaid : Prop := runsTellsRow.holds Try.pinned (OpenSpec.ofChange runsTellsSpec)

/-- ITS FALSE NEIGHBOUR: 'it returns false'. Refute it at one input. -/
def runsTellsWrong : ChangeSpec := { name := "runsTells", fn := fun _ => fun
  | [d1, d2] => { results := [.lit (.bool false)], args := [d1, d2] }
  | _ => none }
def RunsTellsWrongFalsely : Prop := runsTellsRow.holds Try.pinned (OpenSpec.ofChange runsTellsWrong)

/- THE SECOND FORM. 'bulk': how many values and letters a reading holds, each counted each time it is reached (what is shared counts as often as it is met; a slice's spare places count too). A statement '..UptoSaid' is the law's where the arguments, and the package variables that the reading takes, are together of bulk at most 1048576: NARROWER than '..Said'. Prove '..Said' where nothing that the law and all that it calls make is longer than what came in: it says more and counts as full. Else prove '..UptoSaid'. A law counts once. -/
mutual
def uptoBulk {H : Type} : DataW H → Nat
  | .lit (.string bytes) => bytes.length + 1
  | .lit _ => 1
  | .nil => 1
  | .ptr d => uptoBulk d + 1
  | .slice elems spare => uptoBulkAll elems + uptoBulkAll spare + 1
  | .agg parts => uptoBulkAll parts + 1
  | .iface _ d => uptoBulk d + 1
  | .map entries => uptoBulkEntries entries + 1
  | .held _ => 1
def uptoBulkAll {H : Type} : List (DataW H) → Nat
  | [] => 0
  | d :: r => uptoBulk d + uptoBulkAll r
def uptoBulkEntries {H : Type} : List (Lit × DataW H) → Nat
  | [] => 0
  | x :: r => uptoBulkEntry x + uptoBulkEntries r
def uptoBulkEntry {H : Type} : Lit × DataW H → Nat
  | (.string bytes, d) => bytes.length + uptoBulk d + 1
  | (_, d) => uptoBulk d + 1
 end
def uptoSmall : (H : Type) → List (DataW H) → Bool := fun _ ds => decide (uptoBulkAll ds ≤ 1048576)
def OpenSpec.upto (s : _root_.Go.ChangeSpec) : _root_.Go.OpenSpec := { _root_.Go.OpenSpec.ofChange s with cond := some uptoSmall }

/-- 'archivoltlaw04.RunsPuts', WHERE WHAT IT READS IS OF BULK AT MOST 1048576: true; the input reads as it did. -/
def runsPutsUptoRow : OpenClaim := { program := "ytjdkdogiaokhjaa", sum := "df7b1b3e3f6d318d7619e4d01c7fb048483ab6308bb6f6c38e78055dede2fd82", func := "archivolt/archivoltlaw04.RunsPuts", spec := "runsPuts", unfollowed := true, recurses := true, apart := false, narrowed := true }
def RunsPutsUptoSaid : Prop := runsPutsUptoRow.holds Try.pinned (OpenSpec.upto runsPutsSpec)

/-- 'archivoltlaw04.RunsPacks', WHERE WHAT IT READS IS OF BULK AT MOST 1048576: true; the input reads as it did. -/
def runsPacksUptoRow : OpenClaim := { program := "ytjdkdogiaokhjaa", sum := "df7b1b3e3f6d318d7619e4d01c7fb048483ab6308bb6f6c38e78055dede2fd82", func := "archivolt/archivoltlaw04.RunsPacks", spec := "runsPacks", unfollowed := true, recurses := true, apart := false, narrowed := true }
def RunsPacksUptoSaid : Prop := runsPacksUptoRow.holds Try.pinned (OpenSpec.upto runsPacksSpec)

/-- 'archivoltlaw04.RunsNormal', WHERE WHAT IT READS IS OF BULK AT MOST 1048576: true; the input reads as it did. -/
def runsNormalUptoRow : OpenClaim := { program := "ytjdkdogiaokhjaa", sum := "df7b1b3e3f6d318d7619e4d01c7fb048483ab6308bb6f6c38e78055dede2fd82", func := "archivolt/archivoltlaw04.RunsNormal", spec := "runsNormal", unfollowed := true, recurses := true, apart := false, narrowed := true }
def RunsNormalUptoSaid : Prop := runsNormalUptoRow.holds Try.pinned (OpenSpec.upto runsNormalSpec)

/-- 'archivoltlaw04.RunsBytes', WHERE WHAT IT READS IS OF BULK AT MOST 1048576: true; the input reads as it did. -/
def runsBytesUptoRow : OpenClaim := { program := "ytjdkdogiaokhjaa", sum := "df7b1b3e3f6d318d7619e4d01c7fb048483ab6308bb6f6c38e78055dede2fd82", func := "archivolt/archivoltlaw04.RunsBytes", spec := "runsBytes", unfollowed := true, recurses := true, apart := false, narrowed := true }
def RunsBytesUptoSaid : Prop := runsBytesUptoRow.holds Try.pinned (OpenSpec.upto runsBytesSpec)

/-- 'archivoltlaw04.RunsMaps', WHERE WHAT IT READS IS OF BULK AT MOST 1048576: true; the input reads as it did. -/
def runsMapsUptoRow : OpenClaim := { program := "ytjdkdogiaokhjaa", sum := "df7b1b3e3f6d318d7619e4d01c7fb048483ab6308bb6f6c38e78055dede2fd82", func := "archivolt/archivoltlaw04.RunsMaps", spec := "runsMaps", unfollowed := true, recurses := true, apart := false, narrowed := true }
def RunsMapsUptoSaid : Prop := runsMapsUptoRow.holds Try.pinned (OpenSpec.upto runsMapsSpec)

/-- 'archivoltlaw04.RunsEdits', WHERE WHAT IT READS IS OF BULK AT MOST 1048576: true; the input reads as it did. -/
def runsEditsUptoRow : OpenClaim := { program := "ytjdkdogiaokhjaa", sum := "df7b1b3e3f6d318d7619e4d01c7fb048483ab6308bb6f6c38e78055dede2fd82", func := "archivolt/archivoltlaw04.RunsEdits", spec := "runsEdits", unfollowed := true, recurses := true, apart := false, narrowed := true }
def RunsEditsUptoSaid : Prop := runsEditsUptoRow.holds Try.pinned (OpenSpec.upto runsEditsSpec)

/-- 'archivoltlaw04.RunsUndone', WHERE WHAT IT READS IS OF BULK AT MOST 1048576: true; the input reads as it did. -/
def runsUndoneUptoRow : OpenClaim := { program := "ytjdkdogiaokhjaa", sum := "df7b1b3e3f6d318d7619e4d01c7fb048483ab6308bb6f6c38e78055dede2fd82", func := "archivolt/archivoltlaw04.RunsUndone", spec := "runsUndone", unfollowed := true, recurses := true, apart := false, narrowed := true }
def RunsUndoneUptoSaid : Prop := runsUndoneUptoRow.holds Try.pinned (OpenSpec.upto runsUndoneSpec)

/-- 'archivoltlaw04.RunsPages', WHERE WHAT IT READS IS OF BULK AT MOST 1048576: true; the input reads as it did. -/
def runsPagesUptoRow : OpenClaim := { program := "ytjdkdogiaokhjaa", sum := "df7b1b3e3f6d318d7619e4d01c7fb048483ab6308bb6f6c38e78055dede2fd82", func := "archivolt/archivoltlaw04.RunsPages", spec := "runsPages", unfollowed := true, recurses := true, apart := false, narrowed := true }
def RunsPagesUptoSaid : Prop := runsPagesUptoRow.holds Try.pinned (OpenSpec.upto runsPagesSpec)

/-- 'archivoltlaw04.RunsCounts', WHERE WHAT IT READS IS OF BULK AT MOST 1048576: true; the input reads as it did. -/
def runsCountsUptoRow : OpenClaim := { program := "ytjdkdogiaokhjaa", sum := "df7b1b3e3f6d318d7619e4d01c7fb048483ab6308bb6f6c38e78055dede2fd82", func := "archivolt/archivoltlaw04.RunsCounts", spec := "runsCounts", unfollowed := true, recurses := true, apart := false, narrowed := true }
def RunsCountsUptoSaid : Prop := runsCountsUptoRow.holds Try.pinned (OpenSpec.upto runsCountsSpec)

/-- 'archivoltlaw04.RunsTells', WHERE WHAT IT READS IS OF BULK AT MOST 1048576: true; the input reads as it did. -/
def runsTellsUptoRow : OpenClaim := { program := "ytjdkdogiaokhjaa", sum := "df7b1b3e3f6d318d7619e4d01c7fb048483ab6308bb6f6c38e78055dede2fd82", func := "archivolt/archivoltlaw04.RunsTells", spec := "runsTells", unfollowed := true, recurses := true, apart := false, narrowed := true }
def RunsTellsUptoSaid : Prop := runsTellsUptoRow.holds Try.pinned (OpenSpec.upto runsTellsSpec)

end Rows
end Go.Proofs.Ytjdkdogiaokhjaa
