/-
  No cell of these rows narrows 'for every input' (looked for: loops, veiled, ifaces, maps, wideKeys, modest, calm, conditions, laid).
  DERIVED. THE GIVEN ROWS OF THIS SEAT. 4 by the template 'for every input the law returns true; each argument reads behind the call as it read before'; 0 by the template 'total and deterministic' (their statements: YtmcmagplaflegaaGreatTotals.lean).
  GIVEN WITH THE SEED: the statements are not yours to turn. If you find one false, say at which input.
  Laid BY PROGRAM, IN A SANDBOX (cutbox-rows.mjs): the forced cells as the released guide's own fill.sh prints them over the translation def8ff628c628314… (all of the seat's roots in one cut). By AI agents, Wed Nov 11 2026. No macro, syntax, notation, axiom, sorry.
-/
import Derived.Test.YtmcmagplaflegaaGreatChecked
import GoSem.Claim
import GoSem.ClaimJoined
import GoSem.ClaimMapViews
import Derived.JoinedTies
import Derived.KernelRfl
namespace Go.Proofs.YtmcmagplaflegaaGreat
/- THE CELL 'sum', in the pinned program and in every row, IS THE sha256 OF THE DUMP (.gsa) THAT YtmcmagplaflegaaGreatProg.lean LOADS. Nothing in Lean hashes anything: it is a label: what it is worth is what the hold of that sum in a sandbox is worth. -/
noncomputable def Tryz.pinned : Pinned := { name := "ytmcmagplaflegaagreat", sum := "def8ff628c6283141b5fd13061f1246d237c75428dd48cc3423cbd1eee546a9d", checked := Tryz.checked }
namespace Rows
def none {H : Type} : Left H := { results := [], args := [] }

/-- 'incunablelaw05.DiskNames': WHATEVER THE INPUT: true; the input reads as it did. -/
def diskNamesSpec : ChangeSpec := { name := "diskNames", fn := fun _ => fun
  | [] => { results := [.lit (.bool true)], args := [] }
  | _ => none }
def diskNamesRow : OpenClaim := { program := "ytmcmagplaflegaagreat", sum := "def8ff628c6283141b5fd13061f1246d237c75428dd48cc3423cbd1eee546a9d", func := "incunable/incunablelaw05.DiskNames", spec := "diskNames", inPlace := ["maps.clone", "internal/abi.NoEscape", "internal/bytealg.MakeNoZero"], unfollowed := true, recurses := true, apart := false }
def DiskNamesSaid : Prop := diskNamesRow.holds Tryz.pinned (OpenSpec.ofChange diskNamesSpec)

/-- ITS FALSE NEIGHBOUR: 'it returns false'. Refute it at one input. -/
def diskNamesWrong : ChangeSpec := { name := "diskNames", fn := fun _ => fun
  | [] => { results := [.lit (.bool false)], args := [] }
  | _ => none }
def DiskNamesWrongFalsely : Prop := diskNamesRow.holds Tryz.pinned (OpenSpec.ofChange diskNamesWrong)

/-- 'incunablelaw06.JournalRecords': WHATEVER THE INPUT: true; the input reads as it did. -/
def journalRecordsSpec : ChangeSpec := { name := "journalRecords", fn := fun _ => fun
  | [d1, d2, d3] => { results := [.lit (.bool true)], args := [d1, d2, d3] }
  | _ => none }
def journalRecordsRow : OpenClaim := { program := "ytmcmagplaflegaagreat", sum := "def8ff628c6283141b5fd13061f1246d237c75428dd48cc3423cbd1eee546a9d", func := "incunable/incunablelaw06.JournalRecords", spec := "journalRecords", inPlace := ["maps.clone"], unfollowed := true, recurses := true, apart := false }
def JournalRecordsSaid : Prop := journalRecordsRow.holds Tryz.pinned (OpenSpec.ofChange journalRecordsSpec)

/-- ITS FALSE NEIGHBOUR: 'it returns false'. Refute it at one input. -/
def journalRecordsWrong : ChangeSpec := { name := "journalRecords", fn := fun _ => fun
  | [d1, d2, d3] => { results := [.lit (.bool false)], args := [d1, d2, d3] }
  | _ => none }
def JournalRecordsWrongFalsely : Prop := journalRecordsRow.holds Tryz.pinned (OpenSpec.ofChange journalRecordsWrong)

/-- 'incunablelaw06.JournalReads': WHATEVER THE INPUT: true; the input reads as it did. -/
def journalReadsSpec : ChangeSpec := { name := "journalReads", fn := fun _ => fun
  | [d1, d2] => { results := [.lit (.bool true)], args := [d1, d2] }
  | _ => none }
def journalReadsRow : OpenClaim := { program := "ytmcmagplaflegaagreat", sum := "def8ff628c6283141b5fd13061f1246d237c75428dd48cc3423cbd1eee546a9d", func := "incunable/incunablelaw06.JournalReads", spec := "journalReads", inPlace := ["maps.clone"], unfollowed := true, recurses := true, apart := false }
def JournalReadsSaid : Prop := journalReadsRow.holds Tryz.pinned (OpenSpec.ofChange journalReadsSpec)

/-- ITS FALSE NEIGHBOUR: 'it returns false'. Refute it at one input. -/
def journalReadsWrong : ChangeSpec := { name := "journalReads", fn := fun _ => fun
  | [d1, d2] => { results := [.lit (.bool false)], args := [d1, d2] }
  | _ => none }
def JournalReadsWrongFalsely : Prop := journalReadsRow.holds Tryz.pinned (OpenSpec.ofChange journalReadsWrong)

/-- 'incunablelaw06.JournalTurned': WHATEVER THE INPUT: true; the input reads as it did. -/
def journalTurnedSpec : ChangeSpec := { name := "journalTurned", fn := fun _ => fun
  | [d1, d2, d3] => { results := [.lit (.bool true)], args := [d1, d2, d3] }
  | _ => none }
def journalTurnedRow : OpenClaim := { program := "ytmcmagplaflegaagreat", sum := "def8ff628c6283141b5fd13061f1246d237c75428dd48cc3423cbd1eee546a9d", func := "incunable/incunablelaw06.JournalTurned", spec := "journalTurned", inPlace := ["maps.clone"], unfollowed := true, recurses := true, apart := false }
def JournalTurnedSaid : Prop := journalTurnedRow.holds Tryz.pinned (OpenSpec.ofChange journalTurnedSpec)

/-- ITS FALSE NEIGHBOUR: 'it returns false'. Refute it at one input. -/
def journalTurnedWrong : ChangeSpec := { name := "journalTurned", fn := fun _ => fun
  | [d1, d2, d3] => { results := [.lit (.bool false)], args := [d1, d2, d3] }
  | _ => none }
def JournalTurnedWrongFalsely : Prop := journalTurnedRow.holds Tryz.pinned (OpenSpec.ofChange journalTurnedWrong)

/- THE SECOND FORM. 'bulk': how many values and letters a reading holds, each counted each time it is reached (what is shared counts as often as it is met; a slice's spare places count too). A statement '..UptoSaid' is the law's where the arguments, and the package variables that the reading takes, are together of bulk at most 1048576: NARROWER than '..Said'. Prove '..Said' where nothing that the law and all that it calls make is longer than what came in: it says more and counts as full. Else prove '..UptoSaid'. A law counts once. -/
mutual
def uptoBulk {H : Type} : DataW H → Nat
  | .lit (.string bytes) => bytes.length + 1
  | .lit _ => 1
  | .nil => 1
  | .ptr d => uptoBulk d + 1
  | .slice elems spare => uptoBulkAll elems + uptoBulkAll spare + 1
  | .agg parts => uptoBulkAll parts + 1
  | .iface _ d => uptoBulk d + 1
  | .map entries => uptoBulkEntries entries + 1
  | .held _ => 1
def uptoBulkAll {H : Type} : List (DataW H) → Nat
  | [] => 0
  | d :: r => uptoBulk d + uptoBulkAll r
def uptoBulkEntries {H : Type} : List (Lit × DataW H) → Nat
  | [] => 0
  | x :: r => uptoBulkEntry x + uptoBulkEntries r
def uptoBulkEntry {H : Type} : Lit × DataW H → Nat
  | (.string bytes, d) => bytes.length + uptoBulk d + 1
  | (_, d) => uptoBulk d + 1
 end
def uptoSmall : (H : Type) → List (DataW H) → Bool := fun _ ds => decide (uptoBulkAll ds ≤ 1048576)
def OpenSpec.upto (s : _root_.Go.ChangeSpec) : _root_.Go.OpenSpec := { _root_.Go.OpenSpec.ofChange s with cond := some uptoSmall }

/-- 'incunablelaw05.DiskNames', WHERE WHAT IT READS IS OF BULK AT MOST 1048576: true; the input reads as it did. -/
def diskNamesUptoRow : OpenClaim := { program := "ytmcmagplaflegaagreat", sum := "def8ff628c6283141b5fd13061f1246d237c75428dd48cc3423cbd1eee546a9d", func := "incunable/incunablelaw05.DiskNames", spec := "diskNames", inPlace := ["maps.clone", "internal/abi.NoEscape", "internal/bytealg.MakeNoZero"], unfollowed := true, recurses := true, apart := false, narrowed := true }
def DiskNamesUptoSaid : Prop := diskNamesUptoRow.holds Tryz.pinned (OpenSpec.upto diskNamesSpec)

/-- 'incunablelaw06.JournalRecords', WHERE WHAT IT READS IS OF BULK AT MOST 1048576: true; the input reads as it did. -/
def journalRecordsUptoRow : OpenClaim := { program := "ytmcmagplaflegaagreat", sum := "def8ff628c6283141b5fd13061f1246d237c75428dd48cc3423cbd1eee546a9d", func := "incunable/incunablelaw06.JournalRecords", spec := "journalRecords", inPlace := ["maps.clone"], unfollowed := true, recurses := true, apart := false, narrowed := true }
def JournalRecordsUptoSaid : Prop := journalRecordsUptoRow.holds Tryz.pinned (OpenSpec.upto journalRecordsSpec)

/-- 'incunablelaw06.JournalReads', WHERE WHAT IT READS IS OF BULK AT MOST 1048576: true; the input reads as it did. -/
def journalReadsUptoRow : OpenClaim := { program := "ytmcmagplaflegaagreat", sum := "def8ff628c6283141b5fd13061f1246d237c75428dd48cc3423cbd1eee546a9d", func := "incunable/incunablelaw06.JournalReads", spec := "journalReads", inPlace := ["maps.clone"], unfollowed := true, recurses := true, apart := false, narrowed := true }
def JournalReadsUptoSaid : Prop := journalReadsUptoRow.holds Tryz.pinned (OpenSpec.upto journalReadsSpec)

/-- 'incunablelaw06.JournalTurned', WHERE WHAT IT READS IS OF BULK AT MOST 1048576: true; the input reads as it did. -/
def journalTurnedUptoRow : OpenClaim := { program := "ytmcmagplaflegaagreat", sum := "def8ff628c6283141b5fd13061f1246d237c75428dd48cc3423cbd1eee546a9d", func := "incunable/incunablelaw06.JournalTurned", spec := "journalTurned", inPlace := ["maps.clone"], unfollowed := true, recurses := true, apart := false, narrowed := true }
def JournalTurnedUptoSaid : Prop := journalTurnedUptoRow.holds Tryz.pinned (OpenSpec.upto journalTurnedSpec)

end Rows
end Go.Proofs.YtmcmagplaflegaaGreat
