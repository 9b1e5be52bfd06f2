/-
  No cell of these rows narrows 'for every input' (looked for: loops, veiled, ifaces, maps, wideKeys, modest, calm, conditions, laid).
  DERIVED. THE GIVEN ROWS OF THIS SEAT. 8 by the template 'for every input the law returns true; each argument reads behind the call as it read before'; 0 by the template 'total and deterministic' (their statements: YtjedleoebjmkgaaTotals.lean).
  GIVEN WITH THE SEED: the statements are not yours to turn. If you find one false, say at which input.
  Laid BY PROGRAM, IN A SANDBOX (cutbox-rows.mjs): the forced cells as the released guide's own fill.sh prints them over the translation c458a448ee50cbe0… (all of the seat's roots in one cut). By AI agents, Wed Nov 11 2026. No macro, syntax, notation, axiom, sorry.
-/
import Derived.Test.YtjedleoebjmkgaaChecked
import GoSem.Claim
import GoSem.ClaimJoined
import GoSem.ClaimMapViews
import Derived.JoinedTies
import Derived.KernelRfl
namespace Go.Proofs.Ytjedleoebjmkgaa
/- THE CELL 'sum', in the pinned program and in every row, IS THE sha256 OF THE DUMP (.gsa) THAT YtjedleoebjmkgaaProg.lean LOADS. Nothing in Lean hashes anything: it is a label: what it is worth is what the hold of that sum in a sandbox is worth. -/
noncomputable def Try.pinned : Pinned := { name := "ytjedleoebjmkgaa", sum := "c458a448ee50cbe09a0a45620bf00b812637d4db578bb4aaef65d5e79005f06b", checked := Try.checked }
namespace Rows
def none {H : Type} : Left H := { results := [], args := [] }

/-- 'vellumlaw18.ValidAsks': WHATEVER THE INPUT: true; the input reads as it did. -/
def validAsksSpec : ChangeSpec := { name := "validAsks", fn := fun _ => fun
  | [d1, d2, d3] => { results := [.lit (.bool true)], args := [d1, d2, d3] }
  | _ => none }
def validAsksRow : OpenClaim := { program := "ytjedleoebjmkgaa", sum := "c458a448ee50cbe09a0a45620bf00b812637d4db578bb4aaef65d5e79005f06b", func := "vellum/vellumlaw18.ValidAsks", spec := "validAsks", inPlace := ["internal/bytealg.abigen_runtime_cmpstring"], unfollowed := true, recurses := true, plainKeys := false, apart := false }
def ValidAsksSaid : Prop := validAsksRow.holds Try.pinned (OpenSpec.ofChange validAsksSpec)

/-- ITS FALSE NEIGHBOUR: 'it returns false'. Refute it at one input. -/
def validAsksWrong : ChangeSpec := { name := "validAsks", fn := fun _ => fun
  | [d1, d2, d3] => { results := [.lit (.bool false)], args := [d1, d2, d3] }
  | _ => none }
def ValidAsksWrongFalsely : Prop := validAsksRow.holds Try.pinned (OpenSpec.ofChange validAsksWrong)

/-- 'vellumlaw18.ValidNotes': WHATEVER THE INPUT: true; the input reads as it did. -/
def validNotesSpec : ChangeSpec := { name := "validNotes", fn := fun _ => fun
  | [d1, d2] => { results := [.lit (.bool true)], args := [d1, d2] }
  | _ => none }
def validNotesRow : OpenClaim := { program := "ytjedleoebjmkgaa", sum := "c458a448ee50cbe09a0a45620bf00b812637d4db578bb4aaef65d5e79005f06b", func := "vellum/vellumlaw18.ValidNotes", spec := "validNotes", inPlace := ["internal/bytealg.abigen_runtime_cmpstring"], unfollowed := true, recurses := true, plainKeys := false, apart := false }
def ValidNotesSaid : Prop := validNotesRow.holds Try.pinned (OpenSpec.ofChange validNotesSpec)

/-- ITS FALSE NEIGHBOUR: 'it returns false'. Refute it at one input. -/
def validNotesWrong : ChangeSpec := { name := "validNotes", fn := fun _ => fun
  | [d1, d2] => { results := [.lit (.bool false)], args := [d1, d2] }
  | _ => none }
def ValidNotesWrongFalsely : Prop := validNotesRow.holds Try.pinned (OpenSpec.ofChange validNotesWrong)

/-- 'vellumlaw18.ValidLess': WHATEVER THE INPUT: true; the input reads as it did. -/
def validLessSpec : ChangeSpec := { name := "validLess", fn := fun _ => fun
  | [d1, d2, d3] => { results := [.lit (.bool true)], args := [d1, d2, d3] }
  | _ => none }
def validLessRow : OpenClaim := { program := "ytjedleoebjmkgaa", sum := "c458a448ee50cbe09a0a45620bf00b812637d4db578bb4aaef65d5e79005f06b", func := "vellum/vellumlaw18.ValidLess", spec := "validLess", inPlace := ["internal/bytealg.abigen_runtime_cmpstring"], unfollowed := true, recurses := true, plainKeys := false, apart := false }
def ValidLessSaid : Prop := validLessRow.holds Try.pinned (OpenSpec.ofChange validLessSpec)

/-- ITS FALSE NEIGHBOUR: 'it returns false'. Refute it at one input. -/
def validLessWrong : ChangeSpec := { name := "validLess", fn := fun _ => fun
  | [d1, d2, d3] => { results := [.lit (.bool false)], args := [d1, d2, d3] }
  | _ => none }
def ValidLessWrongFalsely : Prop := validLessRow.holds Try.pinned (OpenSpec.ofChange validLessWrong)

/-- 'vellumlaw18.ValidTrims': WHATEVER THE INPUT: true; the input reads as it did. -/
def validTrimsSpec : ChangeSpec := { name := "validTrims", fn := fun _ => fun
  | [d1, d2, d3] => { results := [.lit (.bool true)], args := [d1, d2, d3] }
  | _ => none }
def validTrimsRow : OpenClaim := { program := "ytjedleoebjmkgaa", sum := "c458a448ee50cbe09a0a45620bf00b812637d4db578bb4aaef65d5e79005f06b", func := "vellum/vellumlaw18.ValidTrims", spec := "validTrims", inPlace := ["internal/bytealg.abigen_runtime_cmpstring"], unfollowed := true, recurses := true, plainKeys := false, apart := false }
def ValidTrimsSaid : Prop := validTrimsRow.holds Try.pinned (OpenSpec.ofChange validTrimsSpec)

/-- ITS FALSE NEIGHBOUR: 'it returns false'. Refute it at one input. -/
def validTrimsWrong : ChangeSpec := { name := "validTrims", fn := fun _ => fun
  | [d1, d2, d3] => { results := [.lit (.bool false)], args := [d1, d2, d3] }
  | _ => none }
def ValidTrimsWrongFalsely : Prop := validTrimsRow.holds Try.pinned (OpenSpec.ofChange validTrimsWrong)

/-- 'vellumlaw18.ValidTries': WHATEVER THE INPUT: true; the input reads as it did. -/
def validTriesSpec : ChangeSpec := { name := "validTries", fn := fun _ => fun
  | [d1, d2] => { results := [.lit (.bool true)], args := [d1, d2] }
  | _ => none }
def validTriesRow : OpenClaim := { program := "ytjedleoebjmkgaa", sum := "c458a448ee50cbe09a0a45620bf00b812637d4db578bb4aaef65d5e79005f06b", func := "vellum/vellumlaw18.ValidTries", spec := "validTries", inPlace := ["internal/bytealg.abigen_runtime_cmpstring"], unfollowed := true, recurses := true, plainKeys := false, apart := false }
def ValidTriesSaid : Prop := validTriesRow.holds Try.pinned (OpenSpec.ofChange validTriesSpec)

/-- ITS FALSE NEIGHBOUR: 'it returns false'. Refute it at one input. -/
def validTriesWrong : ChangeSpec := { name := "validTries", fn := fun _ => fun
  | [d1, d2] => { results := [.lit (.bool false)], args := [d1, d2] }
  | _ => none }
def ValidTriesWrongFalsely : Prop := validTriesRow.holds Try.pinned (OpenSpec.ofChange validTriesWrong)

/-- 'vellumlaw18.ValidNobody': WHATEVER THE INPUT: true; the input reads as it did. -/
def validNobodySpec : ChangeSpec := { name := "validNobody", fn := fun _ => fun
  | [d1, d2, d3] => { results := [.lit (.bool true)], args := [d1, d2, d3] }
  | _ => none }
def validNobodyRow : OpenClaim := { program := "ytjedleoebjmkgaa", sum := "c458a448ee50cbe09a0a45620bf00b812637d4db578bb4aaef65d5e79005f06b", func := "vellum/vellumlaw18.ValidNobody", spec := "validNobody", inPlace := ["internal/bytealg.abigen_runtime_cmpstring"], unfollowed := true, recurses := true, plainKeys := false, apart := false }
def ValidNobodySaid : Prop := validNobodyRow.holds Try.pinned (OpenSpec.ofChange validNobodySpec)

/-- ITS FALSE NEIGHBOUR: 'it returns false'. Refute it at one input. -/
def validNobodyWrong : ChangeSpec := { name := "validNobody", fn := fun _ => fun
  | [d1, d2, d3] => { results := [.lit (.bool false)], args := [d1, d2, d3] }
  | _ => none }
def ValidNobodyWrongFalsely : Prop := validNobodyRow.holds Try.pinned (OpenSpec.ofChange validNobodyWrong)

/-- 'vellumlaw18.ValidSchedules': WHATEVER THE INPUT: true; the input reads as it did. -/
def validSchedulesSpec : ChangeSpec := { name := "validSchedules", fn := fun _ => fun
  | [d1, d2] => { results := [.lit (.bool true)], args := [d1, d2] }
  | _ => none }
def validSchedulesRow : OpenClaim := { program := "ytjedleoebjmkgaa", sum := "c458a448ee50cbe09a0a45620bf00b812637d4db578bb4aaef65d5e79005f06b", func := "vellum/vellumlaw18.ValidSchedules", spec := "validSchedules", inPlace := ["internal/bytealg.abigen_runtime_cmpstring"], unfollowed := true, recurses := true, plainKeys := false, apart := false }
def ValidSchedulesSaid : Prop := validSchedulesRow.holds Try.pinned (OpenSpec.ofChange validSchedulesSpec)

/-- ITS FALSE NEIGHBOUR: 'it returns false'. Refute it at one input. -/
def validSchedulesWrong : ChangeSpec := { name := "validSchedules", fn := fun _ => fun
  | [d1, d2] => { results := [.lit (.bool false)], args := [d1, d2] }
  | _ => none }
def ValidSchedulesWrongFalsely : Prop := validSchedulesRow.holds Try.pinned (OpenSpec.ofChange validSchedulesWrong)

/-- 'vellumlaw18.ValidSerial': WHATEVER THE INPUT: true; the input reads as it did. -/
def validSerialSpec : ChangeSpec := { name := "validSerial", fn := fun _ => fun
  | [d1, d2] => { results := [.lit (.bool true)], args := [d1, d2] }
  | _ => none }
def validSerialRow : OpenClaim := { program := "ytjedleoebjmkgaa", sum := "c458a448ee50cbe09a0a45620bf00b812637d4db578bb4aaef65d5e79005f06b", func := "vellum/vellumlaw18.ValidSerial", spec := "validSerial", inPlace := ["internal/bytealg.abigen_runtime_cmpstring"], unfollowed := true, recurses := true, plainKeys := false, apart := false }
def ValidSerialSaid : Prop := validSerialRow.holds Try.pinned (OpenSpec.ofChange validSerialSpec)

/-- ITS FALSE NEIGHBOUR: 'it returns false'. Refute it at one input. -/
def validSerialWrong : ChangeSpec := { name := "validSerial", fn := fun _ => fun
  | [d1, d2] => { results := [.lit (.bool false)], args := [d1, d2] }
  | _ => none }
def ValidSerialWrongFalsely : Prop := validSerialRow.holds Try.pinned (OpenSpec.ofChange validSerialWrong)

/- THE SECOND FORM. 'bulk': how many values and letters a reading holds, each counted each time it is reached (what is shared counts as often as it is met; a slice's spare places count too). A statement '..UptoSaid' is the law's where the arguments, and the package variables that the reading takes, are together of bulk at most 1048576: NARROWER than '..Said'. Prove '..Said' where nothing that the law and all that it calls make is longer than what came in: it says more and counts as full. Else prove '..UptoSaid'. A law counts once. -/
mutual
def uptoBulk {H : Type} : DataW H → Nat
  | .lit (.string bytes) => bytes.length + 1
  | .lit _ => 1
  | .nil => 1
  | .ptr d => uptoBulk d + 1
  | .slice elems spare => uptoBulkAll elems + uptoBulkAll spare + 1
  | .agg parts => uptoBulkAll parts + 1
  | .iface _ d => uptoBulk d + 1
  | .map entries => uptoBulkEntries entries + 1
  | .held _ => 1
def uptoBulkAll {H : Type} : List (DataW H) → Nat
  | [] => 0
  | d :: r => uptoBulk d + uptoBulkAll r
def uptoBulkEntries {H : Type} : List (Lit × DataW H) → Nat
  | [] => 0
  | x :: r => uptoBulkEntry x + uptoBulkEntries r
def uptoBulkEntry {H : Type} : Lit × DataW H → Nat
  | (.string bytes, d) => bytes.length + uptoBulk d + 1
  | (_, d) => uptoBulk d + 1
 end
def uptoSmall : (H : Type) → List (DataW H) → Bool := fun _ ds => decide (uptoBulkAll ds ≤ 1048576)
def OpenSpec.upto (s : _root_.Go.ChangeSpec) : _root_.Go.OpenSpec := { _root_.Go.OpenSpec.ofChange s with cond := some uptoSmall }

/-- 'vellumlaw18.ValidAsks', WHERE WHAT IT READS IS OF BULK AT MOST 1048576: true; the input reads as it did. -/
def validAsksUptoRow : OpenClaim := { program := "ytjedleoebjmkgaa", sum := "c458a448ee50cbe09a0a45620bf00b812637d4db578bb4aaef65d5e79005f06b", func := "vellum/vellumlaw18.ValidAsks", spec := "validAsks", inPlace := ["internal/bytealg.abigen_runtime_cmpstring"], unfollowed := true, recurses := true, plainKeys := false, apart := false, narrowed := true }
def ValidAsksUptoSaid : Prop := validAsksUptoRow.holds Try.pinned (OpenSpec.upto validAsksSpec)

/-- 'vellumlaw18.ValidNotes', WHERE WHAT IT READS IS OF BULK AT MOST 1048576: true; the input reads as it did. -/
def validNotesUptoRow : OpenClaim := { program := "ytjedleoebjmkgaa", sum := "c458a448ee50cbe09a0a45620bf00b812637d4db578bb4aaef65d5e79005f06b", func := "vellum/vellumlaw18.ValidNotes", spec := "validNotes", inPlace := ["internal/bytealg.abigen_runtime_cmpstring"], unfollowed := true, recurses := true, plainKeys := false, apart := false, narrowed := true }
def ValidNotesUptoSaid : Prop := validNotesUptoRow.holds Try.pinned (OpenSpec.upto validNotesSpec)

/-- 'vellumlaw18.ValidLess', WHERE WHAT IT READS IS OF BULK AT MOST 1048576: true; the input reads as it did. -/
def validLessUptoRow : OpenClaim := { program := "ytjedleoebjmkgaa", sum := "c458a448ee50cbe09a0a45620bf00b812637d4db578bb4aaef65d5e79005f06b", func := "vellum/vellumlaw18.ValidLess", spec := "validLess", inPlace := ["internal/bytealg.abigen_runtime_cmpstring"], unfollowed := true, recurses := true, plainKeys := false, apart := false, narrowed := true }
def ValidLessUptoSaid : Prop := validLessUptoRow.holds Try.pinned (OpenSpec.upto validLessSpec)

/-- 'vellumlaw18.ValidTrims', WHERE WHAT IT READS IS OF BULK AT MOST 1048576: true; the input reads as it did. -/
def validTrimsUptoRow : OpenClaim := { program := "ytjedleoebjmkgaa", sum := "c458a448ee50cbe09a0a45620bf00b812637d4db578bb4aaef65d5e79005f06b", func := "vellum/vellumlaw18.ValidTrims", spec := "validTrims", inPlace := ["internal/bytealg.abigen_runtime_cmpstring"], unfollowed := true, recurses := true, plainKeys := false, apart := false, narrowed := true }
def ValidTrimsUptoSaid : Prop := validTrimsUptoRow.holds Try.pinned (OpenSpec.upto validTrimsSpec)

/-- 'vellumlaw18.ValidTries', WHERE WHAT IT READS IS OF BULK AT MOST 1048576: true; the input reads as it did. -/
def validTriesUptoRow : OpenClaim := { program := "ytjedleoebjmkgaa", sum := "c458a448ee50cbe09a0a45620bf00b812637d4db578bb4aaef65d5e79005f06b", func := "vellum/vellumlaw18.ValidTries", spec := "validTries", inPlace := ["internal/bytealg.abigen_runtime_cmpstring"], unfollowed := true, recurses := true, plainKeys := false, apart := false, narrowed := true }
def ValidTriesUptoSaid : Prop := validTriesUptoRow.holds Try.pinned (OpenSpec.upto validTriesSpec)

/-- 'vellumlaw18.ValidNobody', WHERE WHAT IT READS IS OF BULK AT MOST 1048576: true; the input reads as it did. -/
def validNobodyUptoRow : OpenClaim := { program := "ytjedleoebjmkgaa", sum := "c458a448ee50cbe09a0a45620bf00b812637d4db578bb4aaef65d5e79005f06b", func := "vellum/vellumlaw18.ValidNobody", spec := "validNobody", inPlace := ["internal/bytealg.abigen_runtime_cmpstring"], unfollowed := true, recurses := true, plainKeys := false, apart := false, narrowed := true }
def ValidNobodyUptoSaid : Prop := validNobodyUptoRow.holds Try.pinned (OpenSpec.upto validNobodySpec)

/-- 'vellumlaw18.ValidSchedules', WHERE WHAT IT READS IS OF BULK AT MOST 1048576: true; the input reads as it did. -/
def validSchedulesUptoRow : OpenClaim := { program := "ytjedleoebjmkgaa", sum := "c458a448ee50cbe09a0a45620bf00b812637d4db578bb4aaef65d5e79005f06b", func := "vellum/vellumlaw18.ValidSchedules", spec := "validSchedules", inPlace := ["internal/bytealg.abigen_runtime_cmpstring"], unfollowed := true, recurses := true, plainKeys := false, apart := false, narrowed := true }
def ValidSchedulesUptoSaid : Prop := validSchedulesUptoRow.holds Try.pinned (OpenSpec.upto validSchedulesSpec)

/-- 'vellumlaw18.ValidSerial', WHERE WHAT IT READS IS OF BULK AT MOST 1048576: true; the input reads as it did. -/
def validSerialUptoRow : OpenClaim := { program := "ytjedleoebjmkgaa", sum := "c458a448ee50cbe09a0a45620bf00b812637d4db578bb4aaef65d5e79005f06b", func := "vellum/vellumlaw18.ValidSerial", spec := "validSerial", inPlace := ["internal/bytealg.abigen_runtime_cmpstring"], unfollowed := true, recurses := true, plainKeys := false, apart := false, narrowed := true }
def ValidSerialUptoSaid : Prop := validSerialUptoRow.holds Try.pinned (OpenSpec.upto validSerialSpec)

end Rows
end Go.Proofs.Ytjedleoebjmkgaa
