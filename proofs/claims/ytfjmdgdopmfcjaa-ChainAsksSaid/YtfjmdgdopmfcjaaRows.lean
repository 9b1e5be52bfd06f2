/-
  No cell of these rows narrows 'for every input' (looked for: loops, veiled, ifaces, maps, wideKeys, modest, calm, conditions, laid).
  DERIVED. THE GIVEN ROWS OF THIS SEAT. 9 by the template 'for every input the law returns true; each argument reads behind the call as it read before'; 0 by the template 'total and deterministic' (their statements: YtfjmdgdopmfcjaaTotals.lean).
  GIVEN WITH THE SEED: the statements are not yours to turn. If you find one false, say at which input.
  Laid BY PROGRAM, IN A SANDBOX (cutbox-rows.mjs): the forced cells as the released guide's own fill.sh prints them over the translation 9df7bdd4a969c853… (all of the seat's roots in one cut). By AI agents, Wed Nov 11 2026. No macro, syntax, notation, axiom, sorry.
-/
import Derived.Test.YtfjmdgdopmfcjaaChecked
import GoSem.Claim
import GoSem.ClaimJoined
import GoSem.ClaimMapViews
import Derived.JoinedTies
import Derived.KernelRfl
namespace Go.Proofs.Ytfjmdgdopmfcjaa
/- THE CELL 'sum', in the pinned program and in every row, IS THE sha256 OF THE DUMP (.gsa) THAT YtfjmdgdopmfcjaaProg.lean LOADS. Nothing in Lean hashes anything: it is a label: what it is worth is what the hold of that sum in a sandbox is worth. -/
noncomputable def Try.pinned : Pinned := { name := "ytfjmdgdopmfcjaa", sum := "9df7bdd4a969c853a5cfb662d98d398c1185c2f484d5c066c14c0a8c3a5b9315", checked := Try.checked }
namespace Rows
def none {H : Type} : Left H := { results := [], args := [] }

/-- 'vellumlaw08.ChainLives': WHATEVER THE INPUT: true; the input reads as it did. -/
def chainLivesSpec : ChangeSpec := { name := "chainLives", fn := fun _ => fun
  | [d1, d2] => { results := [.lit (.bool true)], args := [d1, d2] }
  | _ => none }
def chainLivesRow : OpenClaim := { program := "ytfjmdgdopmfcjaa", sum := "9df7bdd4a969c853a5cfb662d98d398c1185c2f484d5c066c14c0a8c3a5b9315", func := "vellum/vellumlaw08.ChainLives", spec := "chainLives", unfollowed := true, recurses := true, apart := false }
def ChainLivesSaid : Prop := chainLivesRow.holds Try.pinned (OpenSpec.ofChange chainLivesSpec)

/-- ITS FALSE NEIGHBOUR: 'it returns false'. Refute it at one input. -/
def chainLivesWrong : ChangeSpec := { name := "chainLives", fn := fun _ => fun
  | [d1, d2] => { results := [.lit (.bool false)], args := [d1, d2] }
  | _ => none }
def ChainLivesWrongFalsely : Prop := chainLivesRow.holds Try.pinned (OpenSpec.ofChange chainLivesWrong)

/-- 'vellumlaw08.ChainSees': WHATEVER THE INPUT: true; the input reads as it did. -/
def chainSeesSpec : ChangeSpec := { name := "chainSees", fn := fun _ => fun
  | [d1, d2, d3] => { results := [.lit (.bool true)], args := [d1, d2, d3] }
  | _ => none }
def chainSeesRow : OpenClaim := { program := "ytfjmdgdopmfcjaa", sum := "9df7bdd4a969c853a5cfb662d98d398c1185c2f484d5c066c14c0a8c3a5b9315", func := "vellum/vellumlaw08.ChainSees", spec := "chainSees", inPlace := ["math.Float64bits"], unfollowed := true, recurses := true, apart := false }
def ChainSeesSaid : Prop := chainSeesRow.holds Try.pinned (OpenSpec.ofChange chainSeesSpec)

/-- ITS FALSE NEIGHBOUR: 'it returns false'. Refute it at one input. -/
def chainSeesWrong : ChangeSpec := { name := "chainSees", fn := fun _ => fun
  | [d1, d2, d3] => { results := [.lit (.bool false)], args := [d1, d2, d3] }
  | _ => none }
def ChainSeesWrongFalsely : Prop := chainSeesRow.holds Try.pinned (OpenSpec.ofChange chainSeesWrong)

/-- 'vellumlaw08.ChainPrunes': WHATEVER THE INPUT: true; the input reads as it did. -/
def chainPrunesSpec : ChangeSpec := { name := "chainPrunes", fn := fun _ => fun
  | [d1, d2] => { results := [.lit (.bool true)], args := [d1, d2] }
  | _ => none }
def chainPrunesRow : OpenClaim := { program := "ytfjmdgdopmfcjaa", sum := "9df7bdd4a969c853a5cfb662d98d398c1185c2f484d5c066c14c0a8c3a5b9315", func := "vellum/vellumlaw08.ChainPrunes", spec := "chainPrunes", inPlace := ["math.Float64bits"], unfollowed := true, recurses := true, apart := false }
def ChainPrunesSaid : Prop := chainPrunesRow.holds Try.pinned (OpenSpec.ofChange chainPrunesSpec)

/-- ITS FALSE NEIGHBOUR: 'it returns false'. Refute it at one input. -/
def chainPrunesWrong : ChangeSpec := { name := "chainPrunes", fn := fun _ => fun
  | [d1, d2] => { results := [.lit (.bool false)], args := [d1, d2] }
  | _ => none }
def ChainPrunesWrongFalsely : Prop := chainPrunesRow.holds Try.pinned (OpenSpec.ofChange chainPrunesWrong)

/-- 'vellumlaw08.ChainAsks': WHATEVER THE INPUT: true; the input reads as it did. -/
def chainAsksSpec : ChangeSpec := { name := "chainAsks", fn := fun _ => fun
  | [d1, d2, d3] => { results := [.lit (.bool true)], args := [d1, d2, d3] }
  | _ => none }
def chainAsksRow : OpenClaim := { program := "ytfjmdgdopmfcjaa", sum := "9df7bdd4a969c853a5cfb662d98d398c1185c2f484d5c066c14c0a8c3a5b9315", func := "vellum/vellumlaw08.ChainAsks", spec := "chainAsks", unfollowed := true, recurses := true, apart := false }
def ChainAsksSaid : Prop := chainAsksRow.holds Try.pinned (OpenSpec.ofChange chainAsksSpec)

/-- ITS FALSE NEIGHBOUR: 'it returns false'. Refute it at one input. -/
def chainAsksWrong : ChangeSpec := { name := "chainAsks", fn := fun _ => fun
  | [d1, d2, d3] => { results := [.lit (.bool false)], args := [d1, d2, d3] }
  | _ => none }
def ChainAsksWrongFalsely : Prop := chainAsksRow.holds Try.pinned (OpenSpec.ofChange chainAsksWrong)

/-- 'vellumlaw08.ChainInstalls': WHATEVER THE INPUT: true; the input reads as it did. -/
def chainInstallsSpec : ChangeSpec := { name := "chainInstalls", fn := fun _ => fun
  | [d1, d2] => { results := [.lit (.bool true)], args := [d1, d2] }
  | _ => none }
def chainInstallsRow : OpenClaim := { program := "ytfjmdgdopmfcjaa", sum := "9df7bdd4a969c853a5cfb662d98d398c1185c2f484d5c066c14c0a8c3a5b9315", func := "vellum/vellumlaw08.ChainInstalls", spec := "chainInstalls", inPlace := ["math.Float64bits"], unfollowed := true, recurses := true, apart := false }
def ChainInstallsSaid : Prop := chainInstallsRow.holds Try.pinned (OpenSpec.ofChange chainInstallsSpec)

/-- ITS FALSE NEIGHBOUR: 'it returns false'. Refute it at one input. -/
def chainInstallsWrong : ChangeSpec := { name := "chainInstalls", fn := fun _ => fun
  | [d1, d2] => { results := [.lit (.bool false)], args := [d1, d2] }
  | _ => none }
def ChainInstallsWrongFalsely : Prop := chainInstallsRow.holds Try.pinned (OpenSpec.ofChange chainInstallsWrong)

/-- 'vellumlaw08.ChainKeeps': WHATEVER THE INPUT: true; the input reads as it did. -/
def chainKeepsSpec : ChangeSpec := { name := "chainKeeps", fn := fun _ => fun
  | [d1, d2, d3] => { results := [.lit (.bool true)], args := [d1, d2, d3] }
  | _ => none }
def chainKeepsRow : OpenClaim := { program := "ytfjmdgdopmfcjaa", sum := "9df7bdd4a969c853a5cfb662d98d398c1185c2f484d5c066c14c0a8c3a5b9315", func := "vellum/vellumlaw08.ChainKeeps", spec := "chainKeeps", inPlace := ["math.Float64bits"], unfollowed := true, recurses := true, apart := false }
def ChainKeepsSaid : Prop := chainKeepsRow.holds Try.pinned (OpenSpec.ofChange chainKeepsSpec)

/-- ITS FALSE NEIGHBOUR: 'it returns false'. Refute it at one input. -/
def chainKeepsWrong : ChangeSpec := { name := "chainKeeps", fn := fun _ => fun
  | [d1, d2, d3] => { results := [.lit (.bool false)], args := [d1, d2, d3] }
  | _ => none }
def ChainKeepsWrongFalsely : Prop := chainKeepsRow.holds Try.pinned (OpenSpec.ofChange chainKeepsWrong)

/-- 'vellumlaw08.ChainWrites': WHATEVER THE INPUT: true; the input reads as it did. -/
def chainWritesSpec : ChangeSpec := { name := "chainWrites", fn := fun _ => fun
  | [d] => { results := [.lit (.bool true)], args := [d] }
  | _ => none }
def chainWritesRow : OpenClaim := { program := "ytfjmdgdopmfcjaa", sum := "9df7bdd4a969c853a5cfb662d98d398c1185c2f484d5c066c14c0a8c3a5b9315", func := "vellum/vellumlaw08.ChainWrites", spec := "chainWrites", inPlace := ["math.Float64bits"], unfollowed := true, recurses := true, apart := false }
def ChainWritesSaid : Prop := chainWritesRow.holds Try.pinned (OpenSpec.ofChange chainWritesSpec)

/-- ITS FALSE NEIGHBOUR: 'it returns false'. Refute it at one input. -/
def chainWritesWrong : ChangeSpec := { name := "chainWrites", fn := fun _ => fun
  | [d] => { results := [.lit (.bool false)], args := [d] }
  | _ => none }
def ChainWritesWrongFalsely : Prop := chainWritesRow.holds Try.pinned (OpenSpec.ofChange chainWritesWrong)

/-- 'vellumlaw08.ChainSaves': WHATEVER THE INPUT: true; the input reads as it did. -/
def chainSavesSpec : ChangeSpec := { name := "chainSaves", fn := fun _ => fun
  | [d1, d2, d3] => { results := [.lit (.bool true)], args := [d1, d2, d3] }
  | _ => none }
def chainSavesRow : OpenClaim := { program := "ytfjmdgdopmfcjaa", sum := "9df7bdd4a969c853a5cfb662d98d398c1185c2f484d5c066c14c0a8c3a5b9315", func := "vellum/vellumlaw08.ChainSaves", spec := "chainSaves", inPlace := ["math.Float64bits"], unfollowed := true, recurses := true, apart := false }
def ChainSavesSaid : Prop := chainSavesRow.holds Try.pinned (OpenSpec.ofChange chainSavesSpec)

/-- ITS FALSE NEIGHBOUR: 'it returns false'. Refute it at one input. -/
def chainSavesWrong : ChangeSpec := { name := "chainSaves", fn := fun _ => fun
  | [d1, d2, d3] => { results := [.lit (.bool false)], args := [d1, d2, d3] }
  | _ => none }
def ChainSavesWrongFalsely : Prop := chainSavesRow.holds Try.pinned (OpenSpec.ofChange chainSavesWrong)

/-- 'vellumlaw08.ChainOwn': WHATEVER THE INPUT: true; the input reads as it did. -/
def chainOwnSpec : ChangeSpec := { name := "chainOwn", fn := fun _ => fun
  | [d1, d2, d3] => { results := [.lit (.bool true)], args := [d1, d2, d3] }
  | _ => none }
def chainOwnRow : OpenClaim := { program := "ytfjmdgdopmfcjaa", sum := "9df7bdd4a969c853a5cfb662d98d398c1185c2f484d5c066c14c0a8c3a5b9315", func := "vellum/vellumlaw08.ChainOwn", spec := "chainOwn", inPlace := ["math.Float64bits"], unfollowed := true, recurses := true, apart := false }
def ChainOwnSaid : Prop := chainOwnRow.holds Try.pinned (OpenSpec.ofChange chainOwnSpec)

/-- ITS FALSE NEIGHBOUR: 'it returns false'. Refute it at one input. -/
def chainOwnWrong : ChangeSpec := { name := "chainOwn", fn := fun _ => fun
  | [d1, d2, d3] => { results := [.lit (.bool false)], args := [d1, d2, d3] }
  | _ => none }
def ChainOwnWrongFalsely : Prop := chainOwnRow.holds Try.pinned (OpenSpec.ofChange chainOwnWrong)

/- THE SECOND FORM. 'bulk': how many values and letters a reading holds, each counted each time it is reached (what is shared counts as often as it is met; a slice's spare places count too). A statement '..UptoSaid' is the law's where the arguments, and the package variables that the reading takes, are together of bulk at most 1048576: NARROWER than '..Said'. Prove '..Said' where nothing that the law and all that it calls make is longer than what came in: it says more and counts as full. Else prove '..UptoSaid'. A law counts once. -/
mutual
def uptoBulk {H : Type} : DataW H → Nat
  | .lit (.string bytes) => bytes.length + 1
  | .lit _ => 1
  | .nil => 1
  | .ptr d => uptoBulk d + 1
  | .slice elems spare => uptoBulkAll elems + uptoBulkAll spare + 1
  | .agg parts => uptoBulkAll parts + 1
  | .iface _ d => uptoBulk d + 1
  | .map entries => uptoBulkEntries entries + 1
  | .held _ => 1
def uptoBulkAll {H : Type} : List (DataW H) → Nat
  | [] => 0
  | d :: r => uptoBulk d + uptoBulkAll r
def uptoBulkEntries {H : Type} : List (Lit × DataW H) → Nat
  | [] => 0
  | x :: r => uptoBulkEntry x + uptoBulkEntries r
def uptoBulkEntry {H : Type} : Lit × DataW H → Nat
  | (.string bytes, d) => bytes.length + uptoBulk d + 1
  | (_, d) => uptoBulk d + 1
 end
def uptoSmall : (H : Type) → List (DataW H) → Bool := fun _ ds => decide (uptoBulkAll ds ≤ 1048576)
def OpenSpec.upto (s : _root_.Go.ChangeSpec) : _root_.Go.OpenSpec := { _root_.Go.OpenSpec.ofChange s with cond := some uptoSmall }

/-- 'vellumlaw08.ChainLives', WHERE WHAT IT READS IS OF BULK AT MOST 1048576: true; the input reads as it did. -/
def chainLivesUptoRow : OpenClaim := { program := "ytfjmdgdopmfcjaa", sum := "9df7bdd4a969c853a5cfb662d98d398c1185c2f484d5c066c14c0a8c3a5b9315", func := "vellum/vellumlaw08.ChainLives", spec := "chainLives", unfollowed := true, recurses := true, apart := false, narrowed := true }
def ChainLivesUptoSaid : Prop := chainLivesUptoRow.holds Try.pinned (OpenSpec.upto chainLivesSpec)

/-- 'vellumlaw08.ChainSees', WHERE WHAT IT READS IS OF BULK AT MOST 1048576: true; the input reads as it did. -/
def chainSeesUptoRow : OpenClaim := { program := "ytfjmdgdopmfcjaa", sum := "9df7bdd4a969c853a5cfb662d98d398c1185c2f484d5c066c14c0a8c3a5b9315", func := "vellum/vellumlaw08.ChainSees", spec := "chainSees", inPlace := ["math.Float64bits"], unfollowed := true, recurses := true, apart := false, narrowed := true }
def ChainSeesUptoSaid : Prop := chainSeesUptoRow.holds Try.pinned (OpenSpec.upto chainSeesSpec)

/-- 'vellumlaw08.ChainPrunes', WHERE WHAT IT READS IS OF BULK AT MOST 1048576: true; the input reads as it did. -/
def chainPrunesUptoRow : OpenClaim := { program := "ytfjmdgdopmfcjaa", sum := "9df7bdd4a969c853a5cfb662d98d398c1185c2f484d5c066c14c0a8c3a5b9315", func := "vellum/vellumlaw08.ChainPrunes", spec := "chainPrunes", inPlace := ["math.Float64bits"], unfollowed := true, recurses := true, apart := false, narrowed := true }
def ChainPrunesUptoSaid : Prop := chainPrunesUptoRow.holds Try.pinned (OpenSpec.upto chainPrunesSpec)

/-- 'vellumlaw08.ChainAsks', WHERE WHAT IT READS IS OF BULK AT MOST 1048576: true; the input reads as it did. -/
def chainAsksUptoRow : OpenClaim := { program := "ytfjmdgdopmfcjaa", sum := "9df7bdd4a969c853a5cfb662d98d398c1185c2f484d5c066c14c0a8c3a5b9315", func := "vellum/vellumlaw08.ChainAsks", spec := "chainAsks", unfollowed := true, recurses := true, apart := false, narrowed := true }
def ChainAsksUptoSaid : Prop := chainAsksUptoRow.holds Try.pinned (OpenSpec.upto chainAsksSpec)

/-- 'vellumlaw08.ChainInstalls', WHERE WHAT IT READS IS OF BULK AT MOST 1048576: true; the input reads as it did. -/
def chainInstallsUptoRow : OpenClaim := { program := "ytfjmdgdopmfcjaa", sum := "9df7bdd4a969c853a5cfb662d98d398c1185c2f484d5c066c14c0a8c3a5b9315", func := "vellum/vellumlaw08.ChainInstalls", spec := "chainInstalls", inPlace := ["math.Float64bits"], unfollowed := true, recurses := true, apart := false, narrowed := true }
def ChainInstallsUptoSaid : Prop := chainInstallsUptoRow.holds Try.pinned (OpenSpec.upto chainInstallsSpec)

/-- 'vellumlaw08.ChainKeeps', WHERE WHAT IT READS IS OF BULK AT MOST 1048576: true; the input reads as it did. -/
def chainKeepsUptoRow : OpenClaim := { program := "ytfjmdgdopmfcjaa", sum := "9df7bdd4a969c853a5cfb662d98d398c1185c2f484d5c066c14c0a8c3a5b9315", func := "vellum/vellumlaw08.ChainKeeps", spec := "chainKeeps", inPlace := ["math.Float64bits"], unfollowed := true, recurses := true, apart := false, narrowed := true }
def ChainKeepsUptoSaid : Prop := chainKeepsUptoRow.holds Try.pinned (OpenSpec.upto chainKeepsSpec)

/-- 'vellumlaw08.ChainWrites', WHERE WHAT IT READS IS OF BULK AT MOST 1048576: true; the input reads as it did. -/
def chainWritesUptoRow : OpenClaim := { program := "ytfjmdgdopmfcjaa", sum := "9df7bdd4a969c853a5cfb662d98d398c1185c2f484d5c066c14c0a8c3a5b9315", func := "vellum/vellumlaw08.ChainWrites", spec := "chainWrites", inPlace := ["math.Float64bits"], unfollowed := true, recurses := true, apart := false, narrowed := true }
def ChainWritesUptoSaid : Prop := chainWritesUptoRow.holds Try.pinned (OpenSpec.upto chainWritesSpec)

/-- 'vellumlaw08.ChainSaves', WHERE WHAT IT READS IS OF BULK AT MOST 1048576: true; the input reads as it did. -/
def chainSavesUptoRow : OpenClaim := { program := "ytfjmdgdopmfcjaa", sum := "9df7bdd4a969c853a5cfb662d98d398c1185c2f484d5c066c14c0a8c3a5b9315", func := "vellum/vellumlaw08.ChainSaves", spec := "chainSaves", inPlace := ["math.Float64bits"], unfollowed := true, recurses := true, apart := false, narrowed := true }
def ChainSavesUptoSaid : Prop := chainSavesUptoRow.holds Try.pinned (OpenSpec.upto chainSavesSpec)

/-- 'vellumlaw08.ChainOwn', WHERE WHAT IT READS IS OF BULK AT MOST 1048576: true; the input reads as it did. -/
def chainOwnUptoRow : OpenClaim := { program := "ytfjmdgdopmfcjaa", sum := "9df7bdd4a969c853a5cfb662d98d398c1185c2f484d5c066c14c0a8c3a5b9315", func := "vellum/vellumlaw08.ChainOwn", spec := "chainOwn", inPlace := ["math.Float64bits"], unfollowed := true, recurses := true, apart := false, narrowed := true }
def ChainOwnUptoSaid : Prop := chainOwnUptoRow.holds Try.pinned (OpenSpec.upto chainOwnSpec)

end Rows
end Go.Proofs.Ytfjmdgdopmfcjaa
