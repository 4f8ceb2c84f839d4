/-
  No cell of these rows narrows 'for every input' (looked for: loops, veiled, ifaces, maps, wideKeys, modest, calm, conditions, laid).
  DERIVED. THE GIVEN ROWS OF THIS SEAT. 6 by the template 'for every input the law returns true; each argument reads behind the call as it read before'; 0 by the template 'total and deterministic' (their statements: YtioaaeianjgaoaaTotals.lean).
  GIVEN WITH THE SEED: the statements are not yours to turn. If you find one false, say at which input.
  Laid BY PROGRAM, IN A SANDBOX (cutbox-rows.mjs): the forced cells as the released guide's own fill.sh prints them over the translation 4ba2712c8be7250e… (all of the seat's roots in one cut). By AI agents, Wed Nov 11 2026. No macro, syntax, notation, axiom, sorry.
-/
import Derived.Test.YtioaaeianjgaoaaChecked
import GoSem.Claim
import GoSem.ClaimJoined
import GoSem.ClaimMapViews
import Derived.JoinedTies
import Derived.KernelRfl
namespace Go.Proofs.Ytioaaeianjgaoaa
/- THE CELL 'sum', in the pinned program and in every row, IS THE sha256 OF THE DUMP (.gsa) THAT YtioaaeianjgaoaaProg.lean LOADS. Nothing in Lean hashes anything: it is a label: what it is worth is what the hold of that sum in a sandbox is worth. -/
noncomputable def Try.pinned : Pinned := { name := "ytioaaeianjgaoaa", sum := "4ba2712c8be7250eac3657c08aeee79ee254b0571fdc9a2e69f579c0900ef1ea", checked := Try.checked }
namespace Rows
def none {H : Type} : Left H := { results := [], args := [] }

/-- 'depotlaw05.TrailBegins': WHATEVER THE INPUT: true; the input reads as it did. -/
def trailBeginsSpec : ChangeSpec := { name := "trailBegins", fn := fun _ => fun
  | [d1, d2] => { results := [.lit (.bool true)], args := [d1, d2] }
  | _ => none }
def trailBeginsRow : OpenClaim := { program := "ytioaaeianjgaoaa", sum := "4ba2712c8be7250eac3657c08aeee79ee254b0571fdc9a2e69f579c0900ef1ea", func := "depot/depotlaw05.TrailBegins", spec := "trailBegins", apart := false }
def TrailBeginsSaid : Prop := trailBeginsRow.holds Try.pinned (OpenSpec.ofChange trailBeginsSpec)

/-- ITS FALSE NEIGHBOUR: 'it returns false'. Refute it at one input. -/
def trailBeginsWrong : ChangeSpec := { name := "trailBegins", fn := fun _ => fun
  | [d1, d2] => { results := [.lit (.bool false)], args := [d1, d2] }
  | _ => none }
def TrailBeginsWrongFalsely : Prop := trailBeginsRow.holds Try.pinned (OpenSpec.ofChange trailBeginsWrong)

/-- 'depotlaw05.TrailUndoes': WHATEVER THE INPUT: true; the input reads as it did. -/
def trailUndoesSpec : ChangeSpec := { name := "trailUndoes", fn := fun _ => fun
  | [d] => { results := [.lit (.bool true)], args := [d] }
  | _ => none }
def trailUndoesRow : OpenClaim := { program := "ytioaaeianjgaoaa", sum := "4ba2712c8be7250eac3657c08aeee79ee254b0571fdc9a2e69f579c0900ef1ea", func := "depot/depotlaw05.TrailUndoes", spec := "trailUndoes", apart := false }
def TrailUndoesSaid : Prop := trailUndoesRow.holds Try.pinned (OpenSpec.ofChange trailUndoesSpec)

/-- ITS FALSE NEIGHBOUR: 'it returns false'. Refute it at one input. -/
def trailUndoesWrong : ChangeSpec := { name := "trailUndoes", fn := fun _ => fun
  | [d] => { results := [.lit (.bool false)], args := [d] }
  | _ => none }
def TrailUndoesWrongFalsely : Prop := trailUndoesRow.holds Try.pinned (OpenSpec.ofChange trailUndoesWrong)

/-- 'depotlaw05.TrailStands': WHATEVER THE INPUT: true; the input reads as it did. -/
def trailStandsSpec : ChangeSpec := { name := "trailStands", fn := fun _ => fun
  | [d1, d2] => { results := [.lit (.bool true)], args := [d1, d2] }
  | _ => none }
def trailStandsRow : OpenClaim := { program := "ytioaaeianjgaoaa", sum := "4ba2712c8be7250eac3657c08aeee79ee254b0571fdc9a2e69f579c0900ef1ea", func := "depot/depotlaw05.TrailStands", spec := "trailStands", apart := false }
def TrailStandsSaid : Prop := trailStandsRow.holds Try.pinned (OpenSpec.ofChange trailStandsSpec)

/-- ITS FALSE NEIGHBOUR: 'it returns false'. Refute it at one input. -/
def trailStandsWrong : ChangeSpec := { name := "trailStands", fn := fun _ => fun
  | [d1, d2] => { results := [.lit (.bool false)], args := [d1, d2] }
  | _ => none }
def TrailStandsWrongFalsely : Prop := trailStandsRow.holds Try.pinned (OpenSpec.ofChange trailStandsWrong)

/-- 'depotlaw05.TrailLooks': WHATEVER THE INPUT: true; the input reads as it did. -/
def trailLooksSpec : ChangeSpec := { name := "trailLooks", fn := fun _ => fun
  | [d1, d2, d3] => { results := [.lit (.bool true)], args := [d1, d2, d3] }
  | _ => none }
def trailLooksRow : OpenClaim := { program := "ytioaaeianjgaoaa", sum := "4ba2712c8be7250eac3657c08aeee79ee254b0571fdc9a2e69f579c0900ef1ea", func := "depot/depotlaw05.TrailLooks", spec := "trailLooks", apart := false }
def TrailLooksSaid : Prop := trailLooksRow.holds Try.pinned (OpenSpec.ofChange trailLooksSpec)

/-- ITS FALSE NEIGHBOUR: 'it returns false'. Refute it at one input. -/
def trailLooksWrong : ChangeSpec := { name := "trailLooks", fn := fun _ => fun
  | [d1, d2, d3] => { results := [.lit (.bool false)], args := [d1, d2, d3] }
  | _ => none }
def TrailLooksWrongFalsely : Prop := trailLooksRow.holds Try.pinned (OpenSpec.ofChange trailLooksWrong)

/-- 'depotlaw05.TrailKeeps': WHATEVER THE INPUT: true; the input reads as it did. -/
def trailKeepsSpec : ChangeSpec := { name := "trailKeeps", fn := fun _ => fun
  | [d1, d2] => { results := [.lit (.bool true)], args := [d1, d2] }
  | _ => none }
def trailKeepsRow : OpenClaim := { program := "ytioaaeianjgaoaa", sum := "4ba2712c8be7250eac3657c08aeee79ee254b0571fdc9a2e69f579c0900ef1ea", func := "depot/depotlaw05.TrailKeeps", spec := "trailKeeps", apart := false }
def TrailKeepsSaid : Prop := trailKeepsRow.holds Try.pinned (OpenSpec.ofChange trailKeepsSpec)

/-- ITS FALSE NEIGHBOUR: 'it returns false'. Refute it at one input. -/
def trailKeepsWrong : ChangeSpec := { name := "trailKeeps", fn := fun _ => fun
  | [d1, d2] => { results := [.lit (.bool false)], args := [d1, d2] }
  | _ => none }
def TrailKeepsWrongFalsely : Prop := trailKeepsRow.holds Try.pinned (OpenSpec.ofChange trailKeepsWrong)

/-- 'depotlaw05.TrailScript': WHATEVER THE INPUT: true; the input reads as it did. -/
def trailScriptSpec : ChangeSpec := { name := "trailScript", fn := fun _ => fun
  | [d] => { results := [.lit (.bool true)], args := [d] }
  | _ => none }
def trailScriptRow : OpenClaim := { program := "ytioaaeianjgaoaa", sum := "4ba2712c8be7250eac3657c08aeee79ee254b0571fdc9a2e69f579c0900ef1ea", func := "depot/depotlaw05.TrailScript", spec := "trailScript", apart := false }
def TrailScriptSaid : Prop := trailScriptRow.holds Try.pinned (OpenSpec.ofChange trailScriptSpec)

/-- ITS FALSE NEIGHBOUR: 'it returns false'. Refute it at one input. -/
def trailScriptWrong : ChangeSpec := { name := "trailScript", fn := fun _ => fun
  | [d] => { results := [.lit (.bool false)], args := [d] }
  | _ => none }
def TrailScriptWrongFalsely : Prop := trailScriptRow.holds Try.pinned (OpenSpec.ofChange trailScriptWrong)

/- THE SECOND FORM. 'bulk': how many values and letters a reading holds, each counted each time it is reached (what is shared counts as often as it is met; a slice's spare places count too). A statement '..UptoSaid' is the law's where the arguments, and the package variables that the reading takes, are together of bulk at most 1048576: NARROWER than '..Said'. Prove '..Said' where nothing that the law and all that it calls make is longer than what came in: it says more and counts as full. Else prove '..UptoSaid'. A law counts once. -/
mutual
def uptoBulk {H : Type} : DataW H → Nat
  | .lit (.string bytes) => bytes.length + 1
  | .lit _ => 1
  | .nil => 1
  | .ptr d => uptoBulk d + 1
  | .slice elems spare => uptoBulkAll elems + uptoBulkAll spare + 1
  | .agg parts => uptoBulkAll parts + 1
  | .iface _ d => uptoBulk d + 1
  | .map entries => uptoBulkEntries entries + 1
  | .held _ => 1
def uptoBulkAll {H : Type} : List (DataW H) → Nat
  | [] => 0
  | d :: r => uptoBulk d + uptoBulkAll r
def uptoBulkEntries {H : Type} : List (Lit × DataW H) → Nat
  | [] => 0
  | x :: r => uptoBulkEntry x + uptoBulkEntries r
def uptoBulkEntry {H : Type} : Lit × DataW H → Nat
  | (.string bytes, d) => bytes.length + uptoBulk d + 1
  | (_, d) => uptoBulk d + 1
 end
def uptoSmall : (H : Type) → List (DataW H) → Bool := fun _ ds => decide (uptoBulkAll ds ≤ 1048576)
def OpenSpec.upto (s : _root_.Go.ChangeSpec) : _root_.Go.OpenSpec := { _root_.Go.OpenSpec.ofChange s with cond := some uptoSmall }

/-- 'depotlaw05.TrailBegins', WHERE WHAT IT READS IS OF BULK AT MOST 1048576: true; the input reads as it did. -/
def trailBeginsUptoRow : OpenClaim := { program := "ytioaaeianjgaoaa", sum := "4ba2712c8be7250eac3657c08aeee79ee254b0571fdc9a2e69f579c0900ef1ea", func := "depot/depotlaw05.TrailBegins", spec := "trailBegins", apart := false, narrowed := true }
def TrailBeginsUptoSaid : Prop := trailBeginsUptoRow.holds Try.pinned (OpenSpec.upto trailBeginsSpec)

/-- 'depotlaw05.TrailUndoes', WHERE WHAT IT READS IS OF BULK AT MOST 1048576: true; the input reads as it did. -/
def trailUndoesUptoRow : OpenClaim := { program := "ytioaaeianjgaoaa", sum := "4ba2712c8be7250eac3657c08aeee79ee254b0571fdc9a2e69f579c0900ef1ea", func := "depot/depotlaw05.TrailUndoes", spec := "trailUndoes", apart := false, narrowed := true }
def TrailUndoesUptoSaid : Prop := trailUndoesUptoRow.holds Try.pinned (OpenSpec.upto trailUndoesSpec)

/-- 'depotlaw05.TrailStands', WHERE WHAT IT READS IS OF BULK AT MOST 1048576: true; the input reads as it did. -/
def trailStandsUptoRow : OpenClaim := { program := "ytioaaeianjgaoaa", sum := "4ba2712c8be7250eac3657c08aeee79ee254b0571fdc9a2e69f579c0900ef1ea", func := "depot/depotlaw05.TrailStands", spec := "trailStands", apart := false, narrowed := true }
def TrailStandsUptoSaid : Prop := trailStandsUptoRow.holds Try.pinned (OpenSpec.upto trailStandsSpec)

/-- 'depotlaw05.TrailLooks', WHERE WHAT IT READS IS OF BULK AT MOST 1048576: true; the input reads as it did. -/
def trailLooksUptoRow : OpenClaim := { program := "ytioaaeianjgaoaa", sum := "4ba2712c8be7250eac3657c08aeee79ee254b0571fdc9a2e69f579c0900ef1ea", func := "depot/depotlaw05.TrailLooks", spec := "trailLooks", apart := false, narrowed := true }
def TrailLooksUptoSaid : Prop := trailLooksUptoRow.holds Try.pinned (OpenSpec.upto trailLooksSpec)

/-- 'depotlaw05.TrailKeeps', WHERE WHAT IT READS IS OF BULK AT MOST 1048576: true; the input reads as it did. -/
def trailKeepsUptoRow : OpenClaim := { program := "ytioaaeianjgaoaa", sum := "4ba2712c8be7250eac3657c08aeee79ee254b0571fdc9a2e69f579c0900ef1ea", func := "depot/depotlaw05.TrailKeeps", spec := "trailKeeps", apart := false, narrowed := true }
def TrailKeepsUptoSaid : Prop := trailKeepsUptoRow.holds Try.pinned (OpenSpec.upto trailKeepsSpec)

/-- 'depotlaw05.TrailScript', WHERE WHAT IT READS IS OF BULK AT MOST 1048576: true; the input reads as it did. -/
def trailScriptUptoRow : OpenClaim := { program := "ytioaaeianjgaoaa", sum := "4ba2712c8be7250eac3657c08aeee79ee254b0571fdc9a2e69f579c0900ef1ea", func := "depot/depotlaw05.TrailScript", spec := "trailScript", apart := false, narrowed := true }
def TrailScriptUptoSaid : Prop := trailScriptUptoRow.holds Try.pinned (OpenSpec.upto trailScriptSpec)

end Rows
end Go.Proofs.Ytioaaeianjgaoaa
