/-
  No cell of these rows narrows 'for every input' (looked for: loops, veiled, ifaces, maps, wideKeys, modest, calm, conditions, laid).
  DERIVED. THE GIVEN ROWS OF THIS SEAT. 9 by the template 'for every input the law returns true; each argument reads behind the call as it read before'; 0 by the template 'total and deterministic' (their statements: YtagkgfmddflodaaGreatTotals.lean).
  GIVEN WITH THE SEED: the statements are not yours to turn. If you find one false, say at which input.
  Laid BY PROGRAM, IN A SANDBOX (cutbox-rows.mjs): the forced cells as the released guide's own fill.sh prints them over the translation 072b438446d6cbdf… (all of the seat's roots in one cut). By AI agents, Wed Nov 11 2026. No macro, syntax, notation, axiom, sorry.
-/
import Derived.Test.YtagkgfmddflodaaGreatChecked
import GoSem.Claim
import GoSem.ClaimJoined
import GoSem.ClaimMapViews
import Derived.JoinedTies
import Derived.KernelRfl
namespace Go.Proofs.YtagkgfmddflodaaGreat
/- THE CELL 'sum', in the pinned program and in every row, IS THE sha256 OF THE DUMP (.gsa) THAT YtagkgfmddflodaaGreatProg.lean LOADS. Nothing in Lean hashes anything: it is a label: what it is worth is what the hold of that sum in a sandbox is worth. -/
noncomputable def Tryz.pinned : Pinned := { name := "ytagkgfmddflodaagreat", sum := "072b438446d6cbdf3ac3d84a383765df81e597c254fb12d43f605f69937bc5b5", checked := Tryz.checked }
namespace Rows
def none {H : Type} : Left H := { results := [], args := [] }

/-- 'depotlaw17.SolveAnswers': WHATEVER THE INPUT: true; the input reads as it did. -/
def solveAnswersSpec : ChangeSpec := { name := "solveAnswers", fn := fun _ => fun
  | [d1, d2] => { results := [.lit (.bool true)], args := [d1, d2] }
  | _ => none }
def solveAnswersRow : OpenClaim := { program := "ytagkgfmddflodaagreat", sum := "072b438446d6cbdf3ac3d84a383765df81e597c254fb12d43f605f69937bc5b5", func := "depot/depotlaw17.SolveAnswers", spec := "solveAnswers", unfollowed := true, recurses := true, apart := false }
def SolveAnswersSaid : Prop := solveAnswersRow.holds Tryz.pinned (OpenSpec.ofChange solveAnswersSpec)

/-- ITS FALSE NEIGHBOUR: 'it returns false'. Refute it at one input. -/
def solveAnswersWrong : ChangeSpec := { name := "solveAnswers", fn := fun _ => fun
  | [d1, d2] => { results := [.lit (.bool false)], args := [d1, d2] }
  | _ => none }
def SolveAnswersWrongFalsely : Prop := solveAnswersRow.holds Tryz.pinned (OpenSpec.ofChange solveAnswersWrong)

/-- 'depotlaw17.SolveBudgets': WHATEVER THE INPUT: true; the input reads as it did. -/
def solveBudgetsSpec : ChangeSpec := { name := "solveBudgets", fn := fun _ => fun
  | [d1, d2, d3] => { results := [.lit (.bool true)], args := [d1, d2, d3] }
  | _ => none }
def solveBudgetsRow : OpenClaim := { program := "ytagkgfmddflodaagreat", sum := "072b438446d6cbdf3ac3d84a383765df81e597c254fb12d43f605f69937bc5b5", func := "depot/depotlaw17.SolveBudgets", spec := "solveBudgets", unfollowed := true, recurses := true, apart := false }
def SolveBudgetsSaid : Prop := solveBudgetsRow.holds Tryz.pinned (OpenSpec.ofChange solveBudgetsSpec)

/-- ITS FALSE NEIGHBOUR: 'it returns false'. Refute it at one input. -/
def solveBudgetsWrong : ChangeSpec := { name := "solveBudgets", fn := fun _ => fun
  | [d1, d2, d3] => { results := [.lit (.bool false)], args := [d1, d2, d3] }
  | _ => none }
def SolveBudgetsWrongFalsely : Prop := solveBudgetsRow.holds Tryz.pinned (OpenSpec.ofChange solveBudgetsWrong)

/-- 'depotlaw17.SolveFew': WHATEVER THE INPUT: true; the input reads as it did. -/
def solveFewSpec : ChangeSpec := { name := "solveFew", fn := fun _ => fun
  | [d1, d2, d3] => { results := [.lit (.bool true)], args := [d1, d2, d3] }
  | _ => none }
def solveFewRow : OpenClaim := { program := "ytagkgfmddflodaagreat", sum := "072b438446d6cbdf3ac3d84a383765df81e597c254fb12d43f605f69937bc5b5", func := "depot/depotlaw17.SolveFew", spec := "solveFew", unfollowed := true, recurses := true, apart := false }
def SolveFewSaid : Prop := solveFewRow.holds Tryz.pinned (OpenSpec.ofChange solveFewSpec)

/-- ITS FALSE NEIGHBOUR: 'it returns false'. Refute it at one input. -/
def solveFewWrong : ChangeSpec := { name := "solveFew", fn := fun _ => fun
  | [d1, d2, d3] => { results := [.lit (.bool false)], args := [d1, d2, d3] }
  | _ => none }
def SolveFewWrongFalsely : Prop := solveFewRow.holds Tryz.pinned (OpenSpec.ofChange solveFewWrong)

/-- 'depotlaw17.SolveTight': WHATEVER THE INPUT: true; the input reads as it did. -/
def solveTightSpec : ChangeSpec := { name := "solveTight", fn := fun _ => fun
  | [d1, d2] => { results := [.lit (.bool true)], args := [d1, d2] }
  | _ => none }
def solveTightRow : OpenClaim := { program := "ytagkgfmddflodaagreat", sum := "072b438446d6cbdf3ac3d84a383765df81e597c254fb12d43f605f69937bc5b5", func := "depot/depotlaw17.SolveTight", spec := "solveTight", unfollowed := true, recurses := true, apart := false }
def SolveTightSaid : Prop := solveTightRow.holds Tryz.pinned (OpenSpec.ofChange solveTightSpec)

/-- ITS FALSE NEIGHBOUR: 'it returns false'. Refute it at one input. -/
def solveTightWrong : ChangeSpec := { name := "solveTight", fn := fun _ => fun
  | [d1, d2] => { results := [.lit (.bool false)], args := [d1, d2] }
  | _ => none }
def SolveTightWrongFalsely : Prop := solveTightRow.holds Tryz.pinned (OpenSpec.ofChange solveTightWrong)

/-- 'depotlaw17.SolveAll': WHATEVER THE INPUT: true; the input reads as it did. -/
def solveAllSpec : ChangeSpec := { name := "solveAll", fn := fun _ => fun
  | [d1, d2, d3] => { results := [.lit (.bool true)], args := [d1, d2, d3] }
  | _ => none }
def solveAllRow : OpenClaim := { program := "ytagkgfmddflodaagreat", sum := "072b438446d6cbdf3ac3d84a383765df81e597c254fb12d43f605f69937bc5b5", func := "depot/depotlaw17.SolveAll", spec := "solveAll", unfollowed := true, recurses := true, apart := false }
def SolveAllSaid : Prop := solveAllRow.holds Tryz.pinned (OpenSpec.ofChange solveAllSpec)

/-- ITS FALSE NEIGHBOUR: 'it returns false'. Refute it at one input. -/
def solveAllWrong : ChangeSpec := { name := "solveAll", fn := fun _ => fun
  | [d1, d2, d3] => { results := [.lit (.bool false)], args := [d1, d2, d3] }
  | _ => none }
def SolveAllWrongFalsely : Prop := solveAllRow.holds Tryz.pinned (OpenSpec.ofChange solveAllWrong)

/-- 'depotlaw17.SolveSome': WHATEVER THE INPUT: true; the input reads as it did. -/
def solveSomeSpec : ChangeSpec := { name := "solveSome", fn := fun _ => fun
  | [d1, d2, d3] => { results := [.lit (.bool true)], args := [d1, d2, d3] }
  | _ => none }
def solveSomeRow : OpenClaim := { program := "ytagkgfmddflodaagreat", sum := "072b438446d6cbdf3ac3d84a383765df81e597c254fb12d43f605f69937bc5b5", func := "depot/depotlaw17.SolveSome", spec := "solveSome", unfollowed := true, recurses := true, apart := false }
def SolveSomeSaid : Prop := solveSomeRow.holds Tryz.pinned (OpenSpec.ofChange solveSomeSpec)

/-- ITS FALSE NEIGHBOUR: 'it returns false'. Refute it at one input. -/
def solveSomeWrong : ChangeSpec := { name := "solveSome", fn := fun _ => fun
  | [d1, d2, d3] => { results := [.lit (.bool false)], args := [d1, d2, d3] }
  | _ => none }
def SolveSomeWrongFalsely : Prop := solveSomeRow.holds Tryz.pinned (OpenSpec.ofChange solveSomeWrong)

/-- 'depotlaw17.SolveKeeps': WHATEVER THE INPUT: true; the input reads as it did. -/
def solveKeepsSpec : ChangeSpec := { name := "solveKeeps", fn := fun _ => fun
  | [d1, d2] => { results := [.lit (.bool true)], args := [d1, d2] }
  | _ => none }
def solveKeepsRow : OpenClaim := { program := "ytagkgfmddflodaagreat", sum := "072b438446d6cbdf3ac3d84a383765df81e597c254fb12d43f605f69937bc5b5", func := "depot/depotlaw17.SolveKeeps", spec := "solveKeeps", unfollowed := true, recurses := true, apart := false }
def SolveKeepsSaid : Prop := solveKeepsRow.holds Tryz.pinned (OpenSpec.ofChange solveKeepsSpec)

/-- ITS FALSE NEIGHBOUR: 'it returns false'. Refute it at one input. -/
def solveKeepsWrong : ChangeSpec := { name := "solveKeeps", fn := fun _ => fun
  | [d1, d2] => { results := [.lit (.bool false)], args := [d1, d2] }
  | _ => none }
def SolveKeepsWrongFalsely : Prop := solveKeepsRow.holds Tryz.pinned (OpenSpec.ofChange solveKeepsWrong)

/-- 'depotlaw17.SolveTruth': WHATEVER THE INPUT: true; the input reads as it did. -/
def solveTruthSpec : ChangeSpec := { name := "solveTruth", fn := fun _ => fun
  | [d1, d2] => { results := [.lit (.bool true)], args := [d1, d2] }
  | _ => none }
def solveTruthRow : OpenClaim := { program := "ytagkgfmddflodaagreat", sum := "072b438446d6cbdf3ac3d84a383765df81e597c254fb12d43f605f69937bc5b5", func := "depot/depotlaw17.SolveTruth", spec := "solveTruth", unfollowed := true, recurses := true, apart := false }
def SolveTruthSaid : Prop := solveTruthRow.holds Tryz.pinned (OpenSpec.ofChange solveTruthSpec)

/-- ITS FALSE NEIGHBOUR: 'it returns false'. Refute it at one input. -/
def solveTruthWrong : ChangeSpec := { name := "solveTruth", fn := fun _ => fun
  | [d1, d2] => { results := [.lit (.bool false)], args := [d1, d2] }
  | _ => none }
def SolveTruthWrongFalsely : Prop := solveTruthRow.holds Tryz.pinned (OpenSpec.ofChange solveTruthWrong)

/-- 'depotlaw17.SolveCounts': WHATEVER THE INPUT: true; the input reads as it did. -/
def solveCountsSpec : ChangeSpec := { name := "solveCounts", fn := fun _ => fun
  | [d] => { results := [.lit (.bool true)], args := [d] }
  | _ => none }
def solveCountsRow : OpenClaim := { program := "ytagkgfmddflodaagreat", sum := "072b438446d6cbdf3ac3d84a383765df81e597c254fb12d43f605f69937bc5b5", func := "depot/depotlaw17.SolveCounts", spec := "solveCounts", unfollowed := true, recurses := true, apart := false }
def SolveCountsSaid : Prop := solveCountsRow.holds Tryz.pinned (OpenSpec.ofChange solveCountsSpec)

/-- ITS FALSE NEIGHBOUR: 'it returns false'. Refute it at one input. -/
def solveCountsWrong : ChangeSpec := { name := "solveCounts", fn := fun _ => fun
  | [d] => { results := [.lit (.bool false)], args := [d] }
  | _ => none }
def SolveCountsWrongFalsely : Prop := solveCountsRow.holds Tryz.pinned (OpenSpec.ofChange solveCountsWrong)

/- THE SECOND FORM. 'bulk': how many values and letters a reading holds, each counted each time it is reached (what is shared counts as often as it is met; a slice's spare places count too). A statement '..UptoSaid' is the law's where the arguments, and the package variables that the reading takes, are together of bulk at most 1048576: NARROWER than '..Said'. Prove '..Said' where nothing that the law and all that it calls make is longer than what came in: it says more and counts as full. Else prove '..UptoSaid'. A law counts once. -/
mutual
def uptoBulk {H : Type} : DataW H → Nat
  | .lit (.string bytes) => bytes.length + 1
  | .lit _ => 1
  | .nil => 1
  | .ptr d => uptoBulk d + 1
  | .slice elems spare => uptoBulkAll elems + uptoBulkAll spare + 1
  | .agg parts => uptoBulkAll parts + 1
  | .iface _ d => uptoBulk d + 1
  | .map entries => uptoBulkEntries entries + 1
  | .held _ => 1
def uptoBulkAll {H : Type} : List (DataW H) → Nat
  | [] => 0
  | d :: r => uptoBulk d + uptoBulkAll r
def uptoBulkEntries {H : Type} : List (Lit × DataW H) → Nat
  | [] => 0
  | x :: r => uptoBulkEntry x + uptoBulkEntries r
def uptoBulkEntry {H : Type} : Lit × DataW H → Nat
  | (.string bytes, d) => bytes.length + uptoBulk d + 1
  | (_, d) => uptoBulk d + 1
 end
def uptoSmall : (H : Type) → List (DataW H) → Bool := fun _ ds => decide (uptoBulkAll ds ≤ 1048576)
def OpenSpec.upto (s : _root_.Go.ChangeSpec) : _root_.Go.OpenSpec := { _root_.Go.OpenSpec.ofChange s with cond := some uptoSmall }

/-- 'depotlaw17.SolveAnswers', WHERE WHAT IT READS IS OF BULK AT MOST 1048576: true; the input reads as it did. -/
def solveAnswersUptoRow : OpenClaim := { program := "ytagkgfmddflodaagreat", sum := "072b438446d6cbdf3ac3d84a383765df81e597c254fb12d43f605f69937bc5b5", func := "depot/depotlaw17.SolveAnswers", spec := "solveAnswers", unfollowed := true, recurses := true, apart := false, narrowed := true }
def SolveAnswersUptoSaid : Prop := solveAnswersUptoRow.holds Tryz.pinned (OpenSpec.upto solveAnswersSpec)

/-- 'depotlaw17.SolveBudgets', WHERE WHAT IT READS IS OF BULK AT MOST 1048576: true; the input reads as it did. -/
def solveBudgetsUptoRow : OpenClaim := { program := "ytagkgfmddflodaagreat", sum := "072b438446d6cbdf3ac3d84a383765df81e597c254fb12d43f605f69937bc5b5", func := "depot/depotlaw17.SolveBudgets", spec := "solveBudgets", unfollowed := true, recurses := true, apart := false, narrowed := true }
def SolveBudgetsUptoSaid : Prop := solveBudgetsUptoRow.holds Tryz.pinned (OpenSpec.upto solveBudgetsSpec)

/-- 'depotlaw17.SolveFew', WHERE WHAT IT READS IS OF BULK AT MOST 1048576: true; the input reads as it did. -/
def solveFewUptoRow : OpenClaim := { program := "ytagkgfmddflodaagreat", sum := "072b438446d6cbdf3ac3d84a383765df81e597c254fb12d43f605f69937bc5b5", func := "depot/depotlaw17.SolveFew", spec := "solveFew", unfollowed := true, recurses := true, apart := false, narrowed := true }
def SolveFewUptoSaid : Prop := solveFewUptoRow.holds Tryz.pinned (OpenSpec.upto solveFewSpec)

/-- 'depotlaw17.SolveTight', WHERE WHAT IT READS IS OF BULK AT MOST 1048576: true; the input reads as it did. -/
def solveTightUptoRow : OpenClaim := { program := "ytagkgfmddflodaagreat", sum := "072b438446d6cbdf3ac3d84a383765df81e597c254fb12d43f605f69937bc5b5", func := "depot/depotlaw17.SolveTight", spec := "solveTight", unfollowed := true, recurses := true, apart := false, narrowed := true }
def SolveTightUptoSaid : Prop := solveTightUptoRow.holds Tryz.pinned (OpenSpec.upto solveTightSpec)

/-- 'depotlaw17.SolveAll', WHERE WHAT IT READS IS OF BULK AT MOST 1048576: true; the input reads as it did. -/
def solveAllUptoRow : OpenClaim := { program := "ytagkgfmddflodaagreat", sum := "072b438446d6cbdf3ac3d84a383765df81e597c254fb12d43f605f69937bc5b5", func := "depot/depotlaw17.SolveAll", spec := "solveAll", unfollowed := true, recurses := true, apart := false, narrowed := true }
def SolveAllUptoSaid : Prop := solveAllUptoRow.holds Tryz.pinned (OpenSpec.upto solveAllSpec)

/-- 'depotlaw17.SolveSome', WHERE WHAT IT READS IS OF BULK AT MOST 1048576: true; the input reads as it did. -/
def solveSomeUptoRow : OpenClaim := { program := "ytagkgfmddflodaagreat", sum := "072b438446d6cbdf3ac3d84a383765df81e597c254fb12d43f605f69937bc5b5", func := "depot/depotlaw17.SolveSome", spec := "solveSome", unfollowed := true, recurses := true, apart := false, narrowed := true }
def SolveSomeUptoSaid : Prop := solveSomeUptoRow.holds Tryz.pinned (OpenSpec.upto solveSomeSpec)

/-- 'depotlaw17.SolveKeeps', WHERE WHAT IT READS IS OF BULK AT MOST 1048576: true; the input reads as it did. -/
def solveKeepsUptoRow : OpenClaim := { program := "ytagkgfmddflodaagreat", sum := "072b438446d6cbdf3ac3d84a383765df81e597c254fb12d43f605f69937bc5b5", func := "depot/depotlaw17.SolveKeeps", spec := "solveKeeps", unfollowed := true, recurses := true, apart := false, narrowed := true }
def SolveKeepsUptoSaid : Prop := solveKeepsUptoRow.holds Tryz.pinned (OpenSpec.upto solveKeepsSpec)

/-- 'depotlaw17.SolveTruth', WHERE WHAT IT READS IS OF BULK AT MOST 1048576: true; the input reads as it did. -/
def solveTruthUptoRow : OpenClaim := { program := "ytagkgfmddflodaagreat", sum := "072b438446d6cbdf3ac3d84a383765df81e597c254fb12d43f605f69937bc5b5", func := "depot/depotlaw17.SolveTruth", spec := "solveTruth", unfollowed := true, recurses := true, apart := false, narrowed := true }
def SolveTruthUptoSaid : Prop := solveTruthUptoRow.holds Tryz.pinned (OpenSpec.upto solveTruthSpec)

/-- 'depotlaw17.SolveCounts', WHERE WHAT IT READS IS OF BULK AT MOST 1048576: true; the input reads as it did. -/
def solveCountsUptoRow : OpenClaim := { program := "ytagkgfmddflodaagreat", sum := "072b438446d6cbdf3ac3d84a383765df81e597c254fb12d43f605f69937bc5b5", func := "depot/depotlaw17.SolveCounts", spec := "solveCounts", unfollowed := true, recurses := true, apart := false, narrowed := true }
def SolveCountsUptoSaid : Prop := solveCountsUptoRow.holds Tryz.pinned (OpenSpec.upto solveCountsSpec)

end Rows
end Go.Proofs.YtagkgfmddflodaaGreat
