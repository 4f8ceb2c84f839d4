/-
  No cell of these rows narrows 'for every input' (looked for: loops, veiled, ifaces, maps, wideKeys, modest, calm, conditions, laid).
  DERIVED. THE GIVEN ROWS OF THIS SEAT. 10 by the template 'for every input the law returns true; each argument reads behind the call as it read before'; 0 by the template 'total and deterministic' (their statements: YtkpoagdhekimpaaTotals.lean).
  GIVEN WITH THE SEED: the statements are not yours to turn. If you find one false, say at which input.
  Laid BY PROGRAM, IN A SANDBOX (cutbox-rows.mjs): the forced cells as the released guide's own fill.sh prints them over the translation ee71a17b4a0546a9… (all of the seat's roots in one cut). By AI agents, Wed Nov 11 2026. No macro, syntax, notation, axiom, sorry.
-/
import Derived.Test.YtkpoagdhekimpaaChecked
import GoSem.Claim
import GoSem.ClaimJoined
import GoSem.ClaimMapViews
import Derived.JoinedTies
import Derived.KernelRfl
namespace Go.Proofs.Ytkpoagdhekimpaa
/- THE CELL 'sum', in the pinned program and in every row, IS THE sha256 OF THE DUMP (.gsa) THAT YtkpoagdhekimpaaProg.lean LOADS. Nothing in Lean hashes anything: it is a label: what it is worth is what the hold of that sum in a sandbox is worth. -/
noncomputable def Try.pinned : Pinned := { name := "ytkpoagdhekimpaa", sum := "ee71a17b4a0546a933e8a8b7c3ceb0ce7aa8f4fb035ed8f6d2c7b1ffa5f2a1e7", checked := Try.checked }
namespace Rows
def none {H : Type} : Left H := { results := [], args := [] }

/-- 'depotlaw13.PaceFormed': WHATEVER THE INPUT: true; the input reads as it did. -/
def paceFormedSpec : ChangeSpec := { name := "paceFormed", fn := fun _ => fun
  | [d] => { results := [.lit (.bool true)], args := [d] }
  | _ => none }
def paceFormedRow : OpenClaim := { program := "ytkpoagdhekimpaa", sum := "ee71a17b4a0546a933e8a8b7c3ceb0ce7aa8f4fb035ed8f6d2c7b1ffa5f2a1e7", func := "depot/depotlaw13.PaceFormed", spec := "paceFormed", apart := false }
def PaceFormedSaid : Prop := paceFormedRow.holds Try.pinned (OpenSpec.ofChange paceFormedSpec)

/-- ITS FALSE NEIGHBOUR: 'it returns false'. Refute it at one input. -/
def paceFormedWrong : ChangeSpec := { name := "paceFormed", fn := fun _ => fun
  | [d] => { results := [.lit (.bool false)], args := [d] }
  | _ => none }
def PaceFormedWrongFalsely : Prop := paceFormedRow.holds Try.pinned (OpenSpec.ofChange paceFormedWrong)

/-- 'depotlaw13.PaceLuby': WHATEVER THE INPUT: true; the input reads as it did. -/
def paceLubySpec : ChangeSpec := { name := "paceLuby", fn := fun _ => fun
  | [d] => { results := [.lit (.bool true)], args := [d] }
  | _ => none }
def paceLubyRow : OpenClaim := { program := "ytkpoagdhekimpaa", sum := "ee71a17b4a0546a933e8a8b7c3ceb0ce7aa8f4fb035ed8f6d2c7b1ffa5f2a1e7", func := "depot/depotlaw13.PaceLuby", spec := "paceLuby", apart := false }
def PaceLubySaid : Prop := paceLubyRow.holds Try.pinned (OpenSpec.ofChange paceLubySpec)

/-- ITS FALSE NEIGHBOUR: 'it returns false'. Refute it at one input. -/
def paceLubyWrong : ChangeSpec := { name := "paceLuby", fn := fun _ => fun
  | [d] => { results := [.lit (.bool false)], args := [d] }
  | _ => none }
def PaceLubyWrongFalsely : Prop := paceLubyRow.holds Try.pinned (OpenSpec.ofChange paceLubyWrong)

/-- 'depotlaw13.PaceDoubles': WHATEVER THE INPUT: true; the input reads as it did. -/
def paceDoublesSpec : ChangeSpec := { name := "paceDoubles", fn := fun _ => fun
  | [d] => { results := [.lit (.bool true)], args := [d] }
  | _ => none }
def paceDoublesRow : OpenClaim := { program := "ytkpoagdhekimpaa", sum := "ee71a17b4a0546a933e8a8b7c3ceb0ce7aa8f4fb035ed8f6d2c7b1ffa5f2a1e7", func := "depot/depotlaw13.PaceDoubles", spec := "paceDoubles", apart := false }
def PaceDoublesSaid : Prop := paceDoublesRow.holds Try.pinned (OpenSpec.ofChange paceDoublesSpec)

/-- ITS FALSE NEIGHBOUR: 'it returns false'. Refute it at one input. -/
def paceDoublesWrong : ChangeSpec := { name := "paceDoubles", fn := fun _ => fun
  | [d] => { results := [.lit (.bool false)], args := [d] }
  | _ => none }
def PaceDoublesWrongFalsely : Prop := paceDoublesRow.holds Try.pinned (OpenSpec.ofChange paceDoublesWrong)

/-- 'depotlaw13.PaceSeq': WHATEVER THE INPUT: true; the input reads as it did. -/
def paceSeqSpec : ChangeSpec := { name := "paceSeq", fn := fun _ => fun
  | [d] => { results := [.lit (.bool true)], args := [d] }
  | _ => none }
def paceSeqRow : OpenClaim := { program := "ytkpoagdhekimpaa", sum := "ee71a17b4a0546a933e8a8b7c3ceb0ce7aa8f4fb035ed8f6d2c7b1ffa5f2a1e7", func := "depot/depotlaw13.PaceSeq", spec := "paceSeq", unfollowed := true, recurses := true, apart := false }
def PaceSeqSaid : Prop := paceSeqRow.holds Try.pinned (OpenSpec.ofChange paceSeqSpec)

/-- ITS FALSE NEIGHBOUR: 'it returns false'. Refute it at one input. -/
def paceSeqWrong : ChangeSpec := { name := "paceSeq", fn := fun _ => fun
  | [d] => { results := [.lit (.bool false)], args := [d] }
  | _ => none }
def PaceSeqWrongFalsely : Prop := paceSeqRow.holds Try.pinned (OpenSpec.ofChange paceSeqWrong)

/-- 'depotlaw13.PaceMakes': WHATEVER THE INPUT: true; the input reads as it did. -/
def paceMakesSpec : ChangeSpec := { name := "paceMakes", fn := fun _ => fun
  | [d1, d2, d3] => { results := [.lit (.bool true)], args := [d1, d2, d3] }
  | _ => none }
def paceMakesRow : OpenClaim := { program := "ytkpoagdhekimpaa", sum := "ee71a17b4a0546a933e8a8b7c3ceb0ce7aa8f4fb035ed8f6d2c7b1ffa5f2a1e7", func := "depot/depotlaw13.PaceMakes", spec := "paceMakes", unfollowed := true, recurses := true, apart := false }
def PaceMakesSaid : Prop := paceMakesRow.holds Try.pinned (OpenSpec.ofChange paceMakesSpec)

/-- ITS FALSE NEIGHBOUR: 'it returns false'. Refute it at one input. -/
def paceMakesWrong : ChangeSpec := { name := "paceMakes", fn := fun _ => fun
  | [d1, d2, d3] => { results := [.lit (.bool false)], args := [d1, d2, d3] }
  | _ => none }
def PaceMakesWrongFalsely : Prop := paceMakesRow.holds Try.pinned (OpenSpec.ofChange paceMakesWrong)

/-- 'depotlaw13.PaceNumbers': WHATEVER THE INPUT: true; the input reads as it did. -/
def paceNumbersSpec : ChangeSpec := { name := "paceNumbers", fn := fun _ => fun
  | [] => { results := [.lit (.bool true)], args := [] }
  | _ => none }
def paceNumbersRow : OpenClaim := { program := "ytkpoagdhekimpaa", sum := "ee71a17b4a0546a933e8a8b7c3ceb0ce7aa8f4fb035ed8f6d2c7b1ffa5f2a1e7", func := "depot/depotlaw13.PaceNumbers", spec := "paceNumbers", unfollowed := true, recurses := true, apart := false }
def PaceNumbersSaid : Prop := paceNumbersRow.holds Try.pinned (OpenSpec.ofChange paceNumbersSpec)

/-- ITS FALSE NEIGHBOUR: 'it returns false'. Refute it at one input. -/
def paceNumbersWrong : ChangeSpec := { name := "paceNumbers", fn := fun _ => fun
  | [] => { results := [.lit (.bool false)], args := [] }
  | _ => none }
def PaceNumbersWrongFalsely : Prop := paceNumbersRow.holds Try.pinned (OpenSpec.ofChange paceNumbersWrong)

/-- 'depotlaw13.PacePlans': WHATEVER THE INPUT: true; the input reads as it did. -/
def pacePlansSpec : ChangeSpec := { name := "pacePlans", fn := fun _ => fun
  | [d1, d2] => { results := [.lit (.bool true)], args := [d1, d2] }
  | _ => none }
def pacePlansRow : OpenClaim := { program := "ytkpoagdhekimpaa", sum := "ee71a17b4a0546a933e8a8b7c3ceb0ce7aa8f4fb035ed8f6d2c7b1ffa5f2a1e7", func := "depot/depotlaw13.PacePlans", spec := "pacePlans", unfollowed := true, recurses := true, apart := false }
def PacePlansSaid : Prop := pacePlansRow.holds Try.pinned (OpenSpec.ofChange pacePlansSpec)

/-- ITS FALSE NEIGHBOUR: 'it returns false'. Refute it at one input. -/
def pacePlansWrong : ChangeSpec := { name := "pacePlans", fn := fun _ => fun
  | [d1, d2] => { results := [.lit (.bool false)], args := [d1, d2] }
  | _ => none }
def PacePlansWrongFalsely : Prop := pacePlansRow.holds Try.pinned (OpenSpec.ofChange pacePlansWrong)

/-- 'depotlaw13.PaceSpans': WHATEVER THE INPUT: true; the input reads as it did. -/
def paceSpansSpec : ChangeSpec := { name := "paceSpans", fn := fun _ => fun
  | [d1, d2] => { results := [.lit (.bool true)], args := [d1, d2] }
  | _ => none }
def paceSpansRow : OpenClaim := { program := "ytkpoagdhekimpaa", sum := "ee71a17b4a0546a933e8a8b7c3ceb0ce7aa8f4fb035ed8f6d2c7b1ffa5f2a1e7", func := "depot/depotlaw13.PaceSpans", spec := "paceSpans", unfollowed := true, recurses := true, apart := false }
def PaceSpansSaid : Prop := paceSpansRow.holds Try.pinned (OpenSpec.ofChange paceSpansSpec)

/-- ITS FALSE NEIGHBOUR: 'it returns false'. Refute it at one input. -/
def paceSpansWrong : ChangeSpec := { name := "paceSpans", fn := fun _ => fun
  | [d1, d2] => { results := [.lit (.bool false)], args := [d1, d2] }
  | _ => none }
def PaceSpansWrongFalsely : Prop := paceSpansRow.holds Try.pinned (OpenSpec.ofChange paceSpansWrong)

/-- 'depotlaw13.PaceBegins': WHATEVER THE INPUT: true; the input reads as it did. -/
def paceBeginsSpec : ChangeSpec := { name := "paceBegins", fn := fun _ => fun
  | [d1, d2, d3] => { results := [.lit (.bool true)], args := [d1, d2, d3] }
  | _ => none }
def paceBeginsRow : OpenClaim := { program := "ytkpoagdhekimpaa", sum := "ee71a17b4a0546a933e8a8b7c3ceb0ce7aa8f4fb035ed8f6d2c7b1ffa5f2a1e7", func := "depot/depotlaw13.PaceBegins", spec := "paceBegins", unfollowed := true, recurses := true, apart := false }
def PaceBeginsSaid : Prop := paceBeginsRow.holds Try.pinned (OpenSpec.ofChange paceBeginsSpec)

/-- ITS FALSE NEIGHBOUR: 'it returns false'. Refute it at one input. -/
def paceBeginsWrong : ChangeSpec := { name := "paceBegins", fn := fun _ => fun
  | [d1, d2, d3] => { results := [.lit (.bool false)], args := [d1, d2, d3] }
  | _ => none }
def PaceBeginsWrongFalsely : Prop := paceBeginsRow.holds Try.pinned (OpenSpec.ofChange paceBeginsWrong)

/-- 'depotlaw13.PaceKeeps': WHATEVER THE INPUT: true; the input reads as it did. -/
def paceKeepsSpec : ChangeSpec := { name := "paceKeeps", fn := fun _ => fun
  | [d1, d2, d3] => { results := [.lit (.bool true)], args := [d1, d2, d3] }
  | _ => none }
def paceKeepsRow : OpenClaim := { program := "ytkpoagdhekimpaa", sum := "ee71a17b4a0546a933e8a8b7c3ceb0ce7aa8f4fb035ed8f6d2c7b1ffa5f2a1e7", func := "depot/depotlaw13.PaceKeeps", spec := "paceKeeps", unfollowed := true, recurses := true, apart := false }
def PaceKeepsSaid : Prop := paceKeepsRow.holds Try.pinned (OpenSpec.ofChange paceKeepsSpec)

/-- ITS FALSE NEIGHBOUR: 'it returns false'. Refute it at one input. -/
def paceKeepsWrong : ChangeSpec := { name := "paceKeeps", fn := fun _ => fun
  | [d1, d2, d3] => { results := [.lit (.bool false)], args := [d1, d2, d3] }
  | _ => none }
def PaceKeepsWrongFalsely : Prop := paceKeepsRow.holds Try.pinned (OpenSpec.ofChange paceKeepsWrong)

/- THE SECOND FORM. 'bulk': how many values and letters a reading holds, each counted each time it is reached (what is shared counts as often as it is met; a slice's spare places count too). A statement '..UptoSaid' is the law's where the arguments, and the package variables that the reading takes, are together of bulk at most 1048576: NARROWER than '..Said'. Prove '..Said' where nothing that the law and all that it calls make is longer than what came in: it says more and counts as full. Else prove '..UptoSaid'. A law counts once. -/
mutual
def uptoBulk {H : Type} : DataW H → Nat
  | .lit (.string bytes) => bytes.length + 1
  | .lit _ => 1
  | .nil => 1
  | .ptr d => uptoBulk d + 1
  | .slice elems spare => uptoBulkAll elems + uptoBulkAll spare + 1
  | .agg parts => uptoBulkAll parts + 1
  | .iface _ d => uptoBulk d + 1
  | .map entries => uptoBulkEntries entries + 1
  | .held _ => 1
def uptoBulkAll {H : Type} : List (DataW H) → Nat
  | [] => 0
  | d :: r => uptoBulk d + uptoBulkAll r
def uptoBulkEntries {H : Type} : List (Lit × DataW H) → Nat
  | [] => 0
  | x :: r => uptoBulkEntry x + uptoBulkEntries r
def uptoBulkEntry {H : Type} : Lit × DataW H → Nat
  | (.string bytes, d) => bytes.length + uptoBulk d + 1
  | (_, d) => uptoBulk d + 1
 end
def uptoSmall : (H : Type) → List (DataW H) → Bool := fun _ ds => decide (uptoBulkAll ds ≤ 1048576)
def OpenSpec.upto (s : _root_.Go.ChangeSpec) : _root_.Go.OpenSpec := { _root_.Go.OpenSpec.ofChange s with cond := some uptoSmall }

/-- 'depotlaw13.PaceFormed', WHERE WHAT IT READS IS OF BULK AT MOST 1048576: true; the input reads as it did. -/
def paceFormedUptoRow : OpenClaim := { program := "ytkpoagdhekimpaa", sum := "ee71a17b4a0546a933e8a8b7c3ceb0ce7aa8f4fb035ed8f6d2c7b1ffa5f2a1e7", func := "depot/depotlaw13.PaceFormed", spec := "paceFormed", apart := false, narrowed := true }
def PaceFormedUptoSaid : Prop := paceFormedUptoRow.holds Try.pinned (OpenSpec.upto paceFormedSpec)

/-- 'depotlaw13.PaceLuby', WHERE WHAT IT READS IS OF BULK AT MOST 1048576: true; the input reads as it did. -/
def paceLubyUptoRow : OpenClaim := { program := "ytkpoagdhekimpaa", sum := "ee71a17b4a0546a933e8a8b7c3ceb0ce7aa8f4fb035ed8f6d2c7b1ffa5f2a1e7", func := "depot/depotlaw13.PaceLuby", spec := "paceLuby", apart := false, narrowed := true }
def PaceLubyUptoSaid : Prop := paceLubyUptoRow.holds Try.pinned (OpenSpec.upto paceLubySpec)

/-- 'depotlaw13.PaceDoubles', WHERE WHAT IT READS IS OF BULK AT MOST 1048576: true; the input reads as it did. -/
def paceDoublesUptoRow : OpenClaim := { program := "ytkpoagdhekimpaa", sum := "ee71a17b4a0546a933e8a8b7c3ceb0ce7aa8f4fb035ed8f6d2c7b1ffa5f2a1e7", func := "depot/depotlaw13.PaceDoubles", spec := "paceDoubles", apart := false, narrowed := true }
def PaceDoublesUptoSaid : Prop := paceDoublesUptoRow.holds Try.pinned (OpenSpec.upto paceDoublesSpec)

/-- 'depotlaw13.PaceSeq', WHERE WHAT IT READS IS OF BULK AT MOST 1048576: true; the input reads as it did. -/
def paceSeqUptoRow : OpenClaim := { program := "ytkpoagdhekimpaa", sum := "ee71a17b4a0546a933e8a8b7c3ceb0ce7aa8f4fb035ed8f6d2c7b1ffa5f2a1e7", func := "depot/depotlaw13.PaceSeq", spec := "paceSeq", unfollowed := true, recurses := true, apart := false, narrowed := true }
def PaceSeqUptoSaid : Prop := paceSeqUptoRow.holds Try.pinned (OpenSpec.upto paceSeqSpec)

/-- 'depotlaw13.PaceMakes', WHERE WHAT IT READS IS OF BULK AT MOST 1048576: true; the input reads as it did. -/
def paceMakesUptoRow : OpenClaim := { program := "ytkpoagdhekimpaa", sum := "ee71a17b4a0546a933e8a8b7c3ceb0ce7aa8f4fb035ed8f6d2c7b1ffa5f2a1e7", func := "depot/depotlaw13.PaceMakes", spec := "paceMakes", unfollowed := true, recurses := true, apart := false, narrowed := true }
def PaceMakesUptoSaid : Prop := paceMakesUptoRow.holds Try.pinned (OpenSpec.upto paceMakesSpec)

/-- 'depotlaw13.PaceNumbers', WHERE WHAT IT READS IS OF BULK AT MOST 1048576: true; the input reads as it did. -/
def paceNumbersUptoRow : OpenClaim := { program := "ytkpoagdhekimpaa", sum := "ee71a17b4a0546a933e8a8b7c3ceb0ce7aa8f4fb035ed8f6d2c7b1ffa5f2a1e7", func := "depot/depotlaw13.PaceNumbers", spec := "paceNumbers", unfollowed := true, recurses := true, apart := false, narrowed := true }
def PaceNumbersUptoSaid : Prop := paceNumbersUptoRow.holds Try.pinned (OpenSpec.upto paceNumbersSpec)

/-- 'depotlaw13.PacePlans', WHERE WHAT IT READS IS OF BULK AT MOST 1048576: true; the input reads as it did. -/
def pacePlansUptoRow : OpenClaim := { program := "ytkpoagdhekimpaa", sum := "ee71a17b4a0546a933e8a8b7c3ceb0ce7aa8f4fb035ed8f6d2c7b1ffa5f2a1e7", func := "depot/depotlaw13.PacePlans", spec := "pacePlans", unfollowed := true, recurses := true, apart := false, narrowed := true }
def PacePlansUptoSaid : Prop := pacePlansUptoRow.holds Try.pinned (OpenSpec.upto pacePlansSpec)

/-- 'depotlaw13.PaceSpans', WHERE WHAT IT READS IS OF BULK AT MOST 1048576: true; the input reads as it did. -/
def paceSpansUptoRow : OpenClaim := { program := "ytkpoagdhekimpaa", sum := "ee71a17b4a0546a933e8a8b7c3ceb0ce7aa8f4fb035ed8f6d2c7b1ffa5f2a1e7", func := "depot/depotlaw13.PaceSpans", spec := "paceSpans", unfollowed := true, recurses := true, apart := false, narrowed := true }
def PaceSpansUptoSaid : Prop := paceSpansUptoRow.holds Try.pinned (OpenSpec.upto paceSpansSpec)

/-- 'depotlaw13.PaceBegins', WHERE WHAT IT READS IS OF BULK AT MOST 1048576: true; the input reads as it did. -/
def paceBeginsUptoRow : OpenClaim := { program := "ytkpoagdhekimpaa", sum := "ee71a17b4a0546a933e8a8b7c3ceb0ce7aa8f4fb035ed8f6d2c7b1ffa5f2a1e7", func := "depot/depotlaw13.PaceBegins", spec := "paceBegins", unfollowed := true, recurses := true, apart := false, narrowed := true }
def PaceBeginsUptoSaid : Prop := paceBeginsUptoRow.holds Try.pinned (OpenSpec.upto paceBeginsSpec)

/-- 'depotlaw13.PaceKeeps', WHERE WHAT IT READS IS OF BULK AT MOST 1048576: true; the input reads as it did. -/
def paceKeepsUptoRow : OpenClaim := { program := "ytkpoagdhekimpaa", sum := "ee71a17b4a0546a933e8a8b7c3ceb0ce7aa8f4fb035ed8f6d2c7b1ffa5f2a1e7", func := "depot/depotlaw13.PaceKeeps", spec := "paceKeeps", unfollowed := true, recurses := true, apart := false, narrowed := true }
def PaceKeepsUptoSaid : Prop := paceKeepsUptoRow.holds Try.pinned (OpenSpec.upto paceKeepsSpec)

end Rows
end Go.Proofs.Ytkpoagdhekimpaa
