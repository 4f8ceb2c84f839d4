/-
  No cell of these rows narrows 'for every input' (looked for: loops, veiled, ifaces, maps, wideKeys, modest, calm, conditions, laid).
  DERIVED. THE GIVEN ROWS OF THIS SEAT. 7 by the template 'for every input the law returns true; each argument reads behind the call as it read before'; 0 by the template 'total and deterministic' (their statements: YtlbpllpomdjooaaTotals.lean).
  GIVEN WITH THE SEED: the statements are not yours to turn. If you find one false, say at which input.
  Laid BY PROGRAM, IN A SANDBOX (cutbox-rows.mjs): the forced cells as the released guide's own fill.sh prints them over the translation 22d929d037492ec4… (all of the seat's roots in one cut). By AI agents, Wed Nov 11 2026. No macro, syntax, notation, axiom, sorry.
-/
import Derived.Test.YtlbpllpomdjooaaChecked
import GoSem.Claim
import GoSem.ClaimJoined
import GoSem.ClaimMapViews
import Derived.JoinedTies
import Derived.KernelRfl
namespace Go.Proofs.Ytlbpllpomdjooaa
/- THE CELL 'sum', in the pinned program and in every row, IS THE sha256 OF THE DUMP (.gsa) THAT YtlbpllpomdjooaaProg.lean LOADS. Nothing in Lean hashes anything: it is a label: what it is worth is what the hold of that sum in a sandbox is worth. -/
noncomputable def Try.pinned : Pinned := { name := "ytlbpllpomdjooaa", sum := "22d929d037492ec446e6dded0154c4203d59fbceda0636f48e763beba592222d", checked := Try.checked }
namespace Rows
def none {H : Type} : Left H := { results := [], args := [] }

/-- 'depotlaw15.LearnShapes': WHATEVER THE INPUT: true; the input reads as it did. -/
def learnShapesSpec : ChangeSpec := { name := "learnShapes", fn := fun _ => fun
  | [d] => { results := [.lit (.bool true)], args := [d] }
  | _ => none }
def learnShapesRow : OpenClaim := { program := "ytlbpllpomdjooaa", sum := "22d929d037492ec446e6dded0154c4203d59fbceda0636f48e763beba592222d", func := "depot/depotlaw15.LearnShapes", spec := "learnShapes", apart := false }
def LearnShapesSaid : Prop := learnShapesRow.holds Try.pinned (OpenSpec.ofChange learnShapesSpec)

/-- ITS FALSE NEIGHBOUR: 'it returns false'. Refute it at one input. -/
def learnShapesWrong : ChangeSpec := { name := "learnShapes", fn := fun _ => fun
  | [d] => { results := [.lit (.bool false)], args := [d] }
  | _ => none }
def LearnShapesWrongFalsely : Prop := learnShapesRow.holds Try.pinned (OpenSpec.ofChange learnShapesWrong)

/-- 'depotlaw15.LearnLevels': WHATEVER THE INPUT: true; the input reads as it did. -/
def learnLevelsSpec : ChangeSpec := { name := "learnLevels", fn := fun _ => fun
  | [d1, d2] => { results := [.lit (.bool true)], args := [d1, d2] }
  | _ => none }
def learnLevelsRow : OpenClaim := { program := "ytlbpllpomdjooaa", sum := "22d929d037492ec446e6dded0154c4203d59fbceda0636f48e763beba592222d", func := "depot/depotlaw15.LearnLevels", spec := "learnLevels", apart := false }
def LearnLevelsSaid : Prop := learnLevelsRow.holds Try.pinned (OpenSpec.ofChange learnLevelsSpec)

/-- ITS FALSE NEIGHBOUR: 'it returns false'. Refute it at one input. -/
def learnLevelsWrong : ChangeSpec := { name := "learnLevels", fn := fun _ => fun
  | [d1, d2] => { results := [.lit (.bool false)], args := [d1, d2] }
  | _ => none }
def LearnLevelsWrongFalsely : Prop := learnLevelsRow.holds Try.pinned (OpenSpec.ofChange learnLevelsWrong)

/-- 'depotlaw15.LearnShrinks': WHATEVER THE INPUT: true; the input reads as it did. -/
def learnShrinksSpec : ChangeSpec := { name := "learnShrinks", fn := fun _ => fun
  | [d1, d2] => { results := [.lit (.bool true)], args := [d1, d2] }
  | _ => none }
def learnShrinksRow : OpenClaim := { program := "ytlbpllpomdjooaa", sum := "22d929d037492ec446e6dded0154c4203d59fbceda0636f48e763beba592222d", func := "depot/depotlaw15.LearnShrinks", spec := "learnShrinks", unfollowed := true, recurses := true, apart := false }
def LearnShrinksSaid : Prop := learnShrinksRow.holds Try.pinned (OpenSpec.ofChange learnShrinksSpec)

/-- ITS FALSE NEIGHBOUR: 'it returns false'. Refute it at one input. -/
def learnShrinksWrong : ChangeSpec := { name := "learnShrinks", fn := fun _ => fun
  | [d1, d2] => { results := [.lit (.bool false)], args := [d1, d2] }
  | _ => none }
def LearnShrinksWrongFalsely : Prop := learnShrinksRow.holds Try.pinned (OpenSpec.ofChange learnShrinksWrong)

/-- 'depotlaw15.LearnNumbers': WHATEVER THE INPUT: true; the input reads as it did. -/
def learnNumbersSpec : ChangeSpec := { name := "learnNumbers", fn := fun _ => fun
  | [] => { results := [.lit (.bool true)], args := [] }
  | _ => none }
def learnNumbersRow : OpenClaim := { program := "ytlbpllpomdjooaa", sum := "22d929d037492ec446e6dded0154c4203d59fbceda0636f48e763beba592222d", func := "depot/depotlaw15.LearnNumbers", spec := "learnNumbers", unfollowed := true, recurses := true, apart := false }
def LearnNumbersSaid : Prop := learnNumbersRow.holds Try.pinned (OpenSpec.ofChange learnNumbersSpec)

/-- ITS FALSE NEIGHBOUR: 'it returns false'. Refute it at one input. -/
def learnNumbersWrong : ChangeSpec := { name := "learnNumbers", fn := fun _ => fun
  | [] => { results := [.lit (.bool false)], args := [] }
  | _ => none }
def LearnNumbersWrongFalsely : Prop := learnNumbersRow.holds Try.pinned (OpenSpec.ofChange learnNumbersWrong)

/-- 'depotlaw15.LearnLearns': WHATEVER THE INPUT: true; the input reads as it did. -/
def learnLearnsSpec : ChangeSpec := { name := "learnLearns", fn := fun _ => fun
  | [d1, d2] => { results := [.lit (.bool true)], args := [d1, d2] }
  | _ => none }
def learnLearnsRow : OpenClaim := { program := "ytlbpllpomdjooaa", sum := "22d929d037492ec446e6dded0154c4203d59fbceda0636f48e763beba592222d", func := "depot/depotlaw15.LearnLearns", spec := "learnLearns", unfollowed := true, recurses := true, apart := false }
def LearnLearnsSaid : Prop := learnLearnsRow.holds Try.pinned (OpenSpec.ofChange learnLearnsSpec)

/-- ITS FALSE NEIGHBOUR: 'it returns false'. Refute it at one input. -/
def learnLearnsWrong : ChangeSpec := { name := "learnLearns", fn := fun _ => fun
  | [d1, d2] => { results := [.lit (.bool false)], args := [d1, d2] }
  | _ => none }
def LearnLearnsWrongFalsely : Prop := learnLearnsRow.holds Try.pinned (OpenSpec.ofChange learnLearnsWrong)

/-- 'depotlaw15.LearnAsserts': WHATEVER THE INPUT: true; the input reads as it did. -/
def learnAssertsSpec : ChangeSpec := { name := "learnAsserts", fn := fun _ => fun
  | [d1, d2] => { results := [.lit (.bool true)], args := [d1, d2] }
  | _ => none }
def learnAssertsRow : OpenClaim := { program := "ytlbpllpomdjooaa", sum := "22d929d037492ec446e6dded0154c4203d59fbceda0636f48e763beba592222d", func := "depot/depotlaw15.LearnAsserts", spec := "learnAsserts", unfollowed := true, recurses := true, apart := false }
def LearnAssertsSaid : Prop := learnAssertsRow.holds Try.pinned (OpenSpec.ofChange learnAssertsSpec)

/-- ITS FALSE NEIGHBOUR: 'it returns false'. Refute it at one input. -/
def learnAssertsWrong : ChangeSpec := { name := "learnAsserts", fn := fun _ => fun
  | [d1, d2] => { results := [.lit (.bool false)], args := [d1, d2] }
  | _ => none }
def LearnAssertsWrongFalsely : Prop := learnAssertsRow.holds Try.pinned (OpenSpec.ofChange learnAssertsWrong)

/-- 'depotlaw15.LearnKeeps': WHATEVER THE INPUT: true; the input reads as it did. -/
def learnKeepsSpec : ChangeSpec := { name := "learnKeeps", fn := fun _ => fun
  | [d] => { results := [.lit (.bool true)], args := [d] }
  | _ => none }
def learnKeepsRow : OpenClaim := { program := "ytlbpllpomdjooaa", sum := "22d929d037492ec446e6dded0154c4203d59fbceda0636f48e763beba592222d", func := "depot/depotlaw15.LearnKeeps", spec := "learnKeeps", unfollowed := true, recurses := true, apart := false }
def LearnKeepsSaid : Prop := learnKeepsRow.holds Try.pinned (OpenSpec.ofChange learnKeepsSpec)

/-- ITS FALSE NEIGHBOUR: 'it returns false'. Refute it at one input. -/
def learnKeepsWrong : ChangeSpec := { name := "learnKeeps", fn := fun _ => fun
  | [d] => { results := [.lit (.bool false)], args := [d] }
  | _ => none }
def LearnKeepsWrongFalsely : Prop := learnKeepsRow.holds Try.pinned (OpenSpec.ofChange learnKeepsWrong)

/- THE SECOND FORM. 'bulk': how many values and letters a reading holds, each counted each time it is reached (what is shared counts as often as it is met; a slice's spare places count too). A statement '..UptoSaid' is the law's where the arguments, and the package variables that the reading takes, are together of bulk at most 1048576: NARROWER than '..Said'. Prove '..Said' where nothing that the law and all that it calls make is longer than what came in: it says more and counts as full. Else prove '..UptoSaid'. A law counts once. -/
mutual
def uptoBulk {H : Type} : DataW H → Nat
  | .lit (.string bytes) => bytes.length + 1
  | .lit _ => 1
  | .nil => 1
  | .ptr d => uptoBulk d + 1
  | .slice elems spare => uptoBulkAll elems + uptoBulkAll spare + 1
  | .agg parts => uptoBulkAll parts + 1
  | .iface _ d => uptoBulk d + 1
  | .map entries => uptoBulkEntries entries + 1
  | .held _ => 1
def uptoBulkAll {H : Type} : List (DataW H) → Nat
  | [] => 0
  | d :: r => uptoBulk d + uptoBulkAll r
def uptoBulkEntries {H : Type} : List (Lit × DataW H) → Nat
  | [] => 0
  | x :: r => uptoBulkEntry x + uptoBulkEntries r
def uptoBulkEntry {H : Type} : Lit × DataW H → Nat
  | (.string bytes, d) => bytes.length + uptoBulk d + 1
  | (_, d) => uptoBulk d + 1
 end
def uptoSmall : (H : Type) → List (DataW H) → Bool := fun _ ds => decide (uptoBulkAll ds ≤ 1048576)
def OpenSpec.upto (s : _root_.Go.ChangeSpec) : _root_.Go.OpenSpec := { _root_.Go.OpenSpec.ofChange s with cond := some uptoSmall }

/-- 'depotlaw15.LearnShapes', WHERE WHAT IT READS IS OF BULK AT MOST 1048576: true; the input reads as it did. -/
def learnShapesUptoRow : OpenClaim := { program := "ytlbpllpomdjooaa", sum := "22d929d037492ec446e6dded0154c4203d59fbceda0636f48e763beba592222d", func := "depot/depotlaw15.LearnShapes", spec := "learnShapes", apart := false, narrowed := true }
def LearnShapesUptoSaid : Prop := learnShapesUptoRow.holds Try.pinned (OpenSpec.upto learnShapesSpec)

/-- 'depotlaw15.LearnLevels', WHERE WHAT IT READS IS OF BULK AT MOST 1048576: true; the input reads as it did. -/
def learnLevelsUptoRow : OpenClaim := { program := "ytlbpllpomdjooaa", sum := "22d929d037492ec446e6dded0154c4203d59fbceda0636f48e763beba592222d", func := "depot/depotlaw15.LearnLevels", spec := "learnLevels", apart := false, narrowed := true }
def LearnLevelsUptoSaid : Prop := learnLevelsUptoRow.holds Try.pinned (OpenSpec.upto learnLevelsSpec)

/-- 'depotlaw15.LearnShrinks', WHERE WHAT IT READS IS OF BULK AT MOST 1048576: true; the input reads as it did. -/
def learnShrinksUptoRow : OpenClaim := { program := "ytlbpllpomdjooaa", sum := "22d929d037492ec446e6dded0154c4203d59fbceda0636f48e763beba592222d", func := "depot/depotlaw15.LearnShrinks", spec := "learnShrinks", unfollowed := true, recurses := true, apart := false, narrowed := true }
def LearnShrinksUptoSaid : Prop := learnShrinksUptoRow.holds Try.pinned (OpenSpec.upto learnShrinksSpec)

/-- 'depotlaw15.LearnNumbers', WHERE WHAT IT READS IS OF BULK AT MOST 1048576: true; the input reads as it did. -/
def learnNumbersUptoRow : OpenClaim := { program := "ytlbpllpomdjooaa", sum := "22d929d037492ec446e6dded0154c4203d59fbceda0636f48e763beba592222d", func := "depot/depotlaw15.LearnNumbers", spec := "learnNumbers", unfollowed := true, recurses := true, apart := false, narrowed := true }
def LearnNumbersUptoSaid : Prop := learnNumbersUptoRow.holds Try.pinned (OpenSpec.upto learnNumbersSpec)

/-- 'depotlaw15.LearnLearns', WHERE WHAT IT READS IS OF BULK AT MOST 1048576: true; the input reads as it did. -/
def learnLearnsUptoRow : OpenClaim := { program := "ytlbpllpomdjooaa", sum := "22d929d037492ec446e6dded0154c4203d59fbceda0636f48e763beba592222d", func := "depot/depotlaw15.LearnLearns", spec := "learnLearns", unfollowed := true, recurses := true, apart := false, narrowed := true }
def LearnLearnsUptoSaid : Prop := learnLearnsUptoRow.holds Try.pinned (OpenSpec.upto learnLearnsSpec)

/-- 'depotlaw15.LearnAsserts', WHERE WHAT IT READS IS OF BULK AT MOST 1048576: true; the input reads as it did. -/
def learnAssertsUptoRow : OpenClaim := { program := "ytlbpllpomdjooaa", sum := "22d929d037492ec446e6dded0154c4203d59fbceda0636f48e763beba592222d", func := "depot/depotlaw15.LearnAsserts", spec := "learnAsserts", unfollowed := true, recurses := true, apart := false, narrowed := true }
def LearnAssertsUptoSaid : Prop := learnAssertsUptoRow.holds Try.pinned (OpenSpec.upto learnAssertsSpec)

/-- 'depotlaw15.LearnKeeps', WHERE WHAT IT READS IS OF BULK AT MOST 1048576: true; the input reads as it did. -/
def learnKeepsUptoRow : OpenClaim := { program := "ytlbpllpomdjooaa", sum := "22d929d037492ec446e6dded0154c4203d59fbceda0636f48e763beba592222d", func := "depot/depotlaw15.LearnKeeps", spec := "learnKeeps", unfollowed := true, recurses := true, apart := false, narrowed := true }
def LearnKeepsUptoSaid : Prop := learnKeepsUptoRow.holds Try.pinned (OpenSpec.upto learnKeepsSpec)

end Rows
end Go.Proofs.Ytlbpllpomdjooaa
