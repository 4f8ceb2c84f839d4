/-
  No cell of these rows narrows 'for every input' (looked for: loops, veiled, ifaces, maps, wideKeys, modest, calm, conditions, laid).
  DERIVED. THE GIVEN ROWS OF THIS SEAT. 2 by the template 'for every input the law returns true; each argument reads behind the call as it read before'; 0 by the template 'total and deterministic' (their statements: YtglhgmgegabinaaTotals.lean).
  GIVEN WITH THE SEED: the statements are not yours to turn. If you find one false, say at which input.
  Laid BY PROGRAM, IN A SANDBOX (cutbox-rows.mjs): the forced cells as the released guide's own fill.sh prints them over the translation dfd15abca04edb6a… (all of the seat's roots in one cut). By AI agents, Wed Nov 11 2026. No macro, syntax, notation, axiom, sorry.
-/
import Derived.Test.YtglhgmgegabinaaChecked
import GoSem.Claim
import GoSem.ClaimJoined
import GoSem.ClaimMapViews
import Derived.JoinedTies
import Derived.KernelRfl
namespace Go.Proofs.Ytglhgmgegabinaa
/- THE CELL 'sum', in the pinned program and in every row, IS THE sha256 OF THE DUMP (.gsa) THAT YtglhgmgegabinaaProg.lean LOADS. Nothing in Lean hashes anything: it is a label: what it is worth is what the hold of that sum in a sandbox is worth. -/
noncomputable def Try.pinned : Pinned := { name := "ytglhgmgegabinaa", sum := "dfd15abca04edb6ad6333020dd28f1ace10bdabae61bc3bbd7d08a6f9f44cf3e", checked := Try.checked }
namespace Rows
def none {H : Type} : Left H := { results := [], args := [] }

/-- 'depotlaw29.ExplainReasons': WHATEVER THE INPUT: true; the input reads as it did. -/
def explainReasonsSpec : ChangeSpec := { name := "explainReasons", fn := fun _ => fun
  | [d1, d2] => { results := [.lit (.bool true)], args := [d1, d2] }
  | _ => none }
def explainReasonsRow : OpenClaim := { program := "ytglhgmgegabinaa", sum := "dfd15abca04edb6ad6333020dd28f1ace10bdabae61bc3bbd7d08a6f9f44cf3e", func := "depot/depotlaw29.ExplainReasons", spec := "explainReasons", unfollowed := true, recurses := true, plainKeys := false, apart := false }
def ExplainReasonsSaid : Prop := explainReasonsRow.holds Try.pinned (OpenSpec.ofChange explainReasonsSpec)

/-- ITS FALSE NEIGHBOUR: 'it returns false'. Refute it at one input. -/
def explainReasonsWrong : ChangeSpec := { name := "explainReasons", fn := fun _ => fun
  | [d1, d2] => { results := [.lit (.bool false)], args := [d1, d2] }
  | _ => none }
def ExplainReasonsWrongFalsely : Prop := explainReasonsRow.holds Try.pinned (OpenSpec.ofChange explainReasonsWrong)

/-- 'depotlaw29.ExplainSorts': WHATEVER THE INPUT: true; the input reads as it did. -/
def explainSortsSpec : ChangeSpec := { name := "explainSorts", fn := fun _ => fun
  | [d1, d2] => { results := [.lit (.bool true)], args := [d1, d2] }
  | _ => none }
def explainSortsRow : OpenClaim := { program := "ytglhgmgegabinaa", sum := "dfd15abca04edb6ad6333020dd28f1ace10bdabae61bc3bbd7d08a6f9f44cf3e", func := "depot/depotlaw29.ExplainSorts", spec := "explainSorts", unfollowed := true, recurses := true, plainKeys := false, apart := false }
def ExplainSortsSaid : Prop := explainSortsRow.holds Try.pinned (OpenSpec.ofChange explainSortsSpec)

/-- ITS FALSE NEIGHBOUR: 'it returns false'. Refute it at one input. -/
def explainSortsWrong : ChangeSpec := { name := "explainSorts", fn := fun _ => fun
  | [d1, d2] => { results := [.lit (.bool false)], args := [d1, d2] }
  | _ => none }
def ExplainSortsWrongFalsely : Prop := explainSortsRow.holds Try.pinned (OpenSpec.ofChange explainSortsWrong)

/- THE SECOND FORM. 'bulk': how many values and letters a reading holds, each counted each time it is reached (what is shared counts as often as it is met; a slice's spare places count too). A statement '..UptoSaid' is the law's where the arguments, and the package variables that the reading takes, are together of bulk at most 1048576: NARROWER than '..Said'. Prove '..Said' where nothing that the law and all that it calls make is longer than what came in: it says more and counts as full. Else prove '..UptoSaid'. A law counts once. -/
mutual
def uptoBulk {H : Type} : DataW H → Nat
  | .lit (.string bytes) => bytes.length + 1
  | .lit _ => 1
  | .nil => 1
  | .ptr d => uptoBulk d + 1
  | .slice elems spare => uptoBulkAll elems + uptoBulkAll spare + 1
  | .agg parts => uptoBulkAll parts + 1
  | .iface _ d => uptoBulk d + 1
  | .map entries => uptoBulkEntries entries + 1
  | .held _ => 1
def uptoBulkAll {H : Type} : List (DataW H) → Nat
  | [] => 0
  | d :: r => uptoBulk d + uptoBulkAll r
def uptoBulkEntries {H : Type} : List (Lit × DataW H) → Nat
  | [] => 0
  | x :: r => uptoBulkEntry x + uptoBulkEntries r
def uptoBulkEntry {H : Type} : Lit × DataW H → Nat
  | (.string bytes, d) => bytes.length + uptoBulk d + 1
  | (_, d) => uptoBulk d + 1
 end
def uptoSmall : (H : Type) → List (DataW H) → Bool := fun _ ds => decide (uptoBulkAll ds ≤ 1048576)
def OpenSpec.upto (s : _root_.Go.ChangeSpec) : _root_.Go.OpenSpec := { _root_.Go.OpenSpec.ofChange s with cond := some uptoSmall }

/-- 'depotlaw29.ExplainReasons', WHERE WHAT IT READS IS OF BULK AT MOST 1048576: true; the input reads as it did. -/
def explainReasonsUptoRow : OpenClaim := { program := "ytglhgmgegabinaa", sum := "dfd15abca04edb6ad6333020dd28f1ace10bdabae61bc3bbd7d08a6f9f44cf3e", func := "depot/depotlaw29.ExplainReasons", spec := "explainReasons", unfollowed := true, recurses := true, plainKeys := false, apart := false, narrowed := true }
def ExplainReasonsUptoSaid : Prop := explainReasonsUptoRow.holds Try.pinned (OpenSpec.upto explainReasonsSpec)

/-- 'depotlaw29.ExplainSorts', WHERE WHAT IT READS IS OF BULK AT MOST 1048576: true; the input reads as it did. -/
def explainSortsUptoRow : OpenClaim := { program := "ytglhgmgegabinaa", sum := "dfd15abca04edb6ad6333020dd28f1ace10bdabae61bc3bbd7d08a6f9f44cf3e", func := "depot/depotlaw29.ExplainSorts", spec := "explainSorts", unfollowed := true, recurses := true, plainKeys := false, apart := false, narrowed := true }
def ExplainSortsUptoSaid : Prop := explainSortsUptoRow.holds Try.pinned (OpenSpec.upto explainSortsSpec)

end Rows
end Go.Proofs.Ytglhgmgegabinaa
