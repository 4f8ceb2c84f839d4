/-
  No cell of these rows narrows 'for every input' (looked for: loops, veiled, ifaces, maps, wideKeys, modest, calm, conditions, laid).
  DERIVED. THE GIVEN ROWS OF THIS SEAT. 4 by the template 'for every input the law returns true; each argument reads behind the call as it read before'; 0 by the template 'total and deterministic' (their statements: YtjpblaenebodlaaTotals.lean).
  GIVEN WITH THE SEED: the statements are not yours to turn. If you find one false, say at which input.
  Laid BY PROGRAM, IN A SANDBOX (cutbox-rows.mjs): the forced cells as the released guide's own fill.sh prints them over the translation 44236f7ccbc7f14f… (all of the seat's roots in one cut). By AI agents, Wed Nov 11 2026. No macro, syntax, notation, axiom, sorry.
-/
import Derived.Test.YtjpblaenebodlaaChecked
import GoSem.Claim
import GoSem.ClaimJoined
import GoSem.ClaimMapViews
import Derived.JoinedTies
import Derived.KernelRfl
namespace Go.Proofs.Ytjpblaenebodlaa
/- THE CELL 'sum', in the pinned program and in every row, IS THE sha256 OF THE DUMP (.gsa) THAT YtjpblaenebodlaaProg.lean LOADS. Nothing in Lean hashes anything: it is a label: what it is worth is what the hold of that sum in a sandbox is worth. -/
noncomputable def Try.pinned : Pinned := { name := "ytjpblaenebodlaa", sum := "44236f7ccbc7f14ff6f752d110f57bd1c1aa6a81ee84381c34e18ab3b8a6d401", checked := Try.checked }
namespace Rows
def none {H : Type} : Left H := { results := [], args := [] }

/-- 'depotlaw07.WatchNumbers': WHATEVER THE INPUT: true; the input reads as it did. -/
def watchNumbersSpec : ChangeSpec := { name := "watchNumbers", fn := fun _ => fun
  | [] => { results := [.lit (.bool true)], args := [] }
  | _ => none }
def watchNumbersRow : OpenClaim := { program := "ytjpblaenebodlaa", sum := "44236f7ccbc7f14ff6f752d110f57bd1c1aa6a81ee84381c34e18ab3b8a6d401", func := "depot/depotlaw07.WatchNumbers", spec := "watchNumbers", unfollowed := true, recurses := true, apart := false }
def WatchNumbersSaid : Prop := watchNumbersRow.holds Try.pinned (OpenSpec.ofChange watchNumbersSpec)

/-- ITS FALSE NEIGHBOUR: 'it returns false'. Refute it at one input. -/
def watchNumbersWrong : ChangeSpec := { name := "watchNumbers", fn := fun _ => fun
  | [] => { results := [.lit (.bool false)], args := [] }
  | _ => none }
def WatchNumbersWrongFalsely : Prop := watchNumbersRow.holds Try.pinned (OpenSpec.ofChange watchNumbersWrong)

/-- 'depotlaw07.WatchRoads': WHATEVER THE INPUT: true; the input reads as it did. -/
def watchRoadsSpec : ChangeSpec := { name := "watchRoads", fn := fun _ => fun
  | [d1, d2, d3] => { results := [.lit (.bool true)], args := [d1, d2, d3] }
  | _ => none }
def watchRoadsRow : OpenClaim := { program := "ytjpblaenebodlaa", sum := "44236f7ccbc7f14ff6f752d110f57bd1c1aa6a81ee84381c34e18ab3b8a6d401", func := "depot/depotlaw07.WatchRoads", spec := "watchRoads", unfollowed := true, recurses := true, apart := false }
def WatchRoadsSaid : Prop := watchRoadsRow.holds Try.pinned (OpenSpec.ofChange watchRoadsSpec)

/-- ITS FALSE NEIGHBOUR: 'it returns false'. Refute it at one input. -/
def watchRoadsWrong : ChangeSpec := { name := "watchRoads", fn := fun _ => fun
  | [d1, d2, d3] => { results := [.lit (.bool false)], args := [d1, d2, d3] }
  | _ => none }
def WatchRoadsWrongFalsely : Prop := watchRoadsRow.holds Try.pinned (OpenSpec.ofChange watchRoadsWrong)

/-- 'depotlaw07.WatchPlays': WHATEVER THE INPUT: true; the input reads as it did. -/
def watchPlaysSpec : ChangeSpec := { name := "watchPlays", fn := fun _ => fun
  | [d] => { results := [.lit (.bool true)], args := [d] }
  | _ => none }
def watchPlaysRow : OpenClaim := { program := "ytjpblaenebodlaa", sum := "44236f7ccbc7f14ff6f752d110f57bd1c1aa6a81ee84381c34e18ab3b8a6d401", func := "depot/depotlaw07.WatchPlays", spec := "watchPlays", unfollowed := true, recurses := true, apart := false }
def WatchPlaysSaid : Prop := watchPlaysRow.holds Try.pinned (OpenSpec.ofChange watchPlaysSpec)

/-- ITS FALSE NEIGHBOUR: 'it returns false'. Refute it at one input. -/
def watchPlaysWrong : ChangeSpec := { name := "watchPlays", fn := fun _ => fun
  | [d] => { results := [.lit (.bool false)], args := [d] }
  | _ => none }
def WatchPlaysWrongFalsely : Prop := watchPlaysRow.holds Try.pinned (OpenSpec.ofChange watchPlaysWrong)

/-- 'depotlaw07.WatchFollows': WHATEVER THE INPUT: true; the input reads as it did. -/
def watchFollowsSpec : ChangeSpec := { name := "watchFollows", fn := fun _ => fun
  | [d1, d2, d3] => { results := [.lit (.bool true)], args := [d1, d2, d3] }
  | _ => none }
def watchFollowsRow : OpenClaim := { program := "ytjpblaenebodlaa", sum := "44236f7ccbc7f14ff6f752d110f57bd1c1aa6a81ee84381c34e18ab3b8a6d401", func := "depot/depotlaw07.WatchFollows", spec := "watchFollows", unfollowed := true, recurses := true, apart := false }
def WatchFollowsSaid : Prop := watchFollowsRow.holds Try.pinned (OpenSpec.ofChange watchFollowsSpec)

/-- ITS FALSE NEIGHBOUR: 'it returns false'. Refute it at one input. -/
def watchFollowsWrong : ChangeSpec := { name := "watchFollows", fn := fun _ => fun
  | [d1, d2, d3] => { results := [.lit (.bool false)], args := [d1, d2, d3] }
  | _ => none }
def WatchFollowsWrongFalsely : Prop := watchFollowsRow.holds Try.pinned (OpenSpec.ofChange watchFollowsWrong)

/- THE SECOND FORM. 'bulk': how many values and letters a reading holds, each counted each time it is reached (what is shared counts as often as it is met; a slice's spare places count too). A statement '..UptoSaid' is the law's where the arguments, and the package variables that the reading takes, are together of bulk at most 1048576: NARROWER than '..Said'. Prove '..Said' where nothing that the law and all that it calls make is longer than what came in: it says more and counts as full. Else prove '..UptoSaid'. A law counts once. -/
mutual
def uptoBulk {H : Type} : DataW H → Nat
  | .lit (.string bytes) => bytes.length + 1
  | .lit _ => 1
  | .nil => 1
  | .ptr d => uptoBulk d + 1
  | .slice elems spare => uptoBulkAll elems + uptoBulkAll spare + 1
  | .agg parts => uptoBulkAll parts + 1
  | .iface _ d => uptoBulk d + 1
  | .map entries => uptoBulkEntries entries + 1
  | .held _ => 1
def uptoBulkAll {H : Type} : List (DataW H) → Nat
  | [] => 0
  | d :: r => uptoBulk d + uptoBulkAll r
def uptoBulkEntries {H : Type} : List (Lit × DataW H) → Nat
  | [] => 0
  | x :: r => uptoBulkEntry x + uptoBulkEntries r
def uptoBulkEntry {H : Type} : Lit × DataW H → Nat
  | (.string bytes, d) => bytes.length + uptoBulk d + 1
  | (_, d) => uptoBulk d + 1
 end
def uptoSmall : (H : Type) → List (DataW H) → Bool := fun _ ds => decide (uptoBulkAll ds ≤ 1048576)
def OpenSpec.upto (s : _root_.Go.ChangeSpec) : _root_.Go.OpenSpec := { _root_.Go.OpenSpec.ofChange s with cond := some uptoSmall }

/-- 'depotlaw07.WatchNumbers', WHERE WHAT IT READS IS OF BULK AT MOST 1048576: true; the input reads as it did. -/
def watchNumbersUptoRow : OpenClaim := { program := "ytjpblaenebodlaa", sum := "44236f7ccbc7f14ff6f752d110f57bd1c1aa6a81ee84381c34e18ab3b8a6d401", func := "depot/depotlaw07.WatchNumbers", spec := "watchNumbers", unfollowed := true, recurses := true, apart := false, narrowed := true }
def WatchNumbersUptoSaid : Prop := watchNumbersUptoRow.holds Try.pinned (OpenSpec.upto watchNumbersSpec)

/-- 'depotlaw07.WatchRoads', WHERE WHAT IT READS IS OF BULK AT MOST 1048576: true; the input reads as it did. -/
def watchRoadsUptoRow : OpenClaim := { program := "ytjpblaenebodlaa", sum := "44236f7ccbc7f14ff6f752d110f57bd1c1aa6a81ee84381c34e18ab3b8a6d401", func := "depot/depotlaw07.WatchRoads", spec := "watchRoads", unfollowed := true, recurses := true, apart := false, narrowed := true }
def WatchRoadsUptoSaid : Prop := watchRoadsUptoRow.holds Try.pinned (OpenSpec.upto watchRoadsSpec)

/-- 'depotlaw07.WatchPlays', WHERE WHAT IT READS IS OF BULK AT MOST 1048576: true; the input reads as it did. -/
def watchPlaysUptoRow : OpenClaim := { program := "ytjpblaenebodlaa", sum := "44236f7ccbc7f14ff6f752d110f57bd1c1aa6a81ee84381c34e18ab3b8a6d401", func := "depot/depotlaw07.WatchPlays", spec := "watchPlays", unfollowed := true, recurses := true, apart := false, narrowed := true }
def WatchPlaysUptoSaid : Prop := watchPlaysUptoRow.holds Try.pinned (OpenSpec.upto watchPlaysSpec)

/-- 'depotlaw07.WatchFollows', WHERE WHAT IT READS IS OF BULK AT MOST 1048576: true; the input reads as it did. -/
def watchFollowsUptoRow : OpenClaim := { program := "ytjpblaenebodlaa", sum := "44236f7ccbc7f14ff6f752d110f57bd1c1aa6a81ee84381c34e18ab3b8a6d401", func := "depot/depotlaw07.WatchFollows", spec := "watchFollows", unfollowed := true, recurses := true, apart := false, narrowed := true }
def WatchFollowsUptoSaid : Prop := watchFollowsUptoRow.holds Try.pinned (OpenSpec.upto watchFollowsSpec)

end Rows
end Go.Proofs.Ytjpblaenebodlaa
