/-
  No cell of these rows narrows 'for every input' (looked for: loops, veiled, ifaces, maps, wideKeys, modest, calm, conditions, laid).
  DERIVED. THE GIVEN ROWS OF THIS SEAT. 6 by the template 'for every input the law returns true; each argument reads behind the call as it read before'; 0 by the template 'total and deterministic' (their statements: YtfifgopmegbifaaTotals.lean).
  GIVEN WITH THE SEED: the statements are not yours to turn. If you find one false, say at which input.
  Laid BY PROGRAM, IN A SANDBOX (cutbox-rows.mjs): the forced cells as the released guide's own fill.sh prints them over the translation d99c5ed7fd9ebd96… (all of the seat's roots in one cut). By AI agents, Wed Nov 11 2026. No macro, syntax, notation, axiom, sorry.
-/
import Derived.Test.YtfifgopmegbifaaChecked
import GoSem.Claim
import GoSem.ClaimJoined
import GoSem.ClaimMapViews
import Derived.JoinedTies
import Derived.KernelRfl
namespace Go.Proofs.Ytfifgopmegbifaa
/- THE CELL 'sum', in the pinned program and in every row, IS THE sha256 OF THE DUMP (.gsa) THAT YtfifgopmegbifaaProg.lean LOADS. Nothing in Lean hashes anything: it is a label: what it is worth is what the hold of that sum in a sandbox is worth. -/
noncomputable def Try.pinned : Pinned := { name := "ytfifgopmegbifaa", sum := "d99c5ed7fd9ebd96f6d29bdb4004a250721490049faee6230a4abff011b187a6", checked := Try.checked }
namespace Rows
def none {H : Type} : Left H := { results := [], args := [] }

/-- 'depotlaw14.HeatBegins': WHATEVER THE INPUT: true; the input reads as it did. -/
def heatBeginsSpec : ChangeSpec := { name := "heatBegins", fn := fun _ => fun
  | [d1, d2] => { results := [.lit (.bool true)], args := [d1, d2] }
  | _ => none }
def heatBeginsRow : OpenClaim := { program := "ytfifgopmegbifaa", sum := "d99c5ed7fd9ebd96f6d29bdb4004a250721490049faee6230a4abff011b187a6", func := "depot/depotlaw14.HeatBegins", spec := "heatBegins", apart := false }
def HeatBeginsSaid : Prop := heatBeginsRow.holds Try.pinned (OpenSpec.ofChange heatBeginsSpec)

/-- ITS FALSE NEIGHBOUR: 'it returns false'. Refute it at one input. -/
def heatBeginsWrong : ChangeSpec := { name := "heatBegins", fn := fun _ => fun
  | [d1, d2] => { results := [.lit (.bool false)], args := [d1, d2] }
  | _ => none }
def HeatBeginsWrongFalsely : Prop := heatBeginsRow.holds Try.pinned (OpenSpec.ofChange heatBeginsWrong)

/-- 'depotlaw14.HeatScales': WHATEVER THE INPUT: true; the input reads as it did. -/
def heatScalesSpec : ChangeSpec := { name := "heatScales", fn := fun _ => fun
  | [d] => { results := [.lit (.bool true)], args := [d] }
  | _ => none }
def heatScalesRow : OpenClaim := { program := "ytfifgopmegbifaa", sum := "d99c5ed7fd9ebd96f6d29bdb4004a250721490049faee6230a4abff011b187a6", func := "depot/depotlaw14.HeatScales", spec := "heatScales", unfollowed := true, recurses := true, apart := false }
def HeatScalesSaid : Prop := heatScalesRow.holds Try.pinned (OpenSpec.ofChange heatScalesSpec)

/-- ITS FALSE NEIGHBOUR: 'it returns false'. Refute it at one input. -/
def heatScalesWrong : ChangeSpec := { name := "heatScales", fn := fun _ => fun
  | [d] => { results := [.lit (.bool false)], args := [d] }
  | _ => none }
def HeatScalesWrongFalsely : Prop := heatScalesRow.holds Try.pinned (OpenSpec.ofChange heatScalesWrong)

/-- 'depotlaw14.HeatAdds': WHATEVER THE INPUT: true; the input reads as it did. -/
def heatAddsSpec : ChangeSpec := { name := "heatAdds", fn := fun _ => fun
  | [d] => { results := [.lit (.bool true)], args := [d] }
  | _ => none }
def heatAddsRow : OpenClaim := { program := "ytfifgopmegbifaa", sum := "d99c5ed7fd9ebd96f6d29bdb4004a250721490049faee6230a4abff011b187a6", func := "depot/depotlaw14.HeatAdds", spec := "heatAdds", unfollowed := true, recurses := true, apart := false }
def HeatAddsSaid : Prop := heatAddsRow.holds Try.pinned (OpenSpec.ofChange heatAddsSpec)

/-- ITS FALSE NEIGHBOUR: 'it returns false'. Refute it at one input. -/
def heatAddsWrong : ChangeSpec := { name := "heatAdds", fn := fun _ => fun
  | [d] => { results := [.lit (.bool false)], args := [d] }
  | _ => none }
def HeatAddsWrongFalsely : Prop := heatAddsRow.holds Try.pinned (OpenSpec.ofChange heatAddsWrong)

/-- 'depotlaw14.HeatKeeps': WHATEVER THE INPUT: true; the input reads as it did. -/
def heatKeepsSpec : ChangeSpec := { name := "heatKeeps", fn := fun _ => fun
  | [d] => { results := [.lit (.bool true)], args := [d] }
  | _ => none }
def heatKeepsRow : OpenClaim := { program := "ytfifgopmegbifaa", sum := "d99c5ed7fd9ebd96f6d29bdb4004a250721490049faee6230a4abff011b187a6", func := "depot/depotlaw14.HeatKeeps", spec := "heatKeeps", unfollowed := true, recurses := true, apart := false }
def HeatKeepsSaid : Prop := heatKeepsRow.holds Try.pinned (OpenSpec.ofChange heatKeepsSpec)

/-- ITS FALSE NEIGHBOUR: 'it returns false'. Refute it at one input. -/
def heatKeepsWrong : ChangeSpec := { name := "heatKeeps", fn := fun _ => fun
  | [d] => { results := [.lit (.bool false)], args := [d] }
  | _ => none }
def HeatKeepsWrongFalsely : Prop := heatKeepsRow.holds Try.pinned (OpenSpec.ofChange heatKeepsWrong)

/-- 'depotlaw14.HeatScript': WHATEVER THE INPUT: true; the input reads as it did. -/
def heatScriptSpec : ChangeSpec := { name := "heatScript", fn := fun _ => fun
  | [d] => { results := [.lit (.bool true)], args := [d] }
  | _ => none }
def heatScriptRow : OpenClaim := { program := "ytfifgopmegbifaa", sum := "d99c5ed7fd9ebd96f6d29bdb4004a250721490049faee6230a4abff011b187a6", func := "depot/depotlaw14.HeatScript", spec := "heatScript", unfollowed := true, recurses := true, apart := false }
def HeatScriptSaid : Prop := heatScriptRow.holds Try.pinned (OpenSpec.ofChange heatScriptSpec)

/-- ITS FALSE NEIGHBOUR: 'it returns false'. Refute it at one input. -/
def heatScriptWrong : ChangeSpec := { name := "heatScript", fn := fun _ => fun
  | [d] => { results := [.lit (.bool false)], args := [d] }
  | _ => none }
def HeatScriptWrongFalsely : Prop := heatScriptRow.holds Try.pinned (OpenSpec.ofChange heatScriptWrong)

/-- 'depotlaw14.HeatOrders': WHATEVER THE INPUT: true; the input reads as it did. -/
def heatOrdersSpec : ChangeSpec := { name := "heatOrders", fn := fun _ => fun
  | [d] => { results := [.lit (.bool true)], args := [d] }
  | _ => none }
def heatOrdersRow : OpenClaim := { program := "ytfifgopmegbifaa", sum := "d99c5ed7fd9ebd96f6d29bdb4004a250721490049faee6230a4abff011b187a6", func := "depot/depotlaw14.HeatOrders", spec := "heatOrders", unfollowed := true, recurses := true, apart := false }
def HeatOrdersSaid : Prop := heatOrdersRow.holds Try.pinned (OpenSpec.ofChange heatOrdersSpec)

/-- ITS FALSE NEIGHBOUR: 'it returns false'. Refute it at one input. -/
def heatOrdersWrong : ChangeSpec := { name := "heatOrders", fn := fun _ => fun
  | [d] => { results := [.lit (.bool false)], args := [d] }
  | _ => none }
def HeatOrdersWrongFalsely : Prop := heatOrdersRow.holds Try.pinned (OpenSpec.ofChange heatOrdersWrong)

/- THE SECOND FORM. 'bulk': how many values and letters a reading holds, each counted each time it is reached (what is shared counts as often as it is met; a slice's spare places count too). A statement '..UptoSaid' is the law's where the arguments, and the package variables that the reading takes, are together of bulk at most 1048576: NARROWER than '..Said'. Prove '..Said' where nothing that the law and all that it calls make is longer than what came in: it says more and counts as full. Else prove '..UptoSaid'. A law counts once. -/
mutual
def uptoBulk {H : Type} : DataW H → Nat
  | .lit (.string bytes) => bytes.length + 1
  | .lit _ => 1
  | .nil => 1
  | .ptr d => uptoBulk d + 1
  | .slice elems spare => uptoBulkAll elems + uptoBulkAll spare + 1
  | .agg parts => uptoBulkAll parts + 1
  | .iface _ d => uptoBulk d + 1
  | .map entries => uptoBulkEntries entries + 1
  | .held _ => 1
def uptoBulkAll {H : Type} : List (DataW H) → Nat
  | [] => 0
  | d :: r => uptoBulk d + uptoBulkAll r
def uptoBulkEntries {H : Type} : List (Lit × DataW H) → Nat
  | [] => 0
  | x :: r => uptoBulkEntry x + uptoBulkEntries r
def uptoBulkEntry {H : Type} : Lit × DataW H → Nat
  | (.string bytes, d) => bytes.length + uptoBulk d + 1
  | (_, d) => uptoBulk d + 1
 end
def uptoSmall : (H : Type) → List (DataW H) → Bool := fun _ ds => decide (uptoBulkAll ds ≤ 1048576)
def OpenSpec.upto (s : _root_.Go.ChangeSpec) : _root_.Go.OpenSpec := { _root_.Go.OpenSpec.ofChange s with cond := some uptoSmall }

/-- 'depotlaw14.HeatBegins', WHERE WHAT IT READS IS OF BULK AT MOST 1048576: true; the input reads as it did. -/
def heatBeginsUptoRow : OpenClaim := { program := "ytfifgopmegbifaa", sum := "d99c5ed7fd9ebd96f6d29bdb4004a250721490049faee6230a4abff011b187a6", func := "depot/depotlaw14.HeatBegins", spec := "heatBegins", apart := false, narrowed := true }
def HeatBeginsUptoSaid : Prop := heatBeginsUptoRow.holds Try.pinned (OpenSpec.upto heatBeginsSpec)

/-- 'depotlaw14.HeatScales', WHERE WHAT IT READS IS OF BULK AT MOST 1048576: true; the input reads as it did. -/
def heatScalesUptoRow : OpenClaim := { program := "ytfifgopmegbifaa", sum := "d99c5ed7fd9ebd96f6d29bdb4004a250721490049faee6230a4abff011b187a6", func := "depot/depotlaw14.HeatScales", spec := "heatScales", unfollowed := true, recurses := true, apart := false, narrowed := true }
def HeatScalesUptoSaid : Prop := heatScalesUptoRow.holds Try.pinned (OpenSpec.upto heatScalesSpec)

/-- 'depotlaw14.HeatAdds', WHERE WHAT IT READS IS OF BULK AT MOST 1048576: true; the input reads as it did. -/
def heatAddsUptoRow : OpenClaim := { program := "ytfifgopmegbifaa", sum := "d99c5ed7fd9ebd96f6d29bdb4004a250721490049faee6230a4abff011b187a6", func := "depot/depotlaw14.HeatAdds", spec := "heatAdds", unfollowed := true, recurses := true, apart := false, narrowed := true }
def HeatAddsUptoSaid : Prop := heatAddsUptoRow.holds Try.pinned (OpenSpec.upto heatAddsSpec)

/-- 'depotlaw14.HeatKeeps', WHERE WHAT IT READS IS OF BULK AT MOST 1048576: true; the input reads as it did. -/
def heatKeepsUptoRow : OpenClaim := { program := "ytfifgopmegbifaa", sum := "d99c5ed7fd9ebd96f6d29bdb4004a250721490049faee6230a4abff011b187a6", func := "depot/depotlaw14.HeatKeeps", spec := "heatKeeps", unfollowed := true, recurses := true, apart := false, narrowed := true }
def HeatKeepsUptoSaid : Prop := heatKeepsUptoRow.holds Try.pinned (OpenSpec.upto heatKeepsSpec)

/-- 'depotlaw14.HeatScript', WHERE WHAT IT READS IS OF BULK AT MOST 1048576: true; the input reads as it did. -/
def heatScriptUptoRow : OpenClaim := { program := "ytfifgopmegbifaa", sum := "d99c5ed7fd9ebd96f6d29bdb4004a250721490049faee6230a4abff011b187a6", func := "depot/depotlaw14.HeatScript", spec := "heatScript", unfollowed := true, recurses := true, apart := false, narrowed := true }
def HeatScriptUptoSaid : Prop := heatScriptUptoRow.holds Try.pinned (OpenSpec.upto heatScriptSpec)

/-- 'depotlaw14.HeatOrders', WHERE WHAT IT READS IS OF BULK AT MOST 1048576: true; the input reads as it did. -/
def heatOrdersUptoRow : OpenClaim := { program := "ytfifgopmegbifaa", sum := "d99c5ed7fd9ebd96f6d29bdb4004a250721490049faee6230a4abff011b187a6", func := "depot/depotlaw14.HeatOrders", spec := "heatOrders", unfollowed := true, recurses := true, apart := false, narrowed := true }
def HeatOrdersUptoSaid : Prop := heatOrdersUptoRow.holds Try.pinned (OpenSpec.upto heatOrdersSpec)

end Rows
end Go.Proofs.Ytfifgopmegbifaa
