/- A list of calls, as data. -/
import Derived.Test.YtioaaeianjgaoaaOpen
import Derived.Test.YtioaaeianjgaoaaStands
set_option linter.unusedVariables false
set_option linter.unusedSimpArgs false
set_option maxRecDepth 100000
namespace Go.Proofs.Ytioaaeianjgaoaa.Trail
open Go Go.Proofs.Ytioaaeianjgaoaa.Vc Go.Proofs.Ytioaaeianjgaoaa.T Go.ChangeShapes Go.WideShapes Go.ChangeAt Go.RowKit

def rdI (w : World) (a : Addr) : Int := match w.cell? a with | some (.int _ x) => x | _ => 0
theorem rdI_of {w : World} {a : Addr} {x : Int} (h : w.cell? a = some (I x)) : rdI w a = x := by unfold rdI; rw [h]
theorem opD_of {w : World} {sp : Option Addr} {n : Nat} (hn : n ≤ 9223372036854775807) (h : OpL w sp n) : ∃ ops, OpD w sp n ops := by
  cases sp with
  | none =>
    by_cases h0 : n = 0
    · exact ⟨[], by simp [h0], hn, fun i hi => by omega⟩
    · obtain ⟨a, _, _, _, _, _, _, _, _, e, _⟩ := h 0 (by omega)
      cases e
  | some a =>
    let g : Nat → Int × Int × Int := fun i => (rdI w ((a.add (i * 5)).add 1), rdI w ((a.add (i * 5)).add 2), rdI w ((a.add (i * 5)).add 3))
    refine ⟨(List.range n).map g, by simp, hn, fun i hi => ?_⟩
    have e : ((List.range n).map g).getD i (0, 0, 0) = g i := by
      rw [List.getD_eq_getElem?_getD, List.getElem?_map, List.getElem?_range hi]; rfl
    rw [e]
    obtain ⟨a', on, kd, x, y, p, nc, c, cs, ea, c0, c1, c2, c3, c4, r0, r1, r2, r3, hs⟩ := h i hi
    injection ea with ea
    subst ea
    have g1 : (g i).1 = kd := rdI_of c1
    have g2 : (g i).2.1 = x := rdI_of c2
    have g3 : (g i).2.2 = y := rdI_of c3
    exact ⟨a, rfl, by rw [g1]; exact c1, by rw [g2]; exact c2, by rw [g3]; exact c3, by rw [g1]; exact r1, by rw [g2]; exact r2, by rw [g3]; exact r3⟩
theorem one_of {W : World} {base : Nat} {t e : TypeId} {v x : Value} (hu : Try.prog.underlying t = some (.slice e)) (hv : Value.okWide Try.prog W .any base t v) (h : v.cells.toList = [x]) : v = x := by
  cases v with
  | agg cs =>
    unfold Value.okWide at hv
    rw [hu] at hv
    simp [Cell.okWide, Cell.ok, hu] at hv
  | _ => simp [Value.cells] at h; exact h
theorem ops_of {H : Type} {enc : TypeId × Value → H} {W : World} {base : Nat} {v : Value} {d : DataW H} {ps : List MemPlace}
    (hv : Value.okWide Try.prog W .any base 35 v) (h : DataW.Trod enc Try.prog W 0 (fun _ => true) true 35 v d ps) :
    ∃ p n c ops, v = .slice p n c ∧ OpD W p n ops := by
  obtain ⟨p, n, c, e, hn, ho⟩ := fits35 (m := 0) (fits_of h 4)
  obtain ⟨ops, hd⟩ := opD_of hn ho
  exact ⟨p, n, c, ops, one_of Try.underlying35 hv e, hd⟩
theorem ints_of {H : Type} {enc : TypeId × Value → H} {W : World} {base : Nat} {v : Value} {d : DataW H} {ps : List MemPlace}
    (hv : Value.okWide Try.prog W .any base 26 v) (h : DataW.Trod enc Try.prog W 0 (fun _ => true) true 26 v d ps) :
    ∃ p n c xs, v = .slice p n c ∧ n ≤ c ∧ SlL W p n xs := by
  obtain ⟨p, n, c, xs, e, hn, ho⟩ := fits26 (m := 0) (fits_of h 2)
  exact ⟨p, n, c, xs, one_of Try.underlying26 hv e, hn, ho⟩
end Go.Proofs.Ytioaaeianjgaoaa.Trail
