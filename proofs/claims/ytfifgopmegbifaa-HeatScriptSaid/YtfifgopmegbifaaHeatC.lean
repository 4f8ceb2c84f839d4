/- A heat that New made; SameInts and the like; what a script keeps. -/
import Derived.Test.YtfifgopmegbifaaHeatB
import Derived.Test.YtfifgopmegbifaaCopy
set_option linter.unusedVariables false
set_option linter.unusedSimpArgs false
set_option maxRecDepth 100000
namespace Go.Proofs.Ytfifgopmegbifaa.Heat
open Go Go.Proofs.Ytfifgopmegbifaa.Vc Go.Proofs.Ytfifgopmegbifaa.T
open Go.Proofs.Ytfifgopmegbifaa.Sort (g g_mem g_some)
open Go.Proofs.Ytfifgopmegbifaa.Apart (RdL own_rdl wrap_nat)

theorem half_read : ∃ m e, Fl.d64.read 4602678819172646912 = .number false m e ∧ m ≠ 0 := by
  refine ⟨_, _, Fl.read_lt (by decide), ?_⟩
  decide +kernel
theorem one_read : ∃ m e, Fl.d64.read 4607182418800017408 = .number false m e := ⟨_, _, Fl.read_lt (by decide)⟩
theorem fine_dec {n : Int} {d : Nat} (h : fine n d = true) : 0 ≤ n ∧ n ≤ 1048576 ∧ ∃ m e, Fl.d64.read d = .number false m e ∧ m ≠ 0 := by
  unfold fine at h
  simp only [Bool.and_eq_true, decide_eq_true_eq] at h
  obtain ⟨⟨h1, h2⟩, h3, h4⟩ := h
  refine ⟨h1, h2, ?_⟩
  obtain ⟨mh, eh, hh, hm⟩ := half_read
  obtain ⟨mo, eo, ho⟩ := one_read
  have o1 : Fl.d64.order d 4602678819172646912 = (Fl.d64.read d).order (.number false mh eh) := by rw [← hh]; rfl
  have o2 : Fl.d64.order d 4607182418800017408 = (Fl.d64.read d).order (.number false mo eo) := by rw [← ho]; rfl
  change ((Fl.d64.order d 4602678819172646912 == some .gt || Fl.d64.order d 4602678819172646912 == some .eq) = true) at h3
  change ((Fl.d64.order d 4607182418800017408 == some .lt || Fl.d64.order d 4607182418800017408 == some .eq) = true) at h4
  rw [o1] at h3
  rw [o2] at h4
  cases hr : Fl.d64.read d with
  | nan s f => rw [hr] at h3; exact absurd h3 (by simp [Ieee.Datum.order])
  | infinity s =>
    rw [hr] at h3 h4
    cases s
    · exact absurd h4 (by simp [Ieee.Datum.order])
    · exact absurd h3 (by simp [Ieee.Datum.order])
  | number s m e =>
    rw [hr] at h3
    simp only [Ieee.Datum.order] at h3
    have hp : 0 < mh <<< (eh - min e eh).toNat := by rw [Nat.shiftLeft_eq]; exact Nat.mul_pos (Nat.pos_of_ne_zero hm) (Nat.two_pow_pos _)
    have lt_no : ∀ {a : Int}, a ≤ 0 → compare a ((mh <<< (eh - min e eh).toNat : Nat) : Int) = .lt := fun ha => Int.compare_eq_lt.2 (by omega)
    cases s with
    | true =>
      have : compare (Ieee.signed true m (e - min e eh).toNat) (Ieee.signed false mh (eh - min e eh).toNat) = .lt := lt_no (by have := Int.natCast_nonneg (m <<< (e - min e eh).toNat); unfold Ieee.signed; rw [if_pos rfl]; omega)
      rw [this] at h3
      exact absurd h3 (by decide)
    | false =>
      refine ⟨m, e, rfl, fun h0 => ?_⟩
      have : compare (Ieee.signed false m (e - min e eh).toNat) (Ieee.signed false mh (eh - min e eh).toNat) = .lt := lt_no (by simp [Ieee.signed, h0])
      rw [this] at h3
      exact absurd h3 (by decide)
theorem one_le : one ≤ Fl.Inf := by decide
/-- a fresh heat -/
def HI.old (Q : HI) (w : World) : Prop := ∀ i, Q.F i → w.heap.size ≤ i
theorem made {n : Nat} {d : Nat} {w w' : World} {v : Value} (h : New9 n d w v w') (hf : fine n d = true) :
    ∃ Q : HI, v = .tuple #[.pointer (some ⟨Q.h, 0, none⟩), I 0] ∧ Keep None w w' ∧ Q.old w ∧ PH n w' Q (List.replicate n 0) one d (List.replicate n true) := by
  obtain ⟨k, h⟩ := h
  rcases h with ⟨hf', _⟩ | ⟨_, h, sb, ib, pb, g1, g2, g3, g4, rfl, hR⟩
  · rw [hf] at hf'; cases hf'
  obtain ⟨_, n2, hd⟩ := fine_dec hf
  rw [Int.toNat_natCast] at hR
  have at1 : ∀ {i : Nat} {y : Int}, ((List.range n).map fun k : Nat => (k : Int) + 1)[i]? = some y → i < n ∧ y = (i : Int) + 1 := fun {i y} hy => by
    have hi := (List.getElem?_eq_some_iff.1 hy).1
    simp only [List.length_map, List.length_range] at hi
    refine ⟨hi, ?_⟩
    simp [hi] at hy
    exact hy.symm
  have wfr : Wf n (List.replicate n 0) one d (List.replicate n true) := ⟨by simp, by simp, by omega, fun x hx => by rw [(List.mem_replicate.1 hx).2]; exact Nat.zero_le _, one_le, hd⟩
  refine ⟨⟨h, sb, ib, pb⟩, rfl, k, fun i hi => by rcases hi with rfl | rfl | rfl | rfl <;> assumption, (List.range n).map fun k : Nat => (k : Int) + 1, [], (List.range n).map fun k : Nat => (k : Int), hR, ⟨by simp, fun i y hy => ?_, fun y y1 y2 hno => ?_⟩, ?_, by simp, fun v v1 v2 => ?_, wfr⟩
  · obtain ⟨hi, rfl⟩ := at1 hy
    refine ⟨by omega, by omega, ?_⟩
    rw [show ((i : Int) + 1 - 1).toNat = i by omega]
    simp [hi]
  · refine absurd ?_ (hno (y - 1).toNat)
    have : (y - 1).toNat < n := by omega
    rw [List.getElem?_map, List.getElem?_range this, Option.map_some]
    congr 1
    omega
  · intro k k1 k2
    simp only [List.length_map, List.length_range] at k2
    have gv : ∀ {j : Nat}, j < n → g ((List.range n).map fun k : Nat => (k : Int) + 1) j = (j : Int) + 1 := fun {j} hj => by
      refine g_of ?_
      simp [hj]
    have zz : ∀ j : Nat, (List.replicate n (0 : Nat)).getD j 0 = 0 := fun j => by
      rw [List.getD_eq_getElem?_getD, List.getElem?_replicate]; split <;> rfl
    rw [gv k2, gv (show (k - 1) / 2 < n by omega)]
    cases hq : bfw (List.replicate n 0) ((k : Int) + 1) (((k - 1) / 2 : Nat) + 1) with
    | false => rfl
    | true =>
      have := (bfw_iff wfr.nn wfr.scl (by omega) (by omega)).1 hq
      rw [zz, zz] at this
      omega
  · constructor
    · intro _
      unfold isIn
      rw [List.getD_eq_getElem?_getD, List.getElem?_replicate, if_pos (by omega)]; rfl
    · intro _
      refine List.mem_iff_getElem?.2 ⟨(v - 1).toNat, ?_⟩
      have : (v - 1).toNat < n := by omega
      rw [List.getElem?_map, List.getElem?_range this, Option.map_some]
      congr 1
      omega
section
variable {n : Nat} {w : World} {Q : HI} {sc : List Nat} {step decay : Nat} {wb : List Bool} {it rest pl : List Int}
/-- the order's list goes out -/
theorem PH.ord (h : PH n w Q sc step decay wb) {R : List Int} (hR : OrdL n sc wb R) :
    Calls Try.prog 15 #[.pointer (some ⟨Q.h, 0, none⟩)] w fun e w' => ∃ v, e = .returned v ∧ Apart.New w R v w' := by
  refine h.order.mono fun e w' ⟨v, he, p, m, c, R', hv, hO, hn, hk, hR'⟩ => ⟨v, he, ?_⟩
  have := hR.unique h.wf hR'
  subst this
  have hl : R.length = m := Apart.own_len hO
  subst hl
  exact ⟨p, c, hv, hO, hn, hk⟩
end
end Go.Proofs.Ytfifgopmegbifaa.Heat
