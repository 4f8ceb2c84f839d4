/- Look: how a clause stands. -/
import Derived.Test.YtioaaeianjgaoaaBack
set_option linter.unusedVariables false
set_option linter.unusedSimpArgs false
set_option maxRecDepth 100000
namespace Go.Proofs.Ytioaaeianjgaoaa.Trail
open Go Go.Proofs.Ytioaaeianjgaoaa.Vc Go.Proofs.Ytioaaeianjgaoaa.T

/-- a list of ints wherever it lies -/
structure SlL (w : World) (p : Option Addr) (n : Nat) (cs : List Int) : Prop where
  len : cs.length = n
  small : n ≤ 9223372036854775807
  cell : ∀ (i : Nat) (x : Int), cs[i]? = some x → ∃ a, p = some a ∧ w.cell? (a.add i) = some (I x)
  wf : ∀ x ∈ cs, (Lit.int .i64 x).wf = true
theorem SlL.keep {S : Nat → Prop} {w w' : World} {p : Option Addr} {n : Nat} {cs : List Int} (h : SlL w p n cs) (hk : Keep S w w') (hs : ∀ i, ob p i → ¬ S i) : SlL w' p n cs :=
  ⟨h.len, h.small, fun i x hx => by
    obtain ⟨a, e, hc⟩ := h.cell i x hx
    refine ⟨a, e, hk.cell hc fun h => hs _ ⟨a, e, rfl⟩ ?_⟩
    have : (a.add i).block = a.block := by unfold Addr.add; split <;> rfl
    rwa [this] at h, h.wf⟩
theorem SlL.keep0 {w w' : World} {p : Option Addr} {n : Nat} {cs : List Int} (h : SlL w p n cs) (hk : Keep None w w') : SlL w' p n cs := h.keep hk fun _ _ h => h
theorem SlL.drew {w : World} {p : Option Addr} {n : Nat} {cs : List Int} (h : SlL w p n cs) : SlL w.drew p n cs := ⟨h.len, h.small, h.cell, h.wf⟩
theorem SlL.ix {w : World} {p : Option Addr} {n : Nat} {cs : List Int} {i : Int} {K : Addr → Prop} (h : SlL w p n cs) (h0 : 0 ≤ i) (h1 : i < n) (hk : ∀ a, w.cell? a = some (I (cs.getD i.toNat 0)) → K a) : ixA p n i 1 K := by
  have hl := h.len
  obtain ⟨a, rfl, hc⟩ := h.cell i.toNat _ (getD_of (d := 0) (by omega))
  refine ⟨h0, h1, ?_⟩
  show K _
  rw [Nat.mul_one]
  exact hk _ hc
theorem SlL.lo {w : World} {p : Option Addr} {n : Nat} {cs : List Int} (h : SlL w p n cs) {x : Int} (hx : x ∈ cs) : -9223372036854775808 ≤ x ∧ x ≤ 9223372036854775807 := by
  have := h.wf x hx
  simp [Lit.wf, IntKind.min, IntKind.max, IntKind.signed, IntKind.bits] at this
  omega
theorem SlL.mem {w : World} {p : Option Addr} {n : Nat} {cs : List Int} (h : SlL w p n cs) {i : Nat} (hi : i < n) : cs.getD i 0 ∈ cs :=
  List.mem_of_getElem? (getD_of (d := 0) (by have := h.len; omega))
theorem Own.slL {w : World} {p : Option Addr} {n c : Nat} {xs : List Int} (h : Own w 3 1 p n c (xs.map I)) (hw : ∀ x ∈ xs, (Lit.int .i64 x).wf = true) : SlL w p n xs := by
  have hl := h.len
  have hle := h.le
  have em : maxLen = 9223372036854775807 := by decide +kernel
  refine ⟨by simpa using hl, by omega, fun i x hx => ?_, hw⟩
  have hi := (List.getElem?_eq_some_iff.1 hx).1
  simp only [List.length_map] at hl
  rcases h with ⟨_, rfl, _, _⟩ | ⟨b, cs, rfl, hB, h1, h2, h3, h4⟩
  · omega
  · refine ⟨_, rfl, ?_⟩
    rw [add_mk, Nat.zero_add, hB.cell]
    have : (cs.take (n * 1))[i]? = some (I x) := by rw [h4, List.getElem?_map, hx]; rfl
    rw [List.getElem?_take, if_pos (by omega)] at this
    exact this

/-- how a clause stands, gone through from a place on -/
def lookGo (vals : List Int) : List Int → Int → Bool → Int × Int
  | [], op, sv => if sv then (0, 0) else if op = 0 then (-1, 0) else (2, op)
  | l :: ls, op, sv => if valB vals l = 1 then (1, l) else if valB vals l = 0 then lookGo vals ls l (sv || (op != 0 && op != l)) else lookGo vals ls op sv
def lookB (vals : List Int) (cs : List Int) : Int × Int := if cs.all (ownB vals.length) then lookGo vals cs 0 false else (0, 0)

section
variable {w : World} {T : TI} {row levels vals : List Int} {tolds : List (Int × Int)}
def LookR (w : World) (T : TI) (row levels vals : List Int) (tolds : List (Int × Int)) (x : Int × Int) (v : Value) (w' : World) : Prop :=
  v = .tuple #[I8 x.1, I x.2] ∧ Keep None w w' ∧ TRep w' T row levels vals tolds
theorem look24 (hT : TRep w T row levels vals tolds) {p : Option Addr} {n c : Nat} {cs : List Int} (hc : SlL w p n cs) :
    Calls Try.prog 24 #[Pt T.t, .slice p n c] w fun e w' => ∃ v, e = .returned v ∧ LookR w T row levels vals tolds (lookB vals cs) v w' := by
  refine V24_calls (some ⟨T.t, 0, none⟩) p n c w (LookR w T row levels vals tolds (lookB vals cs)) ?_
  unfold V24
  have hlen := hc.len
  refine lp_of (fun s w1 => ∃ i : Nat, s.1 = i ∧ i ≤ n ∧ (cs.take i).all (ownB vals.length) = true ∧ Keep None w w1 ∧ TRep w1 T row levels vals tolds) (fun s _ => (n - s.1).toNat)
    ⟨0, rfl, Nat.zero_le _, by simp, Keep.refl _ _, hT⟩ ?_
  rintro ⟨i', ⟨⟩⟩ w1 ⟨i, rfl, hi, hall, k1, hT1⟩
  simp only []
  have hw : ∀ j : Nat, j < n → IntKind.wrap .i64 ((j : Int) + 1) = ((j + 1 : Nat) : Int) := fun j hj => by have := hc.small; rw [IntKind.wrap_i64]; omega
  refine pif_of (fun hlt => ?_) fun hge => ?_
  · have hlt : i < n := by simpa using hlt
    refine (hc.keep0 k1).ix (by omega) (by omega) fun a ha => ldI_of ha ?_
    rw [Int.toNat_natCast]
    have hm := hc.mem hlt
    refine cl_of ok37 (own37 hT1 _ (hc.lo hm).1) fun e w2 ⟨ii, he, _, hw2⟩ => ⟨_, _, he, ?_⟩
    have hT2 := rep_drew hT1 hw2
    have k2 : Keep None w w2 := by rw [hw2]; exact k1.drew
    rw [hw i hlt]
    rcases Bool.eq_false_or_eq_true (ownB vals.length (cs.getD i 0)) with hb | hb
    · rw [hb]
      refine pif_f rfl ⟨⟨i + 1, rfl, hlt, ?_, k2, hT2⟩, by omega⟩
      rw [List.take_add_one, List.all_append, hall, getD_of (d := 0) (by omega)]
      simpa using hb
    · rw [hb]
      refine pif_t rfl ⟨?_, k2, hT2⟩
      have : cs.all (ownB vals.length) = false := by
        rw [List.all_eq_false]
        exact ⟨_, hm, by rw [hb]; simp⟩
      unfold lookB
      rw [this, if_neg (by simp)]
  · have hge : i = n := by simp at hge; omega
    subst hge
    rw [← hlen, List.take_length] at hall
    have hlk : lookB vals cs = lookGo vals cs 0 false := by unfold lookB; rw [hall, if_pos rfl]
    rw [hlk]
    refine lp_of (fun s w3 => ∃ j : Nat, s.2.2.1 = j ∧ j ≤ cs.length ∧ lookGo vals (cs.drop j) s.1 s.2.1 = lookGo vals cs 0 false ∧ Keep None w w3 ∧ TRep w3 T row levels vals tolds) (fun s _ => (cs.length - s.2.2.1).toNat)
      ⟨0, rfl, Nat.zero_le _, rfl, k1, hT1⟩ ?_
    rintro ⟨op, sv, j', ⟨⟩⟩ w3 ⟨j, rfl, hj, hgo, k3, hT3⟩
    simp only [] at hgo ⊢
    refine pif_of (fun hlt => ?_) fun hge => ?_
    · have hlt : j < cs.length := by simp at hlt; omega
      have ed : cs.drop j = cs.getD j 0 :: cs.drop (j + 1) := by
        rw [List.drop_eq_getElem_cons hlt, List.getD_eq_getElem?_getD, List.getElem?_eq_getElem hlt]; rfl
      rw [ed, lookGo] at hgo
      have ew : IntKind.wrap .i64 ((j : Int) + 1) = ((j + 1 : Nat) : Int) := hw j (by omega)
      rw [ew]
      refine jn_of ?_
      refine (hc.keep0 k3).ix (by omega) (by omega) fun a ha => ldI_of ha ?_
      rw [Int.toNat_natCast]
      have hm := hc.mem (i := j) (by omega)
      refine cl_of ok14 (value14 hT3 _ (hc.lo hm).1) fun e w5 ⟨he, k5, hT5⟩ => ⟨_, he, ?_⟩
      have k5' := k3.then0 k5
      generalize cs.getD j 0 = l at *
      refine pif_of (fun h1 => ?_) fun h1 => ?_
      · have h1 : valB vals l = 1 := by simpa using h1
        rw [if_pos h1] at hgo
        rw [← hgo]
        exact ⟨rfl, k5', hT5⟩
      · have h1 : ¬ valB vals l = 1 := by simpa using h1
        rw [if_neg h1] at hgo
        refine pif_of (fun h2 => ?_) fun h2 => ?_
        · have h2 : valB vals l = 0 := by simpa using h2
          rw [if_pos h2] at hgo
          refine ⟨⟨j + 1, rfl, by omega, ?_, k5', hT5⟩, by omega⟩
          rw [← hgo]
          congr 1
          cases sv <;> cases (op != 0) <;> rfl
        · have h2 : ¬ valB vals l = 0 := by simpa using h2
          rw [if_neg h2] at hgo
          exact ⟨⟨j + 1, rfl, by omega, hgo, k5', hT5⟩, by omega⟩
    · have hge : j = cs.length := by simp at hge; omega
      subst hge
      rw [List.drop_length, lookGo] at hgo
      refine pif_of (fun h1 => ?_) fun h1 => ?_
      · rw [h1, if_pos rfl] at hgo
        rw [← hgo]
        exact ⟨rfl, k3, hT3⟩
      · rw [h1, if_neg (by simp)] at hgo
        refine pif_of (fun h2 => ?_) fun h2 => ?_
        · have h2 : op = 0 := by simpa using h2
          rw [if_pos h2] at hgo
          rw [← hgo]
          exact ⟨rfl, k3, hT3⟩
        · have h2 : ¬ op = 0 := by simpa using h2
          rw [if_neg h2] at hgo
          rw [← hgo]
          exact ⟨rfl, k3, hT3⟩
end
end Go.Proofs.Ytioaaeianjgaoaa.Trail
