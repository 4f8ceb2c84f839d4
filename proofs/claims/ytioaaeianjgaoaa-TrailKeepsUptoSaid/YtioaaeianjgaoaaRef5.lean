/- Look of the document's trail, and that both tell the same. -/
import Derived.Test.YtioaaeianjgaoaaRef4
set_option linter.unusedVariables false
set_option linter.unusedSimpArgs false
set_option maxRecDepth 100000
namespace Go.Proofs.Ytioaaeianjgaoaa.Trail
open Go Go.Proofs.Ytioaaeianjgaoaa.Vc Go.Proofs.Ytioaaeianjgaoaa.T

def lookF (f : Int → Int) : List Int → Int → Bool → Int × Int
  | [], op, sv => if sv then (0, 0) else if op = 0 then (-1, 0) else (2, op)
  | l :: ls, op, sv => if f l = 1 then (1, l) else if f l = 0 then lookF f ls l (sv || (op != 0 && op != l)) else lookF f ls op sv
theorem lookGo_F (vals : List Int) : ∀ (cs : List Int) (op : Int) (sv : Bool), lookGo vals cs op sv = lookF (valB vals) cs op sv := by
  intro cs
  induction cs with
  | nil => intro op sv; rfl
  | cons l ls ih => intro op sv; simp only [lookGo, lookF, ih]
theorem lookF_congr {f g : Int → Int} : ∀ (cs : List Int) (op : Int) (sv : Bool), (∀ l ∈ cs, f l = g l) → lookF f cs op sv = lookF g cs op sv := by
  intro cs
  induction cs with
  | nil => intro op sv _; rfl
  | cons l ls ih => intro op sv h; simp only [lookF, h l (by simp)]; rw [ih _ _ fun x hx => h x (by simp [hx]), ih _ _ fun x hx => h x (by simp [hx])]
/-- the document's way: the first that is true; else the open ones -/
def openF (f : Int → Int) : List Int → Int → Int × Int
  | [], op => if op = 0 then (-1, 0) else (2, op)
  | l :: ls, op => if f l ≠ 0 ∨ l = op then openF f ls op else if op ≠ 0 then (0, 0) else openF f ls l
def lookM (f : Int → Int) (cs : List Int) : Int × Int := match cs.find? (fun l => f l == 1) with | some l => (1, l) | none => openF f cs 0
theorem lookF_one {f : Int → Int} {x : Int} : ∀ (cs : List Int) (op : Int) (sv : Bool), cs.find? (fun l => f l == 1) = some x → lookF f cs op sv = (1, x) := by
  intro cs
  induction cs with
  | nil => intro op sv h; cases h
  | cons l ls ih =>
    intro op sv h
    rw [List.find?_cons] at h
    by_cases h1 : f l = 1
    · have : (f l == 1) = true := by simpa using h1
      rw [this] at h
      injection h with h
      subst h
      rw [lookF, if_pos h1]
    · have : (f l == 1) = false := by simpa using h1
      rw [this] at h
      rw [lookF, if_neg h1]
      split
      · exact ih _ _ h
      · exact ih _ _ h
theorem lookF_sv {f : Int → Int} : ∀ (cs : List Int) (op : Int), cs.find? (fun l => f l == 1) = none → lookF f cs op true = (0, 0) := by
  intro cs
  induction cs with
  | nil => intro op _; rfl
  | cons l ls ih =>
    intro op h
    rw [List.find?_cons] at h
    by_cases h1 : f l = 1
    · have : (f l == 1) = true := by simpa using h1
      rw [this] at h; cases h
    · have : (f l == 1) = false := by simpa using h1
      rw [this] at h
      rw [lookF, if_neg h1, Bool.true_or]
      split
      · exact ih _ h
      · exact ih _ h
theorem lookF_open {f : Int → Int} : ∀ (cs : List Int) (op : Int), cs.find? (fun l => f l == 1) = none → lookF f cs op false = openF f cs op := by
  intro cs
  induction cs with
  | nil => intro op _; rfl
  | cons l ls ih =>
    intro op h
    rw [List.find?_cons] at h
    by_cases h1 : f l = 1
    · have : (f l == 1) = true := by simpa using h1
      rw [this] at h; cases h
    · have : (f l == 1) = false := by simpa using h1
      rw [this] at h
      rw [lookF, if_neg h1, openF, Bool.false_or]
      by_cases h0 : f l = 0
      · rw [if_pos h0]
        by_cases hl : l = op
        · subst hl
          rw [if_pos (Or.inr rfl)]
          have : (l != 0 && l != l) = false := by simp
          rw [this]; exact ih _ h
        · rw [if_neg (by rintro (hh | hh); exact hh h0; exact hl hh)]
          by_cases ho : op = 0
          · rw [if_neg (by simpa using ho)]
            have : (op != 0 && op != l) = false := by simp [ho]
            rw [this]; exact ih _ h
          · rw [if_pos ho]
            have : (op != 0 && op != l) = true := by simp [ho]; exact fun e => hl e.symm
            rw [this]; exact lookF_sv _ _ h
      · rw [if_neg h0, if_pos (Or.inl h0)]; exact ih _ h
theorem lookF_M (f : Int → Int) (cs : List Int) : lookF f cs 0 false = lookM f cs := by
  unfold lookM
  cases h : cs.find? (fun l => f l == 1) with
  | some x => exact lookF_one _ _ _ h
  | none => exact lookF_open _ _ h
def lookA (n : Nat) (R : List E) (cs : List Int) : Int × Int := if cs.all (ownB n) then lookM (valA n R) cs else (0, 0)

section
variable {w : World} {M : MI} {n : Nat} {R : List E} {now : Int}
def MLookR (w : World) (x : Int × Int) (v : Value) (w' : World) : Prop := v = .tuple #[I8 x.1, I x.2] ∧ Keep None w w'
theorem look44 (h : MRep w M n R now) (hR : R.length ≤ 1048576) (ha : ∀ e ∈ R, e.lit.natAbs ≤ 1048576) {p : Option Addr} {nc c : Nat} {cs : List Int} (hc : SlL w p nc cs) :
    Calls Try.prog 44 #[Pt M.m, .slice p nc c] w fun e w' => ∃ v, e = .returned v ∧ MLookR w (lookA n R cs) v w' := by
  refine V44_calls (some ⟨M.m, 0, none⟩) p nc c w (MLookR w (lookA n R cs)) ?_
  unfold V44
  have hlen := hc.len
  have hw : ∀ j : Nat, j < nc → IntKind.wrap .i64 ((j : Int) + 1) = ((j + 1 : Nat) : Int) := fun j hj => by have := hc.small; rw [IntKind.wrap_i64]; omega
  refine lp_of (fun s w1 => ∃ i : Nat, s.1 = i ∧ i ≤ nc ∧ (cs.take i).all (ownB n) = true ∧ w1 = w) (fun s _ => (nc - s.1).toNat) ⟨0, rfl, Nat.zero_le _, by simp, rfl⟩ ?_
  rintro ⟨i', ⟨⟩⟩ w1 ⟨i, rfl, hi, hall, rfl⟩
  simp only []
  refine pif_of (fun hlt => ?_) fun hge => ?_
  · have hlt : i < nc := by simpa using hlt
    refine hc.ix (by omega) (by omega) fun a ha => ldI_of ha ?_
    rw [Int.toNat_natCast]
    have hm := hc.mem hlt
    refine cl_of ok41 (own41 h _ (hc.lo hm).1) fun e w2 ⟨he, hw2⟩ => ⟨_, he, ?_⟩
    subst hw2
    rw [hw i hlt]
    rcases Bool.eq_false_or_eq_true (ownB n (cs.getD i 0)) with hb | hb
    · rw [hb]
      refine pif_f rfl ⟨⟨i + 1, rfl, hlt, ?_, rfl⟩, by omega⟩
      rw [List.take_add_one, List.all_append, hall, getD_of (d := 0) (by omega)]
      simpa using hb
    · rw [hb]
      refine pif_t rfl ⟨?_, Keep.refl _ _⟩
      have : cs.all (ownB n) = false := by
        rw [List.all_eq_false]
        exact ⟨_, hm, by rw [hb]; simp⟩
      unfold lookA
      rw [this, if_neg (by simp)]
  · have hge : i = nc := by simp at hge; omega
    subst hge
    rw [← hlen, List.take_length] at hall
    have hlk : lookA n R cs = lookM (valA n R) cs := by unfold lookA; rw [hall, if_pos rfl]
    rw [hlk]
    refine lp_of (fun s w3 => ∃ j : Nat, s.1 = j ∧ j ≤ cs.length ∧ (∀ l ∈ cs.take j, ¬ valA n R l = 1) ∧ w3 = w1) (fun s _ => (cs.length - s.1).toNat) ⟨0, rfl, Nat.zero_le _, by simp, rfl⟩ ?_
    rintro ⟨j', ⟨⟩⟩ w3 ⟨j, rfl, hj, hno, rfl⟩
    simp only []
    refine pif_of (fun hlt => ?_) fun hge => ?_
    · have hlt : j < cs.length := by simp at hlt; omega
      rw [hw j (by omega)]
      have hm := hc.mem (i := j) (by omega)
      refine hc.ix (by omega) (by omega) fun a ha' => ldI_of ha' ?_
      rw [Int.toNat_natCast]
      refine cl_of ok49 (value49 h _ (hc.lo hm) hR ha) fun e w5 ⟨he, hw5⟩ => ⟨_, he, ?_⟩
      subst hw5
      have ex : cs[j]? = some (cs.getD j 0) := getD_of hlt
      refine pif_of (fun h1 => ?_) fun h1 => ?_
      · have h1 : valA n R (cs.getD j 0) = 1 := by simpa using h1
        refine hc.drew.ix (by omega) (by omega) fun a ha' => ldI_of ha' ⟨?_, (Keep.refl _ _).drew⟩
        rw [Int.toNat_natCast]
        unfold lookM
        have : cs.find? (fun l => valA n R l == 1) = some (cs.getD j 0) := by
          have e0 : cs = cs.take j ++ cs.getD j 0 :: cs.drop (j + 1) := by
            conv => lhs; rw [← List.take_append_drop j cs]
            congr 1
            rw [List.drop_eq_getElem_cons hlt, List.getD_eq_getElem?_getD, List.getElem?_eq_getElem hlt]; rfl
          generalize cs.getD j 0 = x at *
          rw [e0, List.find?_append]
          have e1 : (cs.take j).find? (fun l => valA n R l == 1) = none := by
            rw [List.find?_eq_none]; intro l hl; simpa using hno l hl
          rw [e1, Option.none_or, List.find?_cons]
          have : (valA n R x == 1) = true := by simpa using h1
          rw [this]
        rw [this]
      · have h1 : ¬ valA n R (cs.getD j 0) = 1 := by simpa using h1
        refine ⟨⟨j + 1, rfl, hlt, fun l hl => ?_, rfl⟩, by omega⟩
        rw [List.take_add_one, ex] at hl
        rcases List.mem_append.1 hl with hl | hl
        · exact hno l hl
        · simp at hl; rw [hl]; simpa using h1
    · have hge : j = cs.length := by simp at hge; omega
      subst hge
      rw [List.take_length] at hno
      have hlm : lookM (valA n R) cs = openF (valA n R) cs 0 := by
        unfold lookM
        have : cs.find? (fun l => valA n R l == 1) = none := by
          rw [List.find?_eq_none]; intro l hl; simpa using hno l hl
        rw [this]
      rw [hlm]
      refine lp_of (fun s w4 => ∃ j : Nat, s.2.1 = j ∧ j ≤ cs.length ∧ openF (valA n R) (cs.drop j) s.1 = openF (valA n R) cs 0 ∧ w4 = w3) (fun s _ => (cs.length - s.2.1).toNat) ⟨0, rfl, Nat.zero_le _, rfl, rfl⟩ ?_
      rintro ⟨op, j', ⟨⟩⟩ w4 ⟨j, rfl, hj, hgo, rfl⟩
      simp only [] at hgo ⊢
      refine pif_of (fun hlt => ?_) fun hge => ?_
      · have hlt : j < cs.length := by simp at hlt; omega
        rw [hw j (by omega)]
        have hm := hc.mem (i := j) (by omega)
        have ed : cs.drop j = cs.getD j 0 :: cs.drop (j + 1) := by
          rw [List.drop_eq_getElem_cons hlt, List.getD_eq_getElem?_getD, List.getElem?_eq_getElem hlt]; rfl
        rw [ed, openF] at hgo
        refine jn_of ?_
        refine hc.ix (by omega) (by omega) fun a ha' => ldI_of ha' ?_
        rw [Int.toNat_natCast]
        refine cl_of ok49 (value49 h _ (hc.lo hm) hR ha) fun e w5 ⟨he, hw5⟩ => ⟨_, he, ?_⟩
        subst hw5
        by_cases h0 : valA n R (cs.getD j 0) = 0
        · have e1 : (valA n R (cs.getD j 0) != 0) = false := by simpa using h0
          rw [e1]
          refine gd_t rfl (hc.ix (by omega) (by omega) fun a ha' => gd_t rfl (ldI_of ha' ?_))
          rw [Int.toNat_natCast]
          refine pif_of (fun h2 => ?_) fun h2 => ?_
          · have h2 : cs.getD j 0 = op := by simpa using h2
            rw [if_pos (Or.inr h2)] at hgo
            exact ⟨⟨j + 1, rfl, hlt, hgo, rfl⟩, by omega⟩
          · have h2 : ¬ cs.getD j 0 = op := by simpa using h2
            rw [if_neg (by rintro (hh | hh); exact hh h0; exact h2 hh)] at hgo
            refine pif_of (fun h3 => ?_) fun h3 => ?_
            · have h3 : op ≠ 0 := by simpa using h3
              rw [if_pos h3] at hgo
              rw [← hgo]
              exact ⟨rfl, Keep.refl _ _⟩
            · have h3 : ¬ op ≠ 0 := by simpa using h3
              rw [if_neg h3] at hgo
              refine hc.ix (by omega) (by omega) fun a ha' => ldI_of ha' ?_
              rw [Int.toNat_natCast]
              exact ⟨⟨j + 1, rfl, hlt, hgo, rfl⟩, by omega⟩
        · have e1 : (valA n R (cs.getD j 0) != 0) = true := by simpa using h0
          rw [e1]
          rw [if_pos (Or.inl h0)] at hgo
          exact gd_f rfl (gd_f rfl (pif_t rfl ⟨⟨j + 1, rfl, hlt, hgo, rfl⟩, by omega⟩))
      · have hge : j = cs.length := by simp at hge; omega
        subst hge
        rw [List.drop_length, openF] at hgo
        refine pif_of (fun h2 => ?_) fun h2 => ?_
        · have h2 : op = 0 := by simpa using h2
          rw [if_pos h2] at hgo
          rw [← hgo]; exact ⟨rfl, Keep.refl _ _⟩
        · have h2 : ¬ op = 0 := by simpa using h2
          rw [if_neg h2] at hgo
          rw [← hgo]; exact ⟨rfl, Keep.refl _ _⟩
end
end Go.Proofs.Ytioaaeianjgaoaa.Trail
