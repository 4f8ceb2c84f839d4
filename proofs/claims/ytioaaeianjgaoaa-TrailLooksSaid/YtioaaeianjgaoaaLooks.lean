/- TrailLooks: what Look tells is what Value tells. -/
import Derived.Test.YtioaaeianjgaoaaUndo2
set_option linter.unusedVariables false
set_option linter.unusedSimpArgs false
set_option maxRecDepth 100000
namespace Go.Proofs.Ytioaaeianjgaoaa.Trail
open Go Go.Proofs.Ytioaaeianjgaoaa.Vc Go.Proofs.Ytioaaeianjgaoaa.T

theorem openF_none {f : Int → Int} : ∀ (cs : List Int) (op : Int), (∀ l ∈ cs, f l = 0 → l = op) → openF f cs op = if op = 0 then (-1, 0) else (2, op) := by
  intro cs
  induction cs with
  | nil => intro op _; rfl
  | cons l ls ih =>
    intro op h
    unfold openF
    have h0 := h l (by simp)
    rw [if_pos (by by_cases hz : f l = 0; exact Or.inr (h0 hz); exact Or.inl hz)]
    exact ih op fun x hx => h x (by simp [hx])
theorem openF_same {f : Int → Int} {o : Int} (ho : o ≠ 0) : ∀ (cs : List Int), (∀ l ∈ cs, f l = 0 → l = o) → (∃ l ∈ cs, f l = 0) → openF f cs 0 = (2, o) := by
  intro cs
  induction cs with
  | nil => intro _ h; obtain ⟨l, hl, _⟩ := h; cases hl
  | cons l ls ih =>
    intro h hx
    unfold openF
    by_cases hz : f l = 0
    · have e := h l (by simp) hz
      subst e
      rw [if_neg (by rintro (h1 | h1); exact h1 hz; exact ho h1), if_neg (by simp), openF_none ls l fun x hx => h x (by simp [hx]), if_neg ho]
    · rw [if_pos (Or.inl hz)]
      refine ih (fun x hx => h x (by simp [hx])) ?_
      obtain ⟨x, hx, hx0⟩ := hx
      rcases List.mem_cons.1 hx with rfl | hx
      · exact absurd hx0 hz
      · exact ⟨x, hx, hx0⟩
theorem openF_two1 {f : Int → Int} {o a : Int} (ho : o ≠ 0) : ∀ (cs : List Int), a ∈ cs → f a = 0 → a ≠ o → openF f cs o = (0, 0) := by
  intro cs
  induction cs with
  | nil => intro h; cases h
  | cons l ls ih =>
    intro hm h0 hne
    unfold openF
    rcases List.mem_cons.1 hm with rfl | hm
    · rw [if_neg (by rintro (h1 | h1); exact h1 h0; exact hne h1), if_pos ho]
    · split
      · exact ih hm h0 hne
      · first | rfl | rw [if_pos ho]
theorem openF_two {f : Int → Int} {a b : Int} : ∀ (cs : List Int), (∀ l ∈ cs, l ≠ 0) → a ∈ cs → b ∈ cs → f a = 0 → f b = 0 → a ≠ b → openF f cs 0 = (0, 0) := by
  intro cs
  induction cs with
  | nil => intro _ h; cases h
  | cons l ls ih =>
    intro hz ha hb h1 h2 hne
    unfold openF
    have hl := hz l (by simp)
    by_cases h0 : f l = 0
    · rw [if_neg (by rintro (h | h); exact h h0; exact hl h), if_neg (by simp)]
      rcases List.mem_cons.1 ha with rfl | ha
      · rcases List.mem_cons.1 hb with rfl | hb
        · exact absurd rfl hne
        · exact openF_two1 hl ls hb h2 (Ne.symm hne)
      · by_cases hal : a = l
        · subst hal
          rcases List.mem_cons.1 hb with rfl | hb
          · exact absurd rfl hne
          · exact openF_two1 hl ls hb h2 (Ne.symm hne)
        · exact openF_two1 hl ls ha h1 hal
    · rw [if_pos (Or.inl h0)]
      refine ih (fun x hx => hz x (by simp [hx])) ?_ ?_ h1 h2 hne
      · rcases List.mem_cons.1 ha with rfl | ha
        · exact absurd h1 h0
        · exact ha
      · rcases List.mem_cons.1 hb with rfl | hb
        · exact absurd h2 h0
        · exact hb

section
variable {n : Nat} {w : World} {T : TI} {R : List E} {L : List Int}
def aloneA (f : Int → Int) (cs : List Int) (o : Int) : Bool := cs.all fun l => !(f l == 0) || l == o
theorem alone25 (h : Tr n w T R L) {p : Option Addr} {nc c : Nat} {cs : List Int} (hc : SlL w p nc cs) (o : Int) :
    Calls Try.prog 25 #[Pt T.t, .slice p nc c, I o] w fun e w' => e = .returned (.bool (aloneA (valA n R) cs o)) ∧ Keep None w w' := by
  refine (V25_calls (some ⟨T.t, 0, none⟩) p nc c o w (fun v w' => v = .bool (aloneA (valA n R) cs o) ∧ Keep None w w') ?_).mono fun e w' ⟨v, he, hv, hk⟩ => ⟨by rw [he, hv], hk⟩
  unfold V25
  have hlen := hc.len
  have hsm := hc.small
  refine lp_of (fun s w1 => ∃ i : Nat, s.1 = i ∧ i ≤ nc ∧ aloneA (valA n R) (cs.take i) o = true ∧ Keep None w w1) (fun s _ => (nc - s.1).toNat) ⟨0, rfl, Nat.zero_le _, rfl, Keep.refl _ _⟩ ?_
  rintro ⟨i', ⟨⟩⟩ w1 ⟨i, rfl, hi, hall, k1⟩
  simp only []
  refine pif_of (fun hlt => ?_) fun hge => ?_
  · have hlt : i < nc := by simpa using hlt
    have hc1 := hc.keep0 k1
    refine hc1.ix (by omega) (by omega) fun a ha => ldI_of ha ?_
    have hm := hc.mem hlt
    rw [Int.toNat_natCast]
    refine cl_of ok14 ((h.keep0 k1).value _ (hc.lo hm).1) fun e w2 ⟨he, k2⟩ => ⟨_, he, ?_⟩
    have k12 := k1.then0 k2
    have ew : IntKind.wrap .i64 ((i : Int) + 1) = ((i + 1 : Nat) : Int) := by rw [IntKind.wrap_i64]; omega
    rw [ew]
    have et : cs.take (i + 1) = cs.take i ++ [cs.getD i 0] := by rw [List.take_add_one, getD_of (d := 0) (by omega)]; rfl
    by_cases h0 : valA n R (cs.getD i 0) = 0
    · have e0 : (valA n R (cs.getD i 0) == 0) = true := by simpa using h0
      rw [e0]
      have hc2 := hc.keep0 k12
      refine gd_t rfl (hc2.ix (by omega) (by omega) fun a2 ha2 => gd_t rfl (ldI_of ha2 ?_))
      rw [Int.toNat_natCast]
      refine pif_of (fun hne => ⟨?_, k12⟩) fun heq => ⟨⟨i + 1, rfl, hlt, ?_, k12⟩, by omega⟩
      · have hne : cs.getD i 0 ≠ o := by simpa using hne
        have : aloneA (valA n R) cs o = false := by
          unfold aloneA
          rw [List.all_eq_false]
          exact ⟨_, hm, by rw [e0]; simpa using hne⟩
        rw [this]
      · have heq : cs.getD i 0 = o := by simpa using heq
        unfold aloneA at *
        rw [et, List.all_append, hall]
        simp only [List.all_cons, List.all_nil, heq, beq_self_eq_true, Bool.or_true, Bool.and_self]
    · have e0 : (valA n R (cs.getD i 0) == 0) = false := by simpa using h0
      rw [e0]
      refine gd_f rfl (gd_f rfl (pif_f rfl ⟨⟨i + 1, rfl, hlt, ?_, k12⟩, by omega⟩))
      unfold aloneA at *
      rw [et, List.all_append, hall]
      simp only [List.all_cons, List.all_nil, e0, Bool.not_false, Bool.true_or, Bool.and_self]
  · have hge : i = nc := by simp at hge; omega
    subst hge
    rw [← hlen, List.take_length] at hall
    exact ⟨by rw [hall], k1⟩

/-- what has been met of a clause so far -/
structure Met (f : Int → Int) (n : Nat) (cs : List Int) (first op opens : Int) : Prop where
  own : ∀ l ∈ cs, ownB n l = true
  one : cs.find? (fun l => f l == 1) = if first = 0 then none else some first
  opn : (opens = 0 ∧ op = 0 ∧ ∀ l ∈ cs, f l ≠ 0) ∨ (0 < opens ∧ op ∈ cs ∧ f op = 0)
  cnt : opens ≤ cs.length
theorem own_ne {l : Int} (h : ownB n l = true) : l ≠ 0 := by have := own_lt h; omega
theorem law6 (v0 : Int) (sp : Option Addr) (m c : Nat) (ops : List (Int × Int × Int)) (p : Option Addr) (nc cc : Nat) (cs : List Int) (w : World) (hv : i64 v0) (ho : OpD w sp m ops) (hc : SlL w p nc cs) :
    Calls Try.prog 6 #[I v0, .slice sp m c, .slice p nc cc] w fun e w' => e = .returned (.bool true) ∧ RowKit.Below w.heap.size w w' := by
  refine (V6_calls v0 sp m c p nc cc w (Yes2 w) ?_).mono fun e w' ⟨v, he, hv, hk⟩ => ⟨by rw [he, hv], hk.below0⟩
  unfold V6
  refine cl_of ok17 (begun17 hv ho) fun e w1 ⟨r, he, k1, T, hr, hF, hT⟩ => ⟨_, he.trans (congrArg Ending.returned hr), ?_⟩
  refine gd_t rfl (cl_of ok21 (live21 w1) fun e w3 ⟨he, k3⟩ => ⟨_, he, pif_f rfl ?_⟩)
  have m1 := Int.emod_nonneg v0 (show (41 : Int) ≠ 0 by omega)
  have m2 := Int.emod_lt_of_pos v0 (show (0 : Int) < 41 by omega)
  refine cl_of ok23 (pick23 v0 41 w3 hv (by omega)) fun e w4 ⟨he, hw⟩ => ⟨_, he, ?_⟩
  subst hw
  have hT3 := hT.keep0 k3
  have hn : v0 % 41 = ((v0 % 41).toNat : Int) := by omega
  rw [hn]
  generalize (v0 % 41).toNat = n at *
  generalize (runA n ops).1 = R at *
  generalize (runA n ops).2 = L at *
  have k0 := k1.then0 k3
  have hc3 := hc.keep0 k0
  have hlen := hc.len
  have hsm := hc.small
  have hns := hT3.small
  refine lp_of (fun s w5 => ∃ i : Nat, s.2.2.2.1 = i ∧ i ≤ nc ∧ Met (valA n R) n (cs.take i) s.1 s.2.1 s.2.2.1 ∧ Keep None w4 w5) (fun s _ => (nc - s.2.2.2.1).toNat)
    ⟨0, rfl, Nat.zero_le _, ⟨by simp, by simp, Or.inl ⟨rfl, rfl, by simp⟩, by simp⟩, Keep.refl _ _⟩ ?_
  rintro ⟨first, op, opens, i', ⟨⟩⟩ w5 ⟨i, rfl, hi, hM, k5⟩
  simp only [] at hM ⊢
  have hc5 := hc3.keep0 k5
  have hT5 := hT3.keep0 k5
  refine pif_of (fun hlt => ?_) fun hge => ?_
  · have hlt : i < nc := by simpa using hlt
    have hm := hc.mem hlt
    have hlo := hc.lo hm
    have ew : IntKind.wrap .i64 ((i : Int) + 1) = ((i + 1 : Nat) : Int) := by rw [IntKind.wrap_i64]; omega
    rw [ew]
    have et : cs.take (i + 1) = cs.take i ++ [cs.getD i 0] := by rw [List.take_add_one, getD_of (d := 0) (by omega)]; rfl
    have htl : (cs.take i).length = i := by simp; omega
    refine ⟨fun s w6 => Met (valA n R) n (cs.take (i + 1)) s.1 s.2.1 s.2.2.1 ∧ Keep None w4 w6, ?_, fun s w6 ⟨hM', k6⟩ => ⟨⟨i + 1, rfl, hlt, hM', k6⟩, by first | omega | (simp only []; omega)⟩⟩
    refine hc5.ix (by omega) (by omega) fun a ha => ldI_of ha ?_
    rw [Int.toNat_natCast]
    rw [et]
    generalize cs.getD i 0 = l at *
    have ewn : IntKind.wrap .i64 (0 - (n : Int)) = -(n : Int) := by rw [IntKind.wrap_i64]; omega
    rw [ewn]
    rcases Bool.eq_false_or_eq_true (ownB n l) with hb | hb
    · have hb' := own_lt hb
      have hcond : (cond (cond (l == 0) true (decide (l > (n : Int)))) true (decide (l < -(n : Int)))) = false := by
        have e1 : (l == 0) = false := by simp; omega
        have e2 : decide (l > (n : Int)) = false := by simp; omega
        have e3 : decide (l < -(n : Int)) = false := by simp; omega
        rw [e1, e2, e3]; rfl
      refine pif_f hcond ?_
      refine ⟨fun s w8 => s.1 = (if valA n R l = 1 ∧ first = 0 then l else first) ∧ Keep None w4 w8, ?_, ?_⟩
      · refine cl_of ok14 (hT5.value l hlo.1) fun e w9 ⟨he, k9⟩ => ⟨_, he, ?_⟩
        by_cases h1 : valA n R l = 1 ∧ first = 0
        · rw [if_pos h1]
          exact pif_t (by simp [h1.1, h1.2]) ⟨rfl, k5.then0 k9⟩
        · rw [if_neg h1]
          refine pif_f ?_ ⟨rfl, k5.then0 k9⟩
          by_cases h2 : valA n R l = 1
          · have : ¬ first = 0 := fun h => h1 ⟨h2, h⟩
            simp [h2, this]
          · simp [h2]
      · rintro ⟨f2, ⟨⟩⟩ w8 ⟨rfl, k8⟩
        simp only []
        have hT8 := hT3.keep0 k8
        have hone : (cs.take i ++ [l]).find? (fun l => valA n R l == 1) = if (if valA n R l = 1 ∧ first = 0 then l else first) = 0 then none else some (if valA n R l = 1 ∧ first = 0 then l else first) := by
          rw [List.find?_append, hM.one]
          by_cases hf : first = 0
          · by_cases h1 : valA n R l = 1
            · have e1 : (if valA n R l = 1 ∧ first = 0 then l else first) = l := if_pos ⟨h1, hf⟩
              rw [e1, if_neg (own_ne hb), if_pos hf]
              simp [h1]
            · have e1 : (if valA n R l = 1 ∧ first = 0 then l else first) = first := if_neg fun h => h1 h.1
              rw [e1, if_pos hf]
              simp [h1]
          · have e1 : (if valA n R l = 1 ∧ first = 0 then l else first) = first := if_neg fun h => hf h.2
            rw [e1, if_neg hf]; rfl
        have hown : ∀ x ∈ cs.take i ++ [l], ownB n x = true := fun x hx => by
          rcases List.mem_append.1 hx with hx | hx
          · exact hM.own x hx
          · simp only [List.mem_singleton] at hx; subst hx; exact hb
        have hcnt := hM.cnt
        refine cl_of ok14 (hT8.value l hlo.1) fun e w9 ⟨he, k9⟩ => ⟨_, he, ?_⟩
        have k9' := k8.then0 k9
        refine pif_of (fun h0 => ?_) fun h0 => ?_
        · have h0 : valA n R l = 0 ∧ l ≠ op := by simpa using h0
          have eo : IntKind.wrap .i64 (opens + 1) = opens + 1 := by
            rw [IntKind.wrap_i64]
            rw [htl] at hcnt
            have : 0 ≤ opens := by rcases hM.opn with h | h <;> omega
            omega
          rw [eo]
          refine ⟨⟨hown, hone, Or.inr ⟨?_, by simp, h0.1⟩, by rw [List.length_append]; simp only [List.length_singleton]; omega⟩, k9'⟩
          show 0 < opens + 1
          rcases hM.opn with h | h <;> omega
        · have h0 : ¬ (valA n R l = 0 ∧ l ≠ op) := by simpa using h0
          refine ⟨⟨hown, hone, ?_, by rw [List.length_append]; simp only [List.length_singleton]; omega⟩, k9'⟩
          rcases hM.opn with ⟨a1, a2, a3⟩ | ⟨a1, a2, a3⟩
          · refine Or.inl ⟨a1, a2, fun x hx => ?_⟩
            rcases List.mem_append.1 hx with hx | hx
            · exact a3 x hx
            · simp only [List.mem_singleton] at hx; subst hx
              exact fun hz => h0 ⟨hz, by rw [a2]; exact own_ne hb⟩
          · exact Or.inr ⟨a1, List.mem_append_left _ a2, a3⟩
    · have hcond : (cond (cond (l == 0) true (decide (l > (n : Int)))) true (decide (l < -(n : Int)))) = true := by
        have : ¬ (1 ≤ l.natAbs ∧ l.natAbs ≤ n) := fun h => by
          have : ownB n l = true := by unfold ownB; simp; omega
          rw [this] at hb; cases hb
        by_cases e1 : l = 0
        · simp [e1]
        · by_cases e2 : l > (n : Int)
          · have : decide (l > (n : Int)) = true := by simpa using e2
            rw [this]; cases (l == 0) <;> rfl
          · have : decide (l < -(n : Int)) = true := by simp; omega
            rw [this]; cases (cond (l == 0) true (decide (l > (n : Int)))) <;> rfl
      refine pif_t hcond (cl_of ok24 (hT5.look hc5) fun e w7 ⟨v, he, hv, k7⟩ => ⟨_, _, he.trans (congrArg Ending.returned hv), ?_⟩)
      have : lookA n R cs = (0, 0) := by
        unfold lookA
        rw [if_neg]
        intro h
        rw [List.all_eq_true] at h
        have := h _ hm
        rw [hb] at this
        cases this
      rw [this]
      exact ⟨rfl, (k0.then0 k5).then0 k7⟩
  · have hge : i = nc := by simp at hge; omega
    subst hge
    rw [← hlen, List.take_length] at hM
    refine cl_of ok24 (hT5.look hc5) fun e w7 ⟨v, he, hv, k7⟩ => ⟨_, _, he.trans (congrArg Ending.returned hv), ?_⟩
    have kk := (k0.then0 k5).then0 k7
    have hall : cs.all (ownB n) = true := by rw [List.all_eq_true]; exact hM.own
    have hlk : lookA n R cs = lookM (valA n R) cs := by unfold lookA; rw [if_pos hall]
    rw [hlk]
    have hone := hM.one
    unfold lookM
    refine pif_of (fun hf => ?_) fun hf => ?_
    · have hf : first ≠ 0 := by simpa using hf
      rw [if_neg hf] at hone
      rw [hone]
      exact ⟨by simp, kk⟩
    · have hf : first = 0 := by simpa using hf
      rw [if_pos hf] at hone
      rw [hone]
      simp only []
      refine pif_of (fun h0 => ?_) fun h0 => ?_
      · have h0 : opens = 0 := by simpa using h0
        rcases hM.opn with ⟨a1, a2, a3⟩ | ⟨a1, a2, a3⟩
        · rw [openF_none cs 0 fun l hl hz => absurd hz (a3 l hl)]
          exact ⟨by simp, kk⟩
        · omega
      · have h0 : opens ≠ 0 := by simpa using h0
        obtain ⟨a1, a2, a3⟩ := hM.opn.resolve_left fun h => h0 h.1
        have hT7 := hT5.keep0 k7
        have hc7 := hc5.keep0 k7
        refine cl_of ok25 (alone25 hT7 hc7 op) fun e w8 ⟨he, k8⟩ => ⟨_, he, ?_⟩
        have kk8 := kk.then0 k8
        have hop := own_ne (hM.own op a2)
        have haln : aloneA (valA n R) cs op = true ↔ ∀ l ∈ cs, valA n R l = 0 → l = op := by
          unfold aloneA
          rw [List.all_eq_true]
          constructor
          · intro h l hl hz
            have := h l hl
            rw [hz] at this
            simpa using this
          · intro h l hl
            by_cases hz : valA n R l = 0
            · simp [h l hl hz]
            · simp [hz]
        refine pif_of (fun hal => ?_) fun hal => ?_
        · have hal : ¬ ∀ l ∈ cs, valA n R l = 0 → l = op := fun h => by rw [haln.2 h] at hal; cases hal
          have : ∃ a ∈ cs, valA n R a = 0 ∧ a ≠ op := by
            apply Classical.byContradiction
            intro hno
            exact hal fun l hl hz => Classical.byContradiction fun hne => hno ⟨l, hl, hz, hne⟩
          obtain ⟨a, ha, ha0, hne⟩ := this
          rw [openF_two cs (fun l hl => own_ne (hM.own l hl)) ha a2 ha0 a3 hne]
          exact ⟨rfl, kk8⟩
        · have hal : ∀ l ∈ cs, valA n R l = 0 → l = op := haln.1 (by simpa using hal)
          rw [openF_same hop cs hal ⟨op, a2, a3⟩]
          refine pif_f (by simp) ?_
          have hT8 := hT7.keep0 k8
          have hlo := hc.lo a2
          have hfr : freeA n R op = 0 := by
            have := hM.own op a2
            unfold valA at a3
            unfold freeA
            rw [if_pos this] at a3 ⊢
            cases he : ent R op.natAbs with
            | none => rfl
            | some e => rw [he] at a3; simp only [] at a3; split at a3 <;> omega
          have him : implA n R op 3 = 0 := by unfold implA; rw [if_pos hfr]; rfl
          refine cl_of ok26 (hT8.imply op 3 hlo.1) fun e w9 ⟨he, k9, T', m9, hT9⟩ => ⟨_, he, ?_⟩
          rw [him, if_pos rfl] at hT9
          rw [him]
          refine pif_f rfl ?_
          have kk9 : Keep None w w9 := kk8.trans k9 fun i hi h => by have := hF i h; omega
          have hlk9 := hT9.look (hc.keep0 kk9) (c := cc)
          rw [m9.1] at hlk9
          refine cl_of ok24 hlk9 fun e wa ⟨v, he, hv, ka⟩ => ⟨_, _, he.trans (congrArg Ending.returned hv), ?_⟩
          have hfo := freeA_open hfr
          have hva : ∀ l ∈ cs, valA n (R ++ [⟨op, L.length, 3⟩]) l = 1 → l = op := fun l hl h1 => by
            have hno : valA n R l ≠ 1 := by
              have := List.find?_eq_none.1 hone l hl
              simpa using this
            unfold valA ent at h1 hno
            rw [if_pos (hM.own l hl)] at h1 hno
            rw [find_snoc] at h1
            cases hq : R.find? (fun e => e.lit.natAbs == l.natAbs) with
            | some e => rw [hq] at h1 hno; exact absurd h1 hno
            | none =>
              rw [hq] at h1
              simp only [] at h1
              split at h1
              · rename_i e he
                split at he
                · injection he with he
                  subst he
                  simp only [] at h1
                  split at h1
                  · rename_i hh; exact hh.symm
                  · omega
                · cases he
              · omega
          have hvo : valA n (R ++ [⟨op, L.length, 3⟩]) op = 1 := by
            unfold valA ent
            rw [hfo.1, if_pos rfl, find_snoc, hfo.2.find]
            simp
          have hfind : cs.find? (fun l => valA n (R ++ [⟨op, L.length, 3⟩]) l == 1) = some op := by
            cases hq : cs.find? (fun l => valA n (R ++ [⟨op, L.length, 3⟩]) l == 1) with
            | none =>
              have := List.find?_eq_none.1 hq op a2
              rw [hvo] at this
              simp at this
            | some x =>
              have h1 := List.find?_some hq
              have h2 := List.mem_of_find?_eq_some hq
              rw [hva x h2 (by simpa using h1)]
          have : lookA n (R ++ [⟨op, L.length, 3⟩]) cs = (1, op) := by
            unfold lookA lookM
            rw [if_pos hall, hfind]
          rw [this]
          exact ⟨by simp, kk9.then0 ka⟩
end
end Go.Proofs.Ytioaaeianjgaoaa.Trail
