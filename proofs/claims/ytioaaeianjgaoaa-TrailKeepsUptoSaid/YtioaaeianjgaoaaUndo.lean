/- TrailUndoes: Back undoes: the row behind it is the one ahead of the decision. -/
import Derived.Test.YtioaaeianjgaoaaStands
set_option linter.unusedVariables false
set_option linter.unusedSimpArgs false
set_option maxRecDepth 100000
namespace Go.Proofs.Ytioaaeianjgaoaa.Trail
open Go Go.Proofs.Ytioaaeianjgaoaa.Vc Go.Proofs.Ytioaaeianjgaoaa.T

/-- a row that begins so, with levels that begin so, and nothing behind below a level -/
structure Over (R0 : List E) (L0 : List Int) (fl : Int) (S : List E × List Int) : Prop where
  row : ∃ Q, S.1 = R0 ++ Q ∧ ∀ e ∈ Q, fl ≤ e.lv
  lev : ∃ Q, S.2 = L0 ++ Q
theorem Over.step {n : Nat} {R0 : List E} {L0 : List Int} {S : List E × List Int} (h : Over R0 L0 L0.length S) (h0 : ∀ e ∈ R0, e.lv ≤ L0.length) (o : Int × Int × Int) : Over R0 L0 L0.length (stepA n L0.length S o) := by
  obtain ⟨⟨Q, hQ, hQl⟩, ⟨P, hP⟩⟩ := h
  unfold stepA
  split
  · split
    · refine ⟨⟨Q ++ [⟨o.2.1, (S.2.length + 1 : Nat), -1⟩], by rw [hQ, List.append_assoc], fun e he => ?_⟩, ⟨P ++ [(S.1.length : Int)], by rw [hP, List.append_assoc]⟩⟩
      rcases List.mem_append.1 he with he | he
      · exact hQl e he
      · simp only [List.mem_singleton] at he; subst he; rw [hP, List.length_append]; simp only []; omega
    · exact ⟨⟨Q, hQ, hQl⟩, ⟨P, hP⟩⟩
  · split
    · split
      · refine ⟨⟨Q ++ [⟨o.2.1, S.2.length, o.2.2⟩], by rw [hQ, List.append_assoc], fun e he => ?_⟩, ⟨P, hP⟩⟩
        rcases List.mem_append.1 he with he | he
        · exact hQl e he
        · simp only [List.mem_singleton] at he; subst he; rw [hP, List.length_append]; simp only []; omega
      · exact ⟨⟨Q, hQ, hQl⟩, ⟨P, hP⟩⟩
    · have hk : (L0.length : Int) ≤ (if o.2.1 < (L0.length : Int) then (L0.length : Int) else o.2.1) := by split <;> omega
      generalize (if o.2.1 < (L0.length : Int) then (L0.length : Int) else o.2.1) = k at *
      split
      · rename_i hr
        refine ⟨⟨upto k Q, ?_, fun e he => hQl e (List.mem_filter.1 he).1⟩, ⟨P.take (k.toNat - L0.length), ?_⟩⟩
        · show upto k S.1 = _
          rw [hQ]
          unfold upto
          rw [List.filter_append]
          congr 1
          rw [List.filter_eq_self]
          intro e he
          have := h0 e he
          simp only [decide_eq_true_eq]
          omega
        · show S.2.take k.toNat = _
          rw [hP, List.take_append, List.take_of_length_le (by omega)]
      · exact ⟨⟨Q, hQ, hQl⟩, ⟨P, hP⟩⟩
theorem Over.fold {n : Nat} {R0 : List E} {L0 : List Int} (h0 : ∀ e ∈ R0, e.lv ≤ L0.length) (ops : List (Int × Int × Int)) : ∀ {S : List E × List Int}, Over R0 L0 L0.length S → Over R0 L0 L0.length (ops.foldl (stepA n L0.length) S) := by
  induction ops with
  | nil => intro S h; exact h
  | cons o ops ih => intro S h; exact ih (h.step h0 o)

/-- all that a trail answers of the literals -43 to 43 -/
def sayA (n : Nat) (R : List E) (L : List Int) : Nat → List Int
  | 0 => [(L.length : Int), (R.length : Int), (L.length : Int)] ++ lits R ++ L
  | k + 1 => sayA n R L k ++ [valA n R ((k : Int) - 43), levA n R ((k : Int) - 43), reaA n R ((k : Int) - 43)]
theorem sayA_len {n : Nat} {R : List E} {L : List Int} (k : Nat) : (sayA n R L k).length = 3 + R.length + L.length + 3 * k := by
  induction k with
  | zero => simp [sayA, lits]; omega
  | succ k ih => simp [sayA, ih]; omega
theorem valA_small (n : Nat) (R : List E) (l : Int) : -1 ≤ valA n R l ∧ valA n R l ≤ 1 := by
  unfold valA
  split
  · split
    · split <;> omega
    · omega
  · omega

section
variable {n : Nat} {w : World} {T : TI} {R : List E} {L : List Int}
theorem Tr.levA_small (h : Tr n w T R L) (v : Int) : -1 ≤ levA n R v ∧ levA n R v ≤ 1048576 := by
  have hs := h.small
  unfold levA
  split
  · split
    · rename_i e he
      have := h.st.lvl e (ent_some he).2
      omega
    · omega
  · omega

/-- a row of a call's own, more cells appended -/
theorem app_ints {w w0 : World} {p : Option Addr} {n c b : Nat} {xs ys : List Int} {K : Option Addr → Nat → Nat → World → Prop} {m : Nat}
    (hO : Own w 3 1 p n c (xs.map I)) (hB : Blk w b (ys.map I) 3) (hm : ys.length = m) (hn : n = xs.length) (hs : n + m < 1099511627776) (hf : ∀ i, ob p i → w0.heap.size ≤ i) (hw : w0.heap.size ≤ w.heap.size)
    (hk : ∀ p' c' w', Own w' 3 1 p' (n + m) c' ((xs ++ ys).map I) → (∀ i, ob p' i → w0.heap.size ≤ i) → Keep (ob p) w w' → K p' (n + m) c' w') :
    ∃ (p' : Option Addr) (n' c' : Nat), ∃ w' : World, (Builtin.append_ #[26, 26] 26 #[.slice p n c, .slice (some ⟨b, 0, none⟩) m m]).run Try.prog w = .ok (.slice p' n' c') w' ∧ K p' n' c' w' := by
  have hN : News w 1 (some ⟨b, 0, none⟩) m m (ys.map I) := Or.inr ⟨_, rfl, by simpa using hm, fun j u hu => by
    rw [add_mk, Nat.zero_add, hB.cell]; exact hu⟩
  refine app_of (e := 3) (sz := 1) (z := I 0) (B := 8) Try.underlying26 (by kernel_rfl) rfl (by omega) hO hN (fun u hu => ?_) (by simp only [maxLen]; omega) (by omega) fun p' c' w' hO' k hf' => ?_
  · obtain ⟨x, _, rfl⟩ := List.mem_map.1 hu; rfl
  · refine hk p' c' w' (by simpa using hO') (fun i hi => ?_) k
    rcases hf' i hi with h | h
    · exact hf i h
    · omega

/-- a list that is copied, behind what is there: the loop's invariant -/
structure Grow (w0 w : World) (base : Nat) (p : Option Addr) (m c : Nat) (xs : List Int) : Prop where
  own : Own w 3 1 p m c (xs.map I)
  len : m = xs.length
  old : ∀ i, ob p i → base ≤ i
  keep : Keep None w0 w
theorem Grow.mk1 {w0 w : World} {base : Nat} {p : Option Addr} {m c : Nat} {xs : List Int} {x : Int} {K : Option Addr → Nat → Nat → World → Prop} (h : Grow w0 w base p m c xs) (hb : base = w0.heap.size) (hs : m + 1 < 1099511627776)
    (hk : ∀ p' c' w', Grow w0 w' base p' (m + 1) c' (xs ++ [x]) → K p' (m + 1) c' w') :
    alc w [I x] 3 fun b w7 => ∃ (p' : Option Addr) (n' c' : Nat), ∃ w' : World, (Builtin.append_ #[26, 26] 26 #[.slice p m c, .slice (some ⟨b, 0, none⟩) 1 1]).run Try.prog w7 = .ok (.slice p' n' c') w' ∧ K p' n' c' w' := by
  refine alc_at fun b w7 hb7 h7 k7 => ?_
  have hO := h.own.keep0 k7
  have z := k7.size
  have z2 := h.keep.size
  refine app_int (w0 := w0) (x := x) hO h7 h.len (by omega) (fun i hi => by have := h.old i hi; omega) (by omega) fun p' c' w' hO' hf' k' => hk p' c' w' ⟨hO', by rw [List.length_append, h.len]; rfl, fun i hi => by have := hf' i hi; omega, ?_⟩
  exact (h.keep.then0 k7).trans k' fun i hi hh => by have := h.old i hh; omega
theorem Grow.mk3 {w0 w : World} {base : Nat} {p : Option Addr} {m c : Nat} {xs : List Int} {x y z : Int} {K : Option Addr → Nat → Nat → World → Prop} (h : Grow w0 w base p m c xs) (hb : base = w0.heap.size) (hs : m + 3 < 1099511627776)
    (hk : ∀ p' c' w', Grow w0 w' base p' (m + 3) c' (xs ++ [x, y, z]) → K p' (m + 3) c' w') :
    alc w [I x, I y, I z] 3 fun b w7 => ∃ (p' : Option Addr) (n' c' : Nat), ∃ w' : World, (Builtin.append_ #[26, 26] 26 #[.slice p m c, .slice (some ⟨b, 0, none⟩) 3 3]).run Try.prog w7 = .ok (.slice p' n' c') w' ∧ K p' n' c' w' := by
  refine alc_at fun b w7 hb7 h7 k7 => ?_
  have hO := h.own.keep0 k7
  have zz := k7.size
  have z2 := h.keep.size
  refine app_ints (w0 := w0) (ys := [x, y, z]) (m := 3) hO h7 rfl h.len (by omega) (fun i hi => by have := h.old i hi; omega) (by omega) fun p' c' w' hO' hf' k' => hk p' c' w' ⟨hO', by rw [List.length_append, h.len]; rfl, fun i hi => by have := hf' i hi; omega, ?_⟩
  exact (h.keep.then0 k7).trans k' fun i hi hh => by have := h.old i hh; omega

def Says (w : World) (xs : List Int) (v : Value) (w' : World) : Prop := Fresh w w' v xs ∧ Keep None w w'
theorem sayings20 (h : Tr n w T R L) : Calls Try.prog 20 #[Pt T.t] w fun e w' => ∃ v, e = .returned v ∧ Says w (sayA n R L 87) v w' := by
  refine V20_calls (some ⟨T.t, 0, none⟩) w (Says w (sayA n R L 87)) ?_
  unfold V20
  have hs := h.small
  have hlv := h.st.levs
  refine cl_of ok10 h.lits fun e w1 ⟨v, he, hf, k1⟩ => ?_
  have hf' := hf
  obtain ⟨p, cc, hv1, _, _⟩ := hf
  refine ⟨p, _, cc, he.trans (congrArg Ending.returned hv1), ?_⟩
  have h1 := h.keep0 k1
  refine cl_of ok11 h1.marks fun e w2 ⟨v2, he, hf2, k2⟩ => ?_
  have hf2' := hf2
  obtain ⟨q, cq, hv2, _, _⟩ := hf2
  refine ⟨q, _, cq, he.trans (congrArg Ending.returned hv2), ?_⟩
  have h2 := h1.keep0 k2
  refine cl_of ok13 h2.level fun e w3 ⟨he, hw⟩ => ⟨_, he, ?_⟩
  subst hw
  have hX := hf'.slL hv1 h.wfL k2
  have hY := hf2'.slL hv2 h1.wfM (Keep.refl _ _)
  rw [lits_len] at hX ⊢
  have kk : Keep None w w3 := k1.then0 k2
  have G0 : Grow w3 w3 w3.heap.size none 0 0 [] := ⟨Own.nil _ _ _, rfl, (fun i ⟨a, hh, _⟩ => by cases hh), Keep.refl _ _⟩
  refine G0.mk3 rfl (by omega) fun p4 c4 w4 G4 => ?_
  simp only [List.nil_append, Nat.zero_add] at G4 ⊢
  refine lp_of (fun s w5 => ∃ i : Nat, s.2.1 = i ∧ i ≤ R.length ∧ s.1.2.1 = 3 + i ∧ Grow w3 w5 w3.heap.size s.1.1 s.1.2.1 s.1.2.2 ([(L.length : Int), (R.length : Int), (L.length : Int)] ++ (lits R).take i)) (fun s _ => (R.length - s.2.1).toNat)
    ⟨0, rfl, Nat.zero_le _, rfl, by simpa using G4⟩ ?_
  rintro ⟨⟨pp, mm, cc5⟩, i', ⟨⟩⟩ w5 ⟨i, rfl, hi, rfl, G5⟩
  simp only [] at G5 ⊢
  refine pif_of (fun hlt => ?_) fun hge => ?_
  · have hlt : i < R.length := by simpa using hlt
    refine (hX.keep0 G5.keep).ix (by omega) (by omega) fun a ha => ldI_of ha ?_
    rw [Int.toNat_natCast]
    have ew : IntKind.wrap .i64 ((i : Int) + 1) = ((i + 1 : Nat) : Int) := by rw [IntKind.wrap_i64]; omega
    rw [ew]
    refine G5.mk1 rfl (by omega) fun p6 c6 w6 G6 => ⟨⟨i + 1, rfl, hlt, by omega, ?_⟩, by omega⟩
    have et : (lits R).take (i + 1) = (lits R).take i ++ [(lits R).getD i 0] := by rw [List.take_add_one, getD_of (d := 0) (by rw [lits_len]; exact hlt)]; rfl
    rw [et, ← List.append_assoc]
    exact G6
  · have hge : i = R.length := by simp at hge; omega
    subst hge
    rw [List.take_of_length_le (by rw [lits_len]; omega)] at G5
    refine lp_of (fun s w7 => ∃ i : Nat, s.2.1 = i ∧ i ≤ L.length ∧ s.1.2.1 = 3 + R.length + i ∧ Grow w3 w7 w3.heap.size s.1.1 s.1.2.1 s.1.2.2 ([(L.length : Int), (R.length : Int), (L.length : Int)] ++ lits R ++ L.take i)) (fun s _ => (L.length - s.2.1).toNat)
      ⟨0, rfl, Nat.zero_le _, rfl, by simpa using G5⟩ ?_
    rintro ⟨⟨pp7, mm7, cc7⟩, i', ⟨⟩⟩ w7 ⟨i, rfl, hi, rfl, G7⟩
    simp only [] at G7 ⊢
    refine pif_of (fun hlt => ?_) fun hge => ?_
    · have hlt : i < L.length := by simpa using hlt
      refine (hY.keep0 G7.keep).ix (by omega) (by omega) fun a ha => ldI_of ha ?_
      rw [Int.toNat_natCast]
      have ew : IntKind.wrap .i64 ((i : Int) + 1) = ((i + 1 : Nat) : Int) := by rw [IntKind.wrap_i64]; omega
      rw [ew]
      refine G7.mk1 rfl (by omega) fun p6 c6 w6 G6 => ⟨⟨i + 1, rfl, hlt, by omega, ?_⟩, by omega⟩
      have et : L.take (i + 1) = L.take i ++ [L.getD i 0] := by rw [List.take_add_one, getD_of (d := 0) hlt]; rfl
      rw [et, ← List.append_assoc]
      exact G6
    · have hge : i = L.length := by simp at hge; omega
      subst hge
      rw [List.take_length] at G7
      refine lp_of (fun s w8 => ∃ k : Nat, s.2.1 = (k : Int) - 43 ∧ k ≤ 87 ∧ s.1.2.1 = 3 + R.length + L.length + 3 * k ∧ Grow w3 w8 w3.heap.size s.1.1 s.1.2.1 s.1.2.2 (sayA n R L k)) (fun s _ => (44 - s.2.1).toNat)
        ⟨0, rfl, Nat.zero_le _, rfl, G7⟩ ?_
      rintro ⟨⟨pp8, mm8, cc8⟩, i', ⟨⟩⟩ w8 ⟨k, rfl, hk, rfl, G8⟩
      simp only [] at G8 ⊢
      refine pif_of (fun hlt => ?_) fun hge => ?_
      · have hlt : k < 87 := by simp at hlt; omega
        have h8 := h2.keep0 G8.keep
        refine cl_of ok14 (h8.value _ (by omega)) fun e w9 ⟨he, k9⟩ => ⟨_, he, ?_⟩
        refine cl_of ok15 ((h8.keep0 k9).levelOf _ (by omega)) fun e w10 ⟨he, k10⟩ => ⟨_, he, ?_⟩
        refine cl_of ok16 (((h8.keep0 k9).keep0 k10).reason _ (by omega)) fun e w11 ⟨he, k11⟩ => ⟨_, he, ?_⟩
        have G11 : Grow w3 w11 w3.heap.size pp8 _ cc8 (sayA n R L k) := ⟨((G8.own.keep0 k9).keep0 k10).keep0 k11, G8.len, G8.old, ((G8.keep.then0 k9).then0 k10).then0 k11⟩
        have hv := valA_small n R ((k : Int) - 43)
        have e1 : IntKind.wrap .i64 (valA n R ((k : Int) - 43)) = valA n R ((k : Int) - 43) := by rw [IntKind.wrap_i64]; omega
        have ew : IntKind.wrap .i64 ((k : Int) - 43 + 1) = ((k + 1 : Nat) : Int) - 43 := by rw [IntKind.wrap_i64]; omega
        rw [e1, ew]
        exact G11.mk3 rfl (by omega) fun p6 c6 w6 G6 => ⟨⟨k + 1, rfl, hlt, by omega, G6⟩, by omega⟩
      · have hge : k = 87 := by simp at hge; omega
        subst hge
        have hl := sayA_len (n := n) (R := R) (L := L) 87
        rw [show 3 + R.length + L.length + 3 * 87 = (sayA n R L 87).length by rw [hl]] at G8 ⊢
        exact ⟨⟨pp8, cc8, rfl, G8.own, fun i hi => by have := G8.old i hi; have := kk.size; omega⟩, kk.then0 G8.keep⟩
end
end Go.Proofs.Ytioaaeianjgaoaa.Trail
