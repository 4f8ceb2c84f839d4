/- The arena in memory, and its methods. -/
import Derived.Test.YtmhjehodfggleaaMCopy
import Derived.Test.YtmhjehodfggleaaMTAr
import Derived.Test.YtmhjehodfggleaaProg
import Derived.Test.YtmhjehodfggleaaMVcL
set_option linter.unusedVariables false
set_option linter.unusedSimpArgs false
set_option linter.unusedSectionVars false
set_option maxRecDepth 100000
namespace Go.Proofs.Ytmhjehodfggleaa.Arn
open Go Go.Proofs.Ytmhjehodfggleaa.Vc Go.Proofs.Ytmhjehodfggleaa.T
open Go.Proofs.Ytmhjehodfggleaa.Apart (RdL own_rdl wrap_nat getE own_len take_snoc Sl sv New J)
open Go.Proofs.Ytmhjehodfggleaa.Lits (fl fl_iff Ans ans_of formedP)

/-- what an arena holds: the clauses that were laid, and the places of those that are live -/
structure Ar where
  cs : List (List Int)
  live : List Int
def cw (c : List Int) : List Int := (c.length : Int) :: c
def words (cs : List (List Int)) : List Int := cs.flatMap cw
/-- where the k-th clause stands -/
def off (cs : List (List Int)) (k : Nat) : Nat := (words (cs.take k)).length
theorem words_snoc (cs : List (List Int)) (c : List Int) : words (cs ++ [c]) = words cs ++ cw c := by simp [words]
theorem off_at (cs : List (List Int)) {k : Nat} {c : List Int} (h : cs[k]? = some c) : ∃ ahead behind, words cs = ahead ++ cw c ++ behind ∧ ahead.length = off cs k := by
  obtain ⟨h1, h2⟩ := List.getElem?_eq_some_iff.1 h
  refine ⟨words (cs.take k), words (cs.drop (k + 1)), ?_, rfl⟩
  have : cs = cs.take k ++ [c] ++ cs.drop (k + 1) := by
    rw [← h2, List.append_assoc, List.singleton_append, ← List.drop_eq_getElem_cons h1, List.take_append_drop]
  conv => lhs; rw [this]
  simp [words]
def isFlag (v : Value) : Prop := ∃ b, v = .agg #[.bool b]
/-- how it lies in memory, in blocks of M -/
structure AR (M : Nat → Prop) (w : World) (b : Nat) (A : Ar) : Prop where
  rep : ∃ (wp : Option Addr) (wn wc r : Nat) (op : Option Addr) (oc : Nat) (os : List Int), Blk w b [.slice wp wn wc, .map (some r), .slice op A.cs.length oc] 106 ∧ Own w 3 1 wp wn wc ((words A.cs).map J) ∧ Mk isFlag w r A.live ∧ Own w 62 1 op A.cs.length oc (os.map J) ∧
    M r ∧ (∀ i, ob wp i → M i) ∧ (∀ i, ob op i → M i) ∧ r ≠ b ∧ (∀ i, ob wp i → i ≠ b ∧ i ≠ r) ∧ (∀ i, ob op i → i ≠ b ∧ i ≠ r ∧ ¬ ob wp i)
  own : M b
  lt : ∀ i, M i → i < w.heap.size
  lv : ∀ x ∈ A.live, ∃ k, k < A.cs.length ∧ x = off A.cs k
section
variable {M : Nat → Prop} {w w' : World} {b : Nat} {A : Ar}
theorem AR.keep {U : Nat → Prop} (h : AR M w b A) (hk : Keep U w w') (hu : ∀ i, U i → ¬ M i) : AR M w' b A := by
  obtain ⟨wp, wn, wc, r, op, oc, os, h1, h2, h3, h4, m1, m2, m3, d1, d2, d3⟩ := h.rep
  exact ⟨⟨wp, wn, wc, r, op, oc, os, h1.keep hk fun hh => hu b hh h.own, h2.keep hk fun i hi hh => hu i hh (m2 i hi), h3.keep hk fun hh => hu r hh m1, h4.keep hk fun i hi hh => hu i hh (m3 i hi), m1, m2, m3, d1, d2, d3⟩, h.own, fun i hi => Nat.lt_of_lt_of_le (h.lt i hi) hk.size, h.lv⟩
theorem AR.keep0 (h : AR M w b A) (hk : Keep None w w') : AR M w' b A := h.keep hk fun _ h => h.elim
theorem new24 (w : World) : Calls Try.prog 24 #[] w fun e w' => ∃ b M, e = .returned (.pointer (some ⟨b, 0, none⟩)) ∧ AR M w' b ⟨[], []⟩ ∧ (∀ i, M i → w.heap.size ≤ i) ∧ Keep None w w' := by
  refine (V24_calls w (fun v w' => ∃ b M, v = .pointer (some ⟨b, 0, none⟩) ∧ AR M w' b ⟨[], []⟩ ∧ (∀ i, M i → w.heap.size ≤ i) ∧ Keep None w w') ?_).mono fun e w' ⟨v, he, b, M, hv, hk⟩ => ⟨b, M, by rw [he, hv], hk⟩
  unfold V24
  refine mkmapK_of (V := isFlag) fun r w1 hr hM k1 => ?_
  refine alc_at fun b w2 hb hB k2 => ?_
  have l1 := hM.lt
  have l2 := hB.lt
  have z1 := k1.size
  refine ⟨b, fun i => i = r ∨ i = b, rfl, ⟨⟨none, 0, 0, r, none, 0, [], hB, Own.nil _ _ _, hM.keep0 k2, Own.nil _ _ _, Or.inl rfl, (fun i ⟨a, h, _⟩ => by cases h), (fun i ⟨a, h, _⟩ => by cases h), by omega, (fun i ⟨a, h, _⟩ => by cases h), (fun i ⟨a, h, _⟩ => by cases h)⟩, Or.inr rfl, fun i hi => ?_, fun x hx => by cases hx⟩, fun i hi => ?_, k1.then0 k2⟩
  · have := k2.size
    rcases hi with hi | hi <;> omega
  · rcases hi with hi | hi <;> omega
theorem sound50 {p : Option Addr} {n c : Nat} {cs : List Int} (hR : RdL w p n cs) (hn : n ≤ 17592186044416) :
    Calls Try.prog 50 #[.slice p n c] w fun e w' => ∃ r : Bool, e = .returned (.bool r) ∧ (r = true ↔ ∀ x ∈ cs, fl x = true) ∧ Keep None w w' := by
  refine (V50_calls p n c w (fun v w' => ∃ r : Bool, v = .bool r ∧ (r = true ↔ ∀ x ∈ cs, fl x = true) ∧ Keep None w w') ?_).mono fun e w' ⟨v, he, r, hv, hk⟩ => ⟨r, by rw [he, hv], hk⟩
  unfold V50
  have hll := hR.len
  refine lp_of (fun s W => ∃ i : Nat, s.1 = i ∧ i ≤ n ∧ Keep None w W ∧ ∀ x ∈ cs.take i, fl x = true) (fun s _ => (n - s.1).toNat) ⟨0, rfl, Nat.zero_le _, Keep.refl _ _, fun x hx => by simp at hx⟩ ?_
  rintro ⟨i', ⟨⟩⟩ W ⟨i, rfl, hi, kW, hv⟩
  dsimp only
  refine pif_of (fun hlt => ?_) fun hge => ?_
  · have hlt : i < n := by simpa using hlt
    rw [wrap_nat i (by omega)]
    refine (hR.keep0 kW).ix hlt fun a x hx ha => ldI_of ha ?_
    refine cl_of ok29 (formedP x) fun e w2 ⟨he, k2⟩ => ⟨_, he, ?_⟩
    refine pif_of (fun hq => ⟨false, rfl, ⟨fun h => (by cases h), fun h => ?_⟩, kW.then0 k2⟩) fun hq => ?_
    · rw [h x (List.mem_of_getElem? hx)] at hq; cases hq
    · refine ⟨⟨i + 1, rfl, hlt, kW.then0 k2, fun y hy => ?_⟩, by omega⟩
      rw [take_snoc hx] at hy
      rcases List.mem_append.1 hy with hy | hy
      · exact hv y hy
      · rw [List.mem_singleton.1 hy]; simpa using hq
  · have hge : i = n := by simp at hge; omega
    subst hge
    rw [← hll, List.take_length] at hv
    exact ⟨true, rfl, ⟨fun _ => hv, fun _ => rfl⟩, kW⟩
/-- what a method of the arena leaves -/
structure AfA (M : Nat → Prop) (w : World) (b : Nat) (A : Ar) (M' : Nat → Prop) (w' : World) : Prop where
  ar : AR M' w' b A
  gr : ∀ i, M' i → M i ∨ w.heap.size ≤ i
  kp : Keep M w w'
theorem off_new (cs : List (List Int)) (c : List Int) : off (cs ++ [c]) cs.length = (words cs).length := by unfold off; rw [List.take_left]
theorem off_old (cs : List (List Int)) (c : List Int) {k : Nat} (h : k ≤ cs.length) : off (cs ++ [c]) k = off cs k := by unfold off; rw [List.take_append_of_le_length h]
theorem off_lt (cs : List (List Int)) {k : Nat} (h : k < cs.length) : off cs k < (words cs).length := by
  obtain ⟨c, hc⟩ := getE h
  obtain ⟨a, d, h1, h2⟩ := off_at cs hc
  rw [h1, ← h2]
  simp [cw]
theorem put25 (h : AR M w b A) {p : Option Addr} {n c : Nat} {cs : List Int} (hR : RdL w p n cs) (hN : News w 1 p n c (cs.map J)) (hn : n ≤ 17592186044416) (hq : ∀ j, ob p j → 0 < n → ¬ M j) (hf : ∀ x ∈ cs, fl x = true) (hw : (words A.cs).length + n + 1 ≤ 17592186044416) (hl : A.cs.length + 1 ≤ 17592186044416) (flag : Bool) :
    Calls Try.prog 25 #[.pointer (some ⟨b, 0, none⟩), .slice p n c, .bool flag] w fun e w' => e = .returned (.tuple #[J ((words A.cs).length : Nat), J 0]) ∧ ∃ M', AfA M w b ⟨A.cs ++ [cs], A.live ++ [((words A.cs).length : Int)]⟩ M' w' := by
  refine (V25_calls (some ⟨b, 0, none⟩) p n c flag w (fun v w' => v = .tuple #[J ((words A.cs).length : Nat), J 0] ∧ ∃ M', AfA M w b ⟨A.cs ++ [cs], A.live ++ [((words A.cs).length : Int)]⟩ M' w') ?_).mono fun e w' ⟨v, he, hv, hk⟩ => ⟨by rw [he, hv], hk⟩
  unfold V25
  obtain ⟨wp, wn, wc, r, op, oc, os, hB, hW, hMk, hO, m1, m2, m3, d1, d2, d3⟩ := h.rep
  have hwn := own_len hW
  have hon := hO.len
  have hcl := hR.len
  have hbl : b < w.heap.size := hB.lt
  have hrl : r < w.heap.size := hMk.lt
  refine cl_of ok50 (sound50 hR hn) fun e w1 ⟨q, he, hr, k1⟩ => ⟨q, he, ?_⟩
  obtain rfl : q = true := hr.2 hf
  have z1 := k1.size
  refine pif_f rfl (nn_of (ldC_of (x := wp) (n := wn) (c := wc) (by rw [add_mk]; exact (hB.keep0 k1).cell 0) (nn_of (ldC_of (x := wp) (n := wn) (c := wc) (by rw [add_mk]; exact (hB.keep0 k1).cell 0) ?_))))
  refine alc_at fun b12 w2 hb12 hB12 k2 => ?_
  have z2 := k2.size
  have k12 := k1.then0 k2
  have ne_b : ∀ {i : Nat}, ob wp i ∨ w2.heap.size ≤ i → i ≠ b ∧ i ≠ r := fun {i} hi => by
    rcases hi with hi | hi
    · exact d2 i hi
    · omega
  refine app_of (e := 3) (sz := 1) (z := J 0) (B := 8) Try.underlying26 (by kernel_rfl) rfl (by omega) (hW.keep0 k12) hB12.news1 (fun u hu => ?_) (by simp only [maxLen]; omega) (by omega) fun p3 c3 w3 hO3 k3 hd3 => ?_
  · rw [List.mem_singleton.1 hu]; rfl
  have z3 := k3.size
  have hB3 := (hB.keep0 k12).keep k3 fun hh => (d2 b hh).1 rfl
  refine nn_of ?_
  rw [add_mk, add_mk]
  refine st_of hB3 (by simp) rfl fun w4 hB4 k4 z4 => ?_
  have hO4 : Own w4 3 1 p3 (wn + 1) c3 ((words A.cs ++ [(n : Int)]).map J) := by
    rw [List.map_append]
    exact hO3.keep k4 fun i hi hh => (ne_b (hd3 i hi)).1 hh
  refine nn_of (ldC_of (x := p3) (n := wn + 1) (c := c3) (by rw [add_mk]; exact hB4.cell 0) ?_)
  have kR : ∀ {i : Nat} {a : Addr}, p = some a → cs[i]? ≠ none → True := fun _ _ => trivial
  have hN4 : News w4 1 p n c (cs.map J) := by
    rcases hN with hN | ⟨a, rfl, h1, h2⟩
    · exact Or.inl hN
    · by_cases hn0 : n = 0
      · have hcs : cs = [] := List.eq_nil_of_length_eq_zero (by omega)
        subst hcs
        exact Or.inr ⟨a, rfl, h1, fun j u hu => by simp at hu⟩
      · have hM0 := hq a.block ⟨a, rfl, rfl⟩ (by omega)
        refine Or.inr ⟨a, rfl, h1, fun j u hu => ?_⟩
        have hb : (a.add j).block = a.block := by unfold Addr.add; split <;> rfl
        have c0 := h2 j u hu
        have c2 := k12.cell c0 fun h => h
        have c3' := k3.cell c2 (by rw [hb]; exact fun hh => hM0 (m2 _ hh))
        exact k4.cell c3' (by rw [hb]; exact fun hh => hM0 (by rw [show a.block = b from hh]; exact h.own))
  refine app_of (e := 3) (sz := 1) (z := J 0) (B := 8) Try.underlying26 (by kernel_rfl) rfl (by omega) hO4 hN4 (fun u hu => ?_) (by simp only [maxLen]; omega) (by omega) fun p5 c5 w5 hO5 k5 hd5 => ?_
  · obtain ⟨y, _, rfl⟩ := List.mem_map.1 hu; rfl
  have z5 := k5.size
  have ne5 : ∀ {i : Nat}, ob p3 i → i ≠ b ∧ i ≠ r := fun {i} hi => ne_b (hd3 i hi)
  have hB5 := hB4.keep k5 fun hh => (ne5 hh).1 rfl
  refine nn_of ?_
  rw [add_mk, add_mk]
  refine st_of hB5 (by simp) rfl fun w6 hB6 k6 z6 => ?_
  have f5 : ∀ i, ob p5 i → ob wp i ∨ w2.heap.size ≤ i := fun i hi => by
    rcases hd5 i hi with h1 | h1
    · exact hd3 i h1
    · exact Or.inr (by omega)
  have hO6 : Own w6 3 1 p5 (wn + 1 + n) c5 ((words A.cs ++ [(n : Int)] ++ cs).map J) := by
    rw [List.map_append]
    exact hO5.keep k6 fun i hi hh => (ne_b (f5 i hi)).1 hh
  have hMk6 : Mk isFlag w6 r A.live := ((((hMk.keep0 k12).keep k3 fun hh => (d2 r hh).2 rfl).keep k4 fun hh => d1 hh).keep k5 fun hh => (ne5 hh).2 rfl).keep k6 fun hh => d1 hh
  refine nn_of (ldM_of (x := some r) (by rw [add_mk]; exact hB6.cell 1) ?_)
  have hwl : (wn : Int) = (((words A.cs).length : Nat) : Int) := by rw [hwn]
  have hnl : ((words A.cs).length : Int) ∉ A.live := fun hm => by
    obtain ⟨k, hk, e⟩ := h.lv _ hm
    have := off_lt A.cs hk
    omega
  rw [hwl]
  refine upK_of (V := isFlag) Try.underlying103 (by kernel_rfl) hMk6 hnl ⟨flag, rfl⟩ fun w7 hMk7 k7 z7 => ?_
  have ne_op : ∀ {i : Nat}, ob op i → i ≠ b ∧ i ≠ r ∧ ¬ ob wp i ∧ i < w.heap.size := fun {i} hi => ⟨(d3 i hi).1, (d3 i hi).2.1, (d3 i hi).2.2, hO.lt i hi⟩
  have hB7 := hB6.keep k7 fun hh => d1 (show r = b from hh.symm)
  refine nn_of (ldC_of (x := op) (n := A.cs.length) (c := oc) (by rw [add_mk]; exact hB7.cell 2) ?_)
  refine alc_at fun b26 w8 hb26 hB26 k8 => ?_
  have z8 := k8.size
  have hop8 : Own w8 62 1 op A.cs.length oc (os.map J) := ((((((hO.keep0 k12).keep k3 fun i hi hh => (ne_op hi).2.2.1 hh).keep k4 fun i hi hh => (ne_op hi).1 hh).keep k5 fun i hi hh => by
      rcases hd3 i hh with h1 | h1
      · exact (ne_op hi).2.2.1 h1
      · have := (ne_op hi).2.2.2; omega).keep k6 fun i hi hh => (ne_op hi).1 hh).keep k7 fun i hi hh => (ne_op hi).2.1 hh).keep0 k8
  refine app_of (e := 62) (sz := 1) (z := J 0) (B := 8) Try.underlying104 (by kernel_rfl) rfl (by omega) hop8 hB26.news1 (fun u hu => ?_) (by simp only [maxLen]; omega) (by omega) fun p9 c9 w9 hO9 k9 hd9 => ?_
  · rw [List.mem_singleton.1 hu]; rfl
  have z9 := k9.size
  have hB9 := (hB7.keep0 k8).keep k9 fun hh => (ne_op hh).1 rfl
  refine nn_of ?_
  rw [add_mk, add_mk]
  refine st_of hB9 (by simp) rfl fun w10 hB10 k10 z10 => ⟨rfl, ?_⟩
  have p5lt : ∀ i, ob p5 i → i < w5.heap.size := hO5.lt
  have np5 : ∀ i, ob p5 i → ¬ ob op i := fun i hi hh => by
    rcases f5 i hi with h1 | h1
    · exact (ne_op hh).2.2.1 h1
    · have := (ne_op hh).2.2.2; omega
  have hO10 : Own w10 3 1 p5 (wn + 1 + n) c5 ((words (A.cs ++ [cs])).map J) := by
    have e1 : words (A.cs ++ [cs]) = words A.cs ++ [(n : Int)] ++ cs := by
      rw [words_snoc]; unfold cw; rw [hcl]; simp
    rw [e1]
    exact (((hO6.keep k7 fun i hi hh => (ne_b (f5 i hi)).2 hh).keep0 k8).keep k9 fun i hi hh => np5 i hi hh).keep k10 fun i hi hh => (ne_b (f5 i hi)).1 hh
  have kall : Keep M w w10 := by
    have kM : ∀ {wa wb : World} {U : Nat → Prop}, Keep M w wa → Keep U wa wb → (∀ i, i < w.heap.size → U i → M i) → Keep M w wb := fun h1 h2 h3 => h1.trans h2 h3
    refine kM (kM (kM (kM (kM (kM (kM (kM k12.none k3 fun i _ hh => m2 i hh) k4 fun i _ hh => by rw [show i = b from hh]; exact h.own) k5 fun i hi hh => ?_) k6 fun i _ hh => by rw [show i = b from hh]; exact h.own) k7 fun i _ hh => by rw [show i = r from hh]; exact m1) k8 fun i _ hh => hh.elim) k9 fun i hi hh => m3 i hh) k10 fun i _ hh => by rw [show i = b from hh]; exact h.own
    rcases hd3 i hh with h1 | h1
    · exact m2 i h1
    · omega
  have z10' : w.heap.size ≤ w10.heap.size := kall.size
  refine ⟨fun i => i < w10.heap.size ∧ (M i ∨ w.heap.size ≤ i), ⟨⟨p5, wn + 1 + n, c5, r, p9, c9, os ++ [((words A.cs).length : Int)], ?_, hO10, ?_, ?_, ⟨by omega, Or.inl m1⟩, fun i hi => ⟨by have := hO10.lt i hi; omega, ?_⟩, fun i hi => ⟨by have := hO9.lt i hi; omega, ?_⟩, d1, fun i hi => ne_b (f5 i hi), fun i hi => ?_⟩, ⟨by omega, Or.inl h.own⟩, fun i hi => hi.1, fun x hx => ?_⟩, fun i hi => hi.2, kall⟩
  · have : (A.cs ++ [cs]).length = A.cs.length + 1 := by simp
    rw [this]; exact hB10
  · exact ((hMk7.keep0 k8).keep k9 fun hh => (ne_op hh).2.1 rfl).keep k10 fun hh => d1 hh
  · have : (A.cs ++ [cs]).length = A.cs.length + 1 := by simp
    rw [this, List.map_append]
    exact hO9.keep k10 fun i hi hh => by
      rcases hd9 i hi with h1 | h1
      · exact (ne_op h1).1 hh
      · have : i = b := hh; omega
  · rcases f5 i hi with h1 | h1
    · exact Or.inl (m2 i h1)
    · exact Or.inr (by omega)
  · rcases hd9 i hi with h1 | h1
    · exact Or.inl (m3 i h1)
    · exact Or.inr (by omega)
  · rcases hd9 i hi with h1 | h1
    · exact ⟨(ne_op h1).1, (ne_op h1).2.1, fun hh => np5 i hh h1⟩
    · exact ⟨by omega, by omega, fun hh => by have := p5lt i hh; omega⟩
  · rcases List.mem_append.1 hx with hx | hx
    · obtain ⟨k, hk, e⟩ := h.lv x hx
      exact ⟨k, by simp; omega, by rw [off_old _ _ (by omega)]; exact e⟩
    · exact ⟨A.cs.length, by simp, by rw [List.mem_singleton.1 hx, off_new]⟩
theorem own69 {p : Option Addr} {n c : Nat} {cs : List Int} (hl : cs.length = n) (hN : News w 1 p n c (cs.map J)) (hn : n ≤ 17592186044416) :
    Calls Try.prog 69 #[.slice p n c] w fun e w' => ∃ v, e = .returned v ∧ New w cs v w' := by
  refine V69_calls p n c w (New w cs) ?_
  unfold V69
  refine Lits.mk2_of (B := 8) (z := J 0) Try.underlying26 (by kernel_rfl) rfl (by omega) (by omega) (by omega) (by omega) fun b w1 hb hB k1 => ?_
  rw [Int.toNat_natCast] at hB ⊢
  have hO : Own w1 3 1 (some ⟨b, 0, none⟩) 0 n [] := Or.inr ⟨b, _, rfl, hB, Nat.zero_le _, by simp only [maxLen]; omega, by simp, by simp⟩
  have hN1 : News w1 1 p n c (cs.map J) := by
    rcases hN with hN | ⟨a, rfl, h1, h2⟩
    · exact Or.inl hN
    · exact Or.inr ⟨a, rfl, h1, fun j u hu => k1.cell (h2 j u hu) fun h => h⟩
  refine app_of (e := 3) (sz := 1) (z := J 0) (B := 8) Try.underlying26 (by kernel_rfl) rfl (by omega) hO hN1 (fun u hu => ?_) (by simp only [maxLen]; omega) (by omega) fun p3 c3 w3 hO3 k3 hd3 => ?_
  · obtain ⟨y, _, rfl⟩ := List.mem_map.1 hu; rfl
  · have e0 : Int.toNat 0 + n = n := Nat.zero_add n
    rw [e0, List.nil_append] at hO3
    rw [e0]
    subst hl
    have z1 := k1.size
    have lb := hB.lt
    refine ⟨p3, c3, rfl, hO3, fun i hi => ?_, k1.trans k3 fun i hi ⟨a, ha, hj⟩ => by injection ha with ha; subst ha; have hj' : b = i := hj; omega⟩
    rcases hd3 i hi with ⟨a, ha, hj⟩ | h1
    · injection ha with ha; subst ha
      have hj' : b = i := hj; omega
    · omega
/-- a clause's literals, or none -/
def Got (w : World) (A : Ar) (r : Int) (v : Value) (w' : World) : Prop :=
  (r ∉ A.live ∧ v = .tuple #[.slice none 0 0, .bool false] ∧ Keep None w w') ∨
  ∃ k c p cc, r ∈ A.live ∧ r = off A.cs k ∧ A.cs[k]? = some c ∧ v = .tuple #[.slice p c.length cc, .bool true] ∧ Own w' 3 1 p c.length cc (c.map J) ∧ (∀ i, ob p i → w.heap.size ≤ i) ∧ Keep None w w'
theorem get42 (h : AR M w b A) (hw : (words A.cs).length ≤ 17592186044416) (r : Int) :
    Calls Try.prog 42 #[.pointer (some ⟨b, 0, none⟩), J r] w fun e w' => ∃ v, e = .returned v ∧ Got w A r v w' := by
  refine V42_calls (some ⟨b, 0, none⟩) r w (Got w A r) ?_
  unfold V42
  obtain ⟨wp, wn, wc, mr, op, oc, os, hB, hW, hMk, hO, m1, m2, m3, d1, d2, d3⟩ := h.rep
  have hwn := own_len hW
  refine nn_of (ldM_of (x := some mr) (by rw [add_mk]; exact hB.cell 1) ?_)
  have key := lkK_of (V := isFlag) (P := Try.prog) (mty := 103) (kt := 62) (et := 108) (z := .agg #[.bool false]) (k := r)
    (K := fun v b w1 => ∃ x5 : Bool, v = .agg #[.bool x5] ∧ b = decide (r ∈ A.live) ∧ w1 = w) Try.underlying103 (by kernel_rfl) (by kernel_rfl) hMk (fun v hv hz => by
      by_cases hm : r ∈ A.live
      · obtain ⟨x, hx⟩ := hv hm
        exact ⟨x, hx, rfl, rfl⟩
      · exact ⟨false, hz hm, rfl, rfl⟩)
  obtain ⟨v, bb, w1, hrun, x5, rfl, rfl, rfl⟩ := key
  refine ⟨x5, _, _, hrun, ?_⟩
  refine alc_at fun b7 w2 hb7 hB7 k2 => ?_
  have z2 := k2.size
  rw [add_mk]
  refine st_of hB7 (by simp) rfl fun w3 hB3 k3 z3 => ?_
  have k13 : Keep None w1 w3 := k2.trans k3 fun i hi hh => by have hh' : i = b7 := hh; omega
  refine pif_of (fun hq => Or.inl ⟨by simpa using hq, rfl, k13⟩) fun hq => ?_
  have hm : r ∈ A.live := by simpa using hq
  obtain ⟨k, hk, hrk⟩ := h.lv r hm
  obtain ⟨c, hc⟩ := getE hk
  obtain ⟨ahead, behind, hwd, hal⟩ := off_at A.cs hc
  subst hrk
  -- the slice that is cut
  have hlen : (words A.cs).length = ahead.length + 1 + c.length + behind.length := by rw [hwd]; simp [cw]; omega
  have hWat : ∀ (j : Nat) (x : Int), (words A.cs)[j]? = some x → ∃ wb, wp = some ⟨wb, 0, none⟩ ∧ w3.cell? ⟨wb, j, none⟩ = some (J x) := fun j x hx => by
    have hW3 := hW.keep0 k13
    have hjl := (List.getElem?_eq_some_iff.1 hx).1
    rcases hW3 with ⟨rfl, h0, _, _⟩ | ⟨wb, cs', rfl, _⟩
    · omega
    · refine ⟨wb, rfl, ?_⟩
      have hW3' := hW.keep0 k13
      rw [hW3'.cell j (by omega), List.getElem?_map, hx]; rfl
  have hhead : (words A.cs)[off A.cs k]? = some (c.length : Int) := by
    rw [hwd, ← hal, List.append_assoc, List.getElem?_append_right (Nat.le_refl _), Nat.sub_self]; rfl
  obtain ⟨wb, hwp, hcell⟩ := hWat _ _ hhead
  have hcut : Calls Try.prog 70 #[.pointer (some ⟨b, 0, none⟩), J (off A.cs k)] w3 fun e w' => ∃ cc, e = .returned (.slice (slA wp (off A.cs k + 1 + c.length) (off A.cs k + 1) 1) c.length cc) ∧ w' = w3 := by
    refine (V70_calls (some ⟨b, 0, none⟩) (off A.cs k) w3 (fun v w' => ∃ cc, v = .slice (slA wp (off A.cs k + 1 + c.length) (off A.cs k + 1) 1) c.length cc ∧ w' = w3) ?_).mono fun e w' ⟨v, he, cc, hv, hw⟩ => ⟨cc, by rw [he, hv], hw⟩
    unfold V70
    have hB3' := hB.keep0 k13
    refine nn_of (ldC_of (x := wp) (n := wn) (c := wc) (by rw [add_mk]; exact hB3'.cell 0) ?_)
    rw [hwp]
    refine ixA_of1 (by omega) (by omega) ?_
    rw [Int.toNat_natCast]
    refine ldI_of hcell (nn_of (ldC_of (x := wp) (n := wn) (c := wc) (by rw [add_mk]; exact hB3'.cell 0) ?_))
    have e1 : IntKind.wrap .i64 ((off A.cs k : Int) + 1) = ((off A.cs k + 1 : Nat) : Int) := by rw [IntKind.wrap_i64]; omega
    have e2 : IntKind.wrap .i64 (((off A.cs k + 1 : Nat) : Int) + (c.length : Int)) = ((off A.cs k + 1 + c.length : Nat) : Int) := by rw [IntKind.wrap_i64]; omega
    have hwc := hW.le.1
    rw [e1, e2]
    refine ⟨by omega, by omega, by omega, by omega, by omega, by omega, ?_⟩
    rw [Int.toNat_natCast, Int.toNat_natCast]
    refine ⟨off A.cs k + 1 + c.length - (off A.cs k + 1), ?_, rfl⟩
    rw [hwp]
    congr 1
    omega
  refine cl_of ok70 hcut fun e w4 ⟨cc, he, hw4⟩ => ⟨_, _, _, he, ?_⟩
  subst hw4
  have hN : News w4 1 (slA wp (off A.cs k + 1 + c.length) (off A.cs k + 1) 1) c.length cc (c.map J) := by
    rw [hwp]
    unfold slA
    by_cases h0 : off A.cs k + 1 + c.length = off A.cs k + 1
    · have hcn : c = [] := List.eq_nil_of_length_eq_zero (by omega)
      rw [if_pos h0]
      subst hcn
      exact Or.inr ⟨_, rfl, rfl, fun j u hu => by simp at hu⟩
    · rw [if_neg h0]
      refine Or.inr ⟨(⟨wb, 0, none⟩ : Addr).add ((off A.cs k + 1) * 1), rfl, by simp, fun j u hu => ?_⟩
      rw [add_mk, add_mk]
      rw [List.getElem?_map] at hu
      cases hcj : c[j]? with
      | none => rw [hcj] at hu; cases hu
      | some x =>
        rw [hcj] at hu
        injection hu with hu
        rw [← hu]
        have hx : (words A.cs)[off A.cs k + 1 + j]? = some x := by
          have hjl := (List.getElem?_eq_some_iff.1 hcj).1
          rw [hwd, ← hal, List.append_assoc, List.getElem?_append_right (by omega), show ahead.length + 1 + j - ahead.length = j + 1 by omega]
          unfold cw
          rw [List.cons_append, List.getElem?_cons_succ, List.getElem?_append_left hjl]
          exact hcj
        obtain ⟨wb', hwp', hc'⟩ := hWat _ _ hx
        rw [hwp] at hwp'
        injection hwp' with hwp'
        injection hwp' with hwp' _
        subst hwp'
        rw [show 0 + (off A.cs k + 1) * 1 + j = off A.cs k + 1 + j by omega]
        exact hc'
  refine cl_of ok69 (own69 rfl hN (by omega)) fun e w5 ⟨v5, he, p5, c5, hv5, hO5, hf5, k5⟩ => ⟨p5, c.length, c5, by rw [he, hv5], Or.inr ⟨k, c, p5, c5, hm, rfl, hc, rfl, hO5, fun i hi => by have := hf5 i hi; have := k13.size; omega, k13.then0 k5⟩⟩
theorem drop38 (h : AR M w b A) (r : Int) :
    Calls Try.prog 38 #[.pointer (some ⟨b, 0, none⟩), J r] w fun e w' => (e = .returned (J 2) ∧ r ∉ A.live ∧ Keep None w w') ∨ (e = .returned (J 0) ∧ r ∈ A.live ∧ ∃ M', AfA M w b ⟨A.cs, A.live.erase r⟩ M' w') := by
  refine (V38_calls (some ⟨b, 0, none⟩) r w (fun v w' => (v = J 2 ∧ r ∉ A.live ∧ Keep None w w') ∨ (v = J 0 ∧ r ∈ A.live ∧ ∃ M', AfA M w b ⟨A.cs, A.live.erase r⟩ M' w')) ?_).mono fun e w' ⟨v, he, hk⟩ => ?_
  rotate_left
  · rcases hk with ⟨rfl, hk⟩ | ⟨rfl, hk⟩
    · exact Or.inl ⟨he, hk⟩
    · exact Or.inr ⟨he, hk⟩
  unfold V38
  obtain ⟨wp, wn, wc, mr, op, oc, os, hB, hW, hMk, hO, m1, m2, m3, d1, d2, d3⟩ := h.rep
  refine nn_of (ldM_of (x := some mr) (by rw [add_mk]; exact hB.cell 1) ?_)
  have key := lkK_of (V := isFlag) (P := Try.prog) (mty := 103) (kt := 62) (et := 108) (z := .agg #[.bool false]) (k := r)
    (K := fun v b w1 => ∃ x5 : Bool, v = .agg #[.bool x5] ∧ b = decide (r ∈ A.live) ∧ w1 = w) Try.underlying103 (by kernel_rfl) (by kernel_rfl) hMk (fun v hv hz => by
      by_cases hm : r ∈ A.live
      · obtain ⟨x, hx⟩ := hv hm
        exact ⟨x, hx, rfl, rfl⟩
      · exact ⟨false, hz hm, rfl, rfl⟩)
  obtain ⟨v, bb, w1, hrun, x5, rfl, rfl, rfl⟩ := key
  refine ⟨x5, _, _, hrun, ?_⟩
  refine alc_at fun b7 w2 hb7 hB7 k2 => ?_
  have z2 := k2.size
  rw [add_mk]
  refine st_of hB7 (by simp) rfl fun w3 hB3 k3 z3 => ?_
  have k13 : Keep None w1 w3 := k2.trans k3 fun i hi hh => by have hh' : i = b7 := hh; omega
  refine pif_of (fun hq => Or.inl ⟨rfl, by simpa using hq, k13⟩) fun hq => ?_
  have hm : r ∈ A.live := by simpa using hq
  refine nn_of (ldM_of (x := some mr) (by rw [add_mk]; exact (hB.keep0 k13).cell 1) ?_)
  refine delK_of (V := isFlag) Try.underlying103 (by kernel_rfl) (hMk.keep0 k13) fun w4 hMk4 k4 z4 => Or.inr ⟨rfl, hm, M, ⟨⟨wp, wn, wc, mr, op, oc, os, (hB.keep0 k13).keep k4 fun hh => d1 (show mr = b from hh.symm), (hW.keep0 k13).keep k4 fun i hi hh => (d2 i hi).2 hh, hMk4, (hO.keep0 k13).keep k4 fun i hi hh => (d3 i hi).2.1 hh, m1, m2, m3, d1, d2, d3⟩, h.own, fun i hi => by have := h.lt i hi; have := k13.size; omega, fun x hx => h.lv x (List.mem_of_mem_erase hx)⟩, fun i hi => Or.inl hi, (k13.none (S := M)).trans k4 fun i _ hh => by rw [show i = mr from hh]; exact m1⟩
end
end Go.Proofs.Ytmhjehodfggleaa.Arn

/- The conditions under which the functions printed here return, as propositions over typed values; each is the machine's own, by the generator's theorem. -/
set_option linter.unusedVariables false
set_option maxRecDepth 100000
namespace Go.Proofs.Ytmhjehodfggleaa.T
open Go Go.Proofs.Ytmhjehodfggleaa.Vc
/-! depot/engine.New -/
def V5 (a0_0 : Int) (a0_1 : Option Addr) (a0_1n : Nat) (a0_1c : Nat) (w : World) (R : Value → World → Prop) : Prop :=
  alc w [.int .i64 a0_0, .slice a0_1 a0_1n a0_1c] 29 fun b2 w1 =>
  ldI .i64 w1 ((⟨b2, 0, none⟩ : Addr).add 0) fun x4 =>
  ldC w1 ((⟨b2, 0, none⟩ : Addr).add 1) fun x5 x5n x5c =>
  cl Try.prog 22 [.agg #[.int .i64 x4, .slice x5 x5n x5c]] w1 fun e7 w2 => ∃ x6 : Bool, e7 = Ending.returned (.bool x6) ∧
  pif (!x6) (
    R (.tuple #[.pointer none, .int .i64 1]) w2) (
    ldI .i64 w2 ((⟨b2, 0, none⟩ : Addr).add 0) fun x10 =>
    cl Try.prog 23 [.int .i64 x10] w2 fun e13 w3 => ∃ x11 : Option Addr, ∃ x12 : Int, e13 = Ending.returned (.tuple #[.pointer x11, .int .i64 x12]) ∧
    ldI .i64 (World.drew w3) ((⟨b2, 0, none⟩ : Addr).add 0) fun x14 =>
    ldI .i64 (World.drew w3) ((⟨b2, 0, none⟩ : Addr).add 0) fun x15 =>
    (
      cl Try.prog 24 [] (World.drew w3) fun e17 w4 => ∃ x16 : Option Addr, e17 = Ending.returned (.pointer x16) ∧
      (
        ldI .i64 w4 ((⟨b2, 0, none⟩ : Addr).add 0) fun x18 =>
        ((.int .i64 x18 : Value) = .int .i64 x15)) ∧
      (
        ldI .i64 w4 ((⟨b2, 0, none⟩ : Addr).add 0) fun x19 =>
        ((.int .i64 x19 : Value) = .int .i64 x14)) ∧
      (
        ∃ (x20 : Option Addr) (x20n x20c : Nat), ∃ w5 : World, (Instr.makeSlice 54 (.int .i64 (IntKind.wrap .i64 (2 * x15))) (.int .i64 (IntKind.wrap .i64 (2 * x15)))).run Try.prog w4 = .ok (.slice x20 x20n x20c) w5 ∧
        (
          ldI .i64 w5 ((⟨b2, 0, none⟩ : Addr).add 0) fun x21 =>
          ((.int .i64 x21 : Value) = .int .i64 x14)) ∧
        alc w5 [.slice none 0 0] 58 fun b22 w6 =>
        (
          ldI .i64 w6 ((⟨b2, 0, none⟩ : Addr).add 0) fun x23 =>
          ((.int .i64 x23 : Value) = .int .i64 x15)) ∧
        (
          ldI .i64 w6 ((⟨b2, 0, none⟩ : Addr).add 0) fun x24 =>
          ((.int .i64 x24 : Value) = .int .i64 x14)) ∧
        alc w6 [.int .i64 x14, .pointer x16, .pointer x11, .slice none 0 0, .slice x20 x20n x20c, .slice none 0 0, .slice none 0 0, .iface 55 (.pointer (some (⟨b22, 0, none⟩ : Addr))), .int .i64 0, .bool false, .bool false, .bool false, .int .i64 0] 64 fun b25 w7 =>
        ldC w7 ((⟨b2, 0, none⟩ : Addr).add 1) fun x27 x27n x27c =>
        lp (σ := Int × Unit) (fun s30 w8 k29 => match s30 with
          | (v28, _) =>
          pif (decide (v28 < (x27n : Int))) (
            jn (σ := Unit) (fun k32 =>
              ixA x27 x27n v28 1 fun p35 =>
              ldC w8 p35 fun x36 x36n x36c =>
              ldP w8 ((⟨b25, 0, none⟩ : Addr).add 1) fun x38 =>
              cl Try.prog 25 [.pointer x38, .slice x36 x36n x36c, .bool false] w8 fun e41 w10 => ∃ x39 : Int, ∃ x40 : Int, e41 = Ending.returned (.tuple #[.int .i64 x39, .int .i64 x40]) ∧
              cl Try.prog 26 [.slice x36 x36n x36c] w10 fun e44 w11 => ∃ x43 : Bool, e44 = Ending.returned (.bool x43) ∧
              pif x43 (
                k32 (()) w11) (
                cl Try.prog 27 [.slice x36 x36n x36c] w11 fun e47 w12 => ∃ (x46 : Option Addr) (x46n x46c : Nat), e47 = Ending.returned (.slice x46 x46n x46c) ∧
                alc w12 [.int .i64 x39, .slice x46 x46n x46c, .int .i64 0, .int .i64 0, .bool false] 71 fun b48 w13 =>
                ldC w13 ((⟨b48, 0, none⟩ : Addr).add 1) fun x50 x50n x50c =>
                pif (decide ((x50n : Int) < 2)) (
                  ldC w13 ((⟨b25, 0, none⟩ : Addr).add 5) fun x52 x52n x52c =>
                  alc w13 [.pointer (some (⟨b48, 0, none⟩ : Addr))] 68 fun b53 w14 =>
                  ∃ (x54 : Option Addr) (x54n x54c : Nat), ∃ w15 : World, (Builtin.append_ #[59, 59] 59 #[.slice x52 x52n x52c, .slice (some (⟨b53, 0, none⟩ : Addr)) 1 1]).run Try.prog w14 = .ok (.slice x54 x54n x54c) w15 ∧
                  st w15 (((⟨b25, 0, none⟩ : Addr).add 5).add 0) (.slice x54 x54n x54c) fun w16 =>
                  k32 (()) w16) (
                  ldC (World.drew w13) ((⟨b48, 0, none⟩ : Addr).add 1) fun x55 x55n x55c =>
                  ixA x55 x55n 0 1 fun p56 =>
                  ldI .i64 (World.drew w13) p56 fun x57 =>
                  ldC (World.drew w13) ((⟨b48, 0, none⟩ : Addr).add 1) fun x58 x58n x58c =>
                  ixA x58 x58n 1 1 fun p59 =>
                  ldI .i64 (World.drew w13) p59 fun x60 =>
                  cl Try.prog 28 [.pointer (some (⟨b25, 0, none⟩ : Addr)), .pointer (some (⟨b48, 0, none⟩ : Addr)), .int .i64 x57, .int .i64 x60] (World.drew w13) fun e61 w17 => e61 = Ending.returned (.tuple #[]) ∧
                  k32 (()) w17))) fun s33 w9 => match s33 with
            | (_) =>
            k29 ((IntKind.wrap .i64 (v28 + 1)), ()) w9) (
            R (.tuple #[.pointer (some (⟨b25, 0, none⟩ : Addr)), .int .i64 0]) w8)) (0, ()) w7) ∧
      (
        alc w4 [.slice none 0 0] 58 fun b64 w18 =>
        (
          ldI .i64 w18 ((⟨b2, 0, none⟩ : Addr).add 0) fun x65 =>
          ((.int .i64 x65 : Value) = .int .i64 x15)) ∧
        (
          ldI .i64 w18 ((⟨b2, 0, none⟩ : Addr).add 0) fun x66 =>
          ((.int .i64 x66 : Value) = .int .i64 x14)) ∧
        ∃ (x67 : Option Addr) (x67n x67c : Nat), ∃ w19 : World, (Instr.makeSlice 54 (.int .i64 (IntKind.wrap .i64 (2 * x15))) (.int .i64 (IntKind.wrap .i64 (2 * x15)))).run Try.prog w18 = .ok (.slice x67 x67n x67c) w19 ∧
        (
          ldI .i64 w19 ((⟨b2, 0, none⟩ : Addr).add 0) fun x68 =>
          ((.int .i64 x68 : Value) = .int .i64 x14)) ∧
        alc w19 [.int .i64 x14, .pointer x16, .pointer x11, .slice none 0 0, .slice x67 x67n x67c, .slice none 0 0, .slice none 0 0, .iface 55 (.pointer (some (⟨b64, 0, none⟩ : Addr))), .int .i64 0, .bool false, .bool false, .bool false, .int .i64 0] 64 fun b69 w20 =>
        ldC w20 ((⟨b2, 0, none⟩ : Addr).add 1) fun x71 x71n x71c =>
        lp (σ := Int × Unit) (fun s74 w21 k73 => match s74 with
          | (v72, _) =>
          pif (decide (v72 < (x71n : Int))) (
            jn (σ := Unit) (fun k76 =>
              ixA x71 x71n v72 1 fun p79 =>
              ldC w21 p79 fun x80 x80n x80c =>
              ldP w21 ((⟨b69, 0, none⟩ : Addr).add 1) fun x82 =>
              cl Try.prog 25 [.pointer x82, .slice x80 x80n x80c, .bool false] w21 fun e85 w23 => ∃ x83 : Int, ∃ x84 : Int, e85 = Ending.returned (.tuple #[.int .i64 x83, .int .i64 x84]) ∧
              cl Try.prog 26 [.slice x80 x80n x80c] w23 fun e88 w24 => ∃ x87 : Bool, e88 = Ending.returned (.bool x87) ∧
              pif x87 (
                k76 (()) w24) (
                cl Try.prog 27 [.slice x80 x80n x80c] w24 fun e91 w25 => ∃ (x90 : Option Addr) (x90n x90c : Nat), e91 = Ending.returned (.slice x90 x90n x90c) ∧
                alc w25 [.int .i64 x83, .slice x90 x90n x90c, .int .i64 0, .int .i64 0, .bool false] 71 fun b92 w26 =>
                ldC w26 ((⟨b92, 0, none⟩ : Addr).add 1) fun x94 x94n x94c =>
                pif (decide ((x94n : Int) < 2)) (
                  ldC w26 ((⟨b69, 0, none⟩ : Addr).add 5) fun x96 x96n x96c =>
                  alc w26 [.pointer (some (⟨b92, 0, none⟩ : Addr))] 68 fun b97 w27 =>
                  ∃ (x98 : Option Addr) (x98n x98c : Nat), ∃ w28 : World, (Builtin.append_ #[59, 59] 59 #[.slice x96 x96n x96c, .slice (some (⟨b97, 0, none⟩ : Addr)) 1 1]).run Try.prog w27 = .ok (.slice x98 x98n x98c) w28 ∧
                  st w28 (((⟨b69, 0, none⟩ : Addr).add 5).add 0) (.slice x98 x98n x98c) fun w29 =>
                  k76 (()) w29) (
                  ldC (World.drew w26) ((⟨b92, 0, none⟩ : Addr).add 1) fun x99 x99n x99c =>
                  ixA x99 x99n 0 1 fun p100 =>
                  ldI .i64 (World.drew w26) p100 fun x101 =>
                  ldC (World.drew w26) ((⟨b92, 0, none⟩ : Addr).add 1) fun x102 x102n x102c =>
                  ixA x102 x102n 1 1 fun p103 =>
                  ldI .i64 (World.drew w26) p103 fun x104 =>
                  cl Try.prog 28 [.pointer (some (⟨b69, 0, none⟩ : Addr)), .pointer (some (⟨b92, 0, none⟩ : Addr)), .int .i64 x101, .int .i64 x104] (World.drew w26) fun e105 w30 => e105 = Ending.returned (.tuple #[]) ∧
                  k76 (()) w30))) fun s77 w22 => match s77 with
            | (_) =>
            k73 ((IntKind.wrap .i64 (v72 + 1)), ()) w22) (
            R (.tuple #[.pointer (some (⟨b69, 0, none⟩ : Addr)), .int .i64 0]) w21)) (0, ()) w20)) ∧
    (
      ∃ (x108 : Option Addr) (x108n x108c : Nat), ∃ w31 : World, (Instr.makeSlice 54 (.int .i64 (IntKind.wrap .i64 (2 * x15))) (.int .i64 (IntKind.wrap .i64 (2 * x15)))).run Try.prog (World.drew w3) = .ok (.slice x108 x108n x108c) w31 ∧
      (
        ldI .i64 w31 ((⟨b2, 0, none⟩ : Addr).add 0) fun x109 =>
        ((.int .i64 x109 : Value) = .int .i64 x14)) ∧
      (
        cl Try.prog 24 [] w31 fun e111 w32 => ∃ x110 : Option Addr, e111 = Ending.returned (.pointer x110) ∧
        (
          ldI .i64 w32 ((⟨b2, 0, none⟩ : Addr).add 0) fun x112 =>
          ((.int .i64 x112 : Value) = .int .i64 x15)) ∧
        (
          ldI .i64 w32 ((⟨b2, 0, none⟩ : Addr).add 0) fun x113 =>
          ((.int .i64 x113 : Value) = .int .i64 x14)) ∧
        alc w32 [.slice none 0 0] 58 fun b114 w33 =>
        (
          ldI .i64 w33 ((⟨b2, 0, none⟩ : Addr).add 0) fun x115 =>
          ((.int .i64 x115 : Value) = .int .i64 x15)) ∧
        (
          ldI .i64 w33 ((⟨b2, 0, none⟩ : Addr).add 0) fun x116 =>
          ((.int .i64 x116 : Value) = .int .i64 x14)) ∧
        alc w33 [.int .i64 x14, .pointer x110, .pointer x11, .slice none 0 0, .slice x108 x108n x108c, .slice none 0 0, .slice none 0 0, .iface 55 (.pointer (some (⟨b114, 0, none⟩ : Addr))), .int .i64 0, .bool false, .bool false, .bool false, .int .i64 0] 64 fun b117 w34 =>
        ldC w34 ((⟨b2, 0, none⟩ : Addr).add 1) fun x119 x119n x119c =>
        lp (σ := Int × Unit) (fun s122 w35 k121 => match s122 with
          | (v120, _) =>
          pif (decide (v120 < (x119n : Int))) (
            jn (σ := Unit) (fun k124 =>
              ixA x119 x119n v120 1 fun p127 =>
              ldC w35 p127 fun x128 x128n x128c =>
              ldP w35 ((⟨b117, 0, none⟩ : Addr).add 1) fun x130 =>
              cl Try.prog 25 [.pointer x130, .slice x128 x128n x128c, .bool false] w35 fun e133 w37 => ∃ x131 : Int, ∃ x132 : Int, e133 = Ending.returned (.tuple #[.int .i64 x131, .int .i64 x132]) ∧
              cl Try.prog 26 [.slice x128 x128n x128c] w37 fun e136 w38 => ∃ x135 : Bool, e136 = Ending.returned (.bool x135) ∧
              pif x135 (
                k124 (()) w38) (
                cl Try.prog 27 [.slice x128 x128n x128c] w38 fun e139 w39 => ∃ (x138 : Option Addr) (x138n x138c : Nat), e139 = Ending.returned (.slice x138 x138n x138c) ∧
                alc w39 [.int .i64 x131, .slice x138 x138n x138c, .int .i64 0, .int .i64 0, .bool false] 71 fun b140 w40 =>
                ldC w40 ((⟨b140, 0, none⟩ : Addr).add 1) fun x142 x142n x142c =>
                pif (decide ((x142n : Int) < 2)) (
                  ldC w40 ((⟨b117, 0, none⟩ : Addr).add 5) fun x144 x144n x144c =>
                  alc w40 [.pointer (some (⟨b140, 0, none⟩ : Addr))] 68 fun b145 w41 =>
                  ∃ (x146 : Option Addr) (x146n x146c : Nat), ∃ w42 : World, (Builtin.append_ #[59, 59] 59 #[.slice x144 x144n x144c, .slice (some (⟨b145, 0, none⟩ : Addr)) 1 1]).run Try.prog w41 = .ok (.slice x146 x146n x146c) w42 ∧
                  st w42 (((⟨b117, 0, none⟩ : Addr).add 5).add 0) (.slice x146 x146n x146c) fun w43 =>
                  k124 (()) w43) (
                  ldC (World.drew w40) ((⟨b140, 0, none⟩ : Addr).add 1) fun x147 x147n x147c =>
                  ixA x147 x147n 0 1 fun p148 =>
                  ldI .i64 (World.drew w40) p148 fun x149 =>
                  ldC (World.drew w40) ((⟨b140, 0, none⟩ : Addr).add 1) fun x150 x150n x150c =>
                  ixA x150 x150n 1 1 fun p151 =>
                  ldI .i64 (World.drew w40) p151 fun x152 =>
                  cl Try.prog 28 [.pointer (some (⟨b117, 0, none⟩ : Addr)), .pointer (some (⟨b140, 0, none⟩ : Addr)), .int .i64 x149, .int .i64 x152] (World.drew w40) fun e153 w44 => e153 = Ending.returned (.tuple #[]) ∧
                  k124 (()) w44))) fun s125 w36 => match s125 with
            | (_) =>
            k121 ((IntKind.wrap .i64 (v120 + 1)), ()) w36) (
            R (.tuple #[.pointer (some (⟨b117, 0, none⟩ : Addr)), .int .i64 0]) w35)) (0, ()) w34) ∧
      (
        alc w31 [.slice none 0 0] 58 fun b156 w45 =>
        (
          ldI .i64 w45 ((⟨b2, 0, none⟩ : Addr).add 0) fun x157 =>
          ((.int .i64 x157 : Value) = .int .i64 x15)) ∧
        (
          ldI .i64 w45 ((⟨b2, 0, none⟩ : Addr).add 0) fun x158 =>
          ((.int .i64 x158 : Value) = .int .i64 x14)) ∧
        cl Try.prog 24 [] w45 fun e160 w46 => ∃ x159 : Option Addr, e160 = Ending.returned (.pointer x159) ∧
        (
          ldI .i64 w46 ((⟨b2, 0, none⟩ : Addr).add 0) fun x161 =>
          ((.int .i64 x161 : Value) = .int .i64 x15)) ∧
        (
          ldI .i64 w46 ((⟨b2, 0, none⟩ : Addr).add 0) fun x162 =>
          ((.int .i64 x162 : Value) = .int .i64 x14)) ∧
        alc w46 [.int .i64 x14, .pointer x159, .pointer x11, .slice none 0 0, .slice x108 x108n x108c, .slice none 0 0, .slice none 0 0, .iface 55 (.pointer (some (⟨b156, 0, none⟩ : Addr))), .int .i64 0, .bool false, .bool false, .bool false, .int .i64 0] 64 fun b163 w47 =>
        ldC w47 ((⟨b2, 0, none⟩ : Addr).add 1) fun x165 x165n x165c =>
        lp (σ := Int × Unit) (fun s168 w48 k167 => match s168 with
          | (v166, _) =>
          pif (decide (v166 < (x165n : Int))) (
            jn (σ := Unit) (fun k170 =>
              ixA x165 x165n v166 1 fun p173 =>
              ldC w48 p173 fun x174 x174n x174c =>
              ldP w48 ((⟨b163, 0, none⟩ : Addr).add 1) fun x176 =>
              cl Try.prog 25 [.pointer x176, .slice x174 x174n x174c, .bool false] w48 fun e179 w50 => ∃ x177 : Int, ∃ x178 : Int, e179 = Ending.returned (.tuple #[.int .i64 x177, .int .i64 x178]) ∧
              cl Try.prog 26 [.slice x174 x174n x174c] w50 fun e182 w51 => ∃ x181 : Bool, e182 = Ending.returned (.bool x181) ∧
              pif x181 (
                k170 (()) w51) (
                cl Try.prog 27 [.slice x174 x174n x174c] w51 fun e185 w52 => ∃ (x184 : Option Addr) (x184n x184c : Nat), e185 = Ending.returned (.slice x184 x184n x184c) ∧
                alc w52 [.int .i64 x177, .slice x184 x184n x184c, .int .i64 0, .int .i64 0, .bool false] 71 fun b186 w53 =>
                ldC w53 ((⟨b186, 0, none⟩ : Addr).add 1) fun x188 x188n x188c =>
                pif (decide ((x188n : Int) < 2)) (
                  ldC w53 ((⟨b163, 0, none⟩ : Addr).add 5) fun x190 x190n x190c =>
                  alc w53 [.pointer (some (⟨b186, 0, none⟩ : Addr))] 68 fun b191 w54 =>
                  ∃ (x192 : Option Addr) (x192n x192c : Nat), ∃ w55 : World, (Builtin.append_ #[59, 59] 59 #[.slice x190 x190n x190c, .slice (some (⟨b191, 0, none⟩ : Addr)) 1 1]).run Try.prog w54 = .ok (.slice x192 x192n x192c) w55 ∧
                  st w55 (((⟨b163, 0, none⟩ : Addr).add 5).add 0) (.slice x192 x192n x192c) fun w56 =>
                  k170 (()) w56) (
                  ldC (World.drew w53) ((⟨b186, 0, none⟩ : Addr).add 1) fun x193 x193n x193c =>
                  ixA x193 x193n 0 1 fun p194 =>
                  ldI .i64 (World.drew w53) p194 fun x195 =>
                  ldC (World.drew w53) ((⟨b186, 0, none⟩ : Addr).add 1) fun x196 x196n x196c =>
                  ixA x196 x196n 1 1 fun p197 =>
                  ldI .i64 (World.drew w53) p197 fun x198 =>
                  cl Try.prog 28 [.pointer (some (⟨b163, 0, none⟩ : Addr)), .pointer (some (⟨b186, 0, none⟩ : Addr)), .int .i64 x195, .int .i64 x198] (World.drew w53) fun e199 w57 => e199 = Ending.returned (.tuple #[]) ∧
                  k170 (()) w57))) fun s171 w49 => match s171 with
            | (_) =>
            k167 ((IntKind.wrap .i64 (v166 + 1)), ()) w49) (
            R (.tuple #[.pointer (some (⟨b163, 0, none⟩ : Addr)), .int .i64 0]) w48)) (0, ()) w47)) ∧
    (
      alc (World.drew w3) [.slice none 0 0] 58 fun b202 w58 =>
      (
        ldI .i64 w58 ((⟨b2, 0, none⟩ : Addr).add 0) fun x203 =>
        ((.int .i64 x203 : Value) = .int .i64 x15)) ∧
      (
        ldI .i64 w58 ((⟨b2, 0, none⟩ : Addr).add 0) fun x204 =>
        ((.int .i64 x204 : Value) = .int .i64 x14)) ∧
      (
        cl Try.prog 24 [] w58 fun e206 w59 => ∃ x205 : Option Addr, e206 = Ending.returned (.pointer x205) ∧
        (
          ldI .i64 w59 ((⟨b2, 0, none⟩ : Addr).add 0) fun x207 =>
          ((.int .i64 x207 : Value) = .int .i64 x15)) ∧
        (
          ldI .i64 w59 ((⟨b2, 0, none⟩ : Addr).add 0) fun x208 =>
          ((.int .i64 x208 : Value) = .int .i64 x14)) ∧
        ∃ (x209 : Option Addr) (x209n x209c : Nat), ∃ w60 : World, (Instr.makeSlice 54 (.int .i64 (IntKind.wrap .i64 (2 * x15))) (.int .i64 (IntKind.wrap .i64 (2 * x15)))).run Try.prog w59 = .ok (.slice x209 x209n x209c) w60 ∧
        (
          ldI .i64 w60 ((⟨b2, 0, none⟩ : Addr).add 0) fun x210 =>
          ((.int .i64 x210 : Value) = .int .i64 x14)) ∧
        alc w60 [.int .i64 x14, .pointer x205, .pointer x11, .slice none 0 0, .slice x209 x209n x209c, .slice none 0 0, .slice none 0 0, .iface 55 (.pointer (some (⟨b202, 0, none⟩ : Addr))), .int .i64 0, .bool false, .bool false, .bool false, .int .i64 0] 64 fun b211 w61 =>
        ldC w61 ((⟨b2, 0, none⟩ : Addr).add 1) fun x213 x213n x213c =>
        lp (σ := Int × Unit) (fun s216 w62 k215 => match s216 with
          | (v214, _) =>
          pif (decide (v214 < (x213n : Int))) (
            jn (σ := Unit) (fun k218 =>
              ixA x213 x213n v214 1 fun p221 =>
              ldC w62 p221 fun x222 x222n x222c =>
              ldP w62 ((⟨b211, 0, none⟩ : Addr).add 1) fun x224 =>
              cl Try.prog 25 [.pointer x224, .slice x222 x222n x222c, .bool false] w62 fun e227 w64 => ∃ x225 : Int, ∃ x226 : Int, e227 = Ending.returned (.tuple #[.int .i64 x225, .int .i64 x226]) ∧
              cl Try.prog 26 [.slice x222 x222n x222c] w64 fun e230 w65 => ∃ x229 : Bool, e230 = Ending.returned (.bool x229) ∧
              pif x229 (
                k218 (()) w65) (
                cl Try.prog 27 [.slice x222 x222n x222c] w65 fun e233 w66 => ∃ (x232 : Option Addr) (x232n x232c : Nat), e233 = Ending.returned (.slice x232 x232n x232c) ∧
                alc w66 [.int .i64 x225, .slice x232 x232n x232c, .int .i64 0, .int .i64 0, .bool false] 71 fun b234 w67 =>
                ldC w67 ((⟨b234, 0, none⟩ : Addr).add 1) fun x236 x236n x236c =>
                pif (decide ((x236n : Int) < 2)) (
                  ldC w67 ((⟨b211, 0, none⟩ : Addr).add 5) fun x238 x238n x238c =>
                  alc w67 [.pointer (some (⟨b234, 0, none⟩ : Addr))] 68 fun b239 w68 =>
                  ∃ (x240 : Option Addr) (x240n x240c : Nat), ∃ w69 : World, (Builtin.append_ #[59, 59] 59 #[.slice x238 x238n x238c, .slice (some (⟨b239, 0, none⟩ : Addr)) 1 1]).run Try.prog w68 = .ok (.slice x240 x240n x240c) w69 ∧
                  st w69 (((⟨b211, 0, none⟩ : Addr).add 5).add 0) (.slice x240 x240n x240c) fun w70 =>
                  k218 (()) w70) (
                  ldC (World.drew w67) ((⟨b234, 0, none⟩ : Addr).add 1) fun x241 x241n x241c =>
                  ixA x241 x241n 0 1 fun p242 =>
                  ldI .i64 (World.drew w67) p242 fun x243 =>
                  ldC (World.drew w67) ((⟨b234, 0, none⟩ : Addr).add 1) fun x244 x244n x244c =>
                  ixA x244 x244n 1 1 fun p245 =>
                  ldI .i64 (World.drew w67) p245 fun x246 =>
                  cl Try.prog 28 [.pointer (some (⟨b211, 0, none⟩ : Addr)), .pointer (some (⟨b234, 0, none⟩ : Addr)), .int .i64 x243, .int .i64 x246] (World.drew w67) fun e247 w71 => e247 = Ending.returned (.tuple #[]) ∧
                  k218 (()) w71))) fun s219 w63 => match s219 with
            | (_) =>
            k215 ((IntKind.wrap .i64 (v214 + 1)), ()) w63) (
            R (.tuple #[.pointer (some (⟨b211, 0, none⟩ : Addr)), .int .i64 0]) w62)) (0, ()) w61) ∧
      (
        ∃ (x250 : Option Addr) (x250n x250c : Nat), ∃ w72 : World, (Instr.makeSlice 54 (.int .i64 (IntKind.wrap .i64 (2 * x15))) (.int .i64 (IntKind.wrap .i64 (2 * x15)))).run Try.prog w58 = .ok (.slice x250 x250n x250c) w72 ∧
        (
          ldI .i64 w72 ((⟨b2, 0, none⟩ : Addr).add 0) fun x251 =>
          ((.int .i64 x251 : Value) = .int .i64 x14)) ∧
        cl Try.prog 24 [] w72 fun e253 w73 => ∃ x252 : Option Addr, e253 = Ending.returned (.pointer x252) ∧
        (
          ldI .i64 w73 ((⟨b2, 0, none⟩ : Addr).add 0) fun x254 =>
          ((.int .i64 x254 : Value) = .int .i64 x15)) ∧
        (
          ldI .i64 w73 ((⟨b2, 0, none⟩ : Addr).add 0) fun x255 =>
          ((.int .i64 x255 : Value) = .int .i64 x14)) ∧
        alc w73 [.int .i64 x14, .pointer x252, .pointer x11, .slice none 0 0, .slice x250 x250n x250c, .slice none 0 0, .slice none 0 0, .iface 55 (.pointer (some (⟨b202, 0, none⟩ : Addr))), .int .i64 0, .bool false, .bool false, .bool false, .int .i64 0] 64 fun b256 w74 =>
        ldC w74 ((⟨b2, 0, none⟩ : Addr).add 1) fun x258 x258n x258c =>
        lp (σ := Int × Unit) (fun s261 w75 k260 => match s261 with
          | (v259, _) =>
          pif (decide (v259 < (x258n : Int))) (
            jn (σ := Unit) (fun k263 =>
              ixA x258 x258n v259 1 fun p266 =>
              ldC w75 p266 fun x267 x267n x267c =>
              ldP w75 ((⟨b256, 0, none⟩ : Addr).add 1) fun x269 =>
              cl Try.prog 25 [.pointer x269, .slice x267 x267n x267c, .bool false] w75 fun e272 w77 => ∃ x270 : Int, ∃ x271 : Int, e272 = Ending.returned (.tuple #[.int .i64 x270, .int .i64 x271]) ∧
              cl Try.prog 26 [.slice x267 x267n x267c] w77 fun e275 w78 => ∃ x274 : Bool, e275 = Ending.returned (.bool x274) ∧
              pif x274 (
                k263 (()) w78) (
                cl Try.prog 27 [.slice x267 x267n x267c] w78 fun e278 w79 => ∃ (x277 : Option Addr) (x277n x277c : Nat), e278 = Ending.returned (.slice x277 x277n x277c) ∧
                alc w79 [.int .i64 x270, .slice x277 x277n x277c, .int .i64 0, .int .i64 0, .bool false] 71 fun b279 w80 =>
                ldC w80 ((⟨b279, 0, none⟩ : Addr).add 1) fun x281 x281n x281c =>
                pif (decide ((x281n : Int) < 2)) (
                  ldC w80 ((⟨b256, 0, none⟩ : Addr).add 5) fun x283 x283n x283c =>
                  alc w80 [.pointer (some (⟨b279, 0, none⟩ : Addr))] 68 fun b284 w81 =>
                  ∃ (x285 : Option Addr) (x285n x285c : Nat), ∃ w82 : World, (Builtin.append_ #[59, 59] 59 #[.slice x283 x283n x283c, .slice (some (⟨b284, 0, none⟩ : Addr)) 1 1]).run Try.prog w81 = .ok (.slice x285 x285n x285c) w82 ∧
                  st w82 (((⟨b256, 0, none⟩ : Addr).add 5).add 0) (.slice x285 x285n x285c) fun w83 =>
                  k263 (()) w83) (
                  ldC (World.drew w80) ((⟨b279, 0, none⟩ : Addr).add 1) fun x286 x286n x286c =>
                  ixA x286 x286n 0 1 fun p287 =>
                  ldI .i64 (World.drew w80) p287 fun x288 =>
                  ldC (World.drew w80) ((⟨b279, 0, none⟩ : Addr).add 1) fun x289 x289n x289c =>
                  ixA x289 x289n 1 1 fun p290 =>
                  ldI .i64 (World.drew w80) p290 fun x291 =>
                  cl Try.prog 28 [.pointer (some (⟨b256, 0, none⟩ : Addr)), .pointer (some (⟨b279, 0, none⟩ : Addr)), .int .i64 x288, .int .i64 x291] (World.drew w80) fun e292 w84 => e292 = Ending.returned (.tuple #[]) ∧
                  k263 (()) w84))) fun s264 w76 => match s264 with
            | (_) =>
            k260 ((IntKind.wrap .i64 (v259 + 1)), ()) w76) (
            R (.tuple #[.pointer (some (⟨b256, 0, none⟩ : Addr)), .int .i64 0]) w75)) (0, ()) w74)))
def An5 : An := .seq (.leaf) (.seq (.seq (.leaf) (.cond (.seq (.leaf) (.leaf)) (.leaf))) (.seq (.leaf) (.seq (.draw [0, 1, 0, 0, 0, 16, 48, 112, 0, 256, 768, 2047, 4095, 8191]) (.seq (.seq (.leaf) (.blk (.loop [(37, .one (.int .i64))] (.seq (.leaf) (.seq (.cond (.leaf) (.leaf)) (.seq (.join [] (.blk (.seq (.leaf) (.seq (.leaf) (.seq (.seq (.leaf) (.cond (.leaf) (.leaf))) (.seq (.leaf) (.seq (.seq (.leaf) (.cond (.seq (.leaf) (.leaf)) (.leaf))) (.draw [0, 0, 0, 4, 12, 28, 60, 124, 0, 256, 768, 1792, 3840, 7936, 16383])))))))) (.leaf))))))) (.seq (.leaf) (.leaf))))))
theorem V5_eq (a0_0 : Int) (a0_1 : Option Addr) (a0_1n : Nat) (a0_1c : Nat) (w : World) (R : Value → World → Prop) : evF Try.prog Try.f5 An5 [.agg #[.int .i64 a0_0, .slice a0_1 a0_1n a0_1c]] w R = V5 a0_0 a0_1 a0_1n a0_1c w R := by kernel_rfl
theorem V5_calls (a0_0 : Int) (a0_1 : Option Addr) (a0_1n : Nat) (a0_1c : Nat) (w : World) (R : Value → World → Prop) (h : V5 a0_0 a0_1 a0_1n a0_1c w R) : Calls Try.prog 5 #[.agg #[.int .i64 a0_0, .slice a0_1 a0_1n a0_1c]] w fun e w' => ∃ v, e = .returned v ∧ R v w' :=
  calls_of_ev (args := [.agg #[.int .i64 a0_0, .slice a0_1 a0_1n a0_1c]]) Try.func5 (Nat.le_of_ble_eq_true (by kernel_rfl)) (by rw [V5_eq]; exact h)
theorem ok5 : fnOk Try.prog 5 = true := by kernel_rfl

/-! (*depot/engine.Engine).Decide -/
def V6 (a0 : Option Addr) (a1 : Int) (w : World) (R : Value → World → Prop) : Prop :=
  cl Try.prog 29 [.int .i64 a1] (World.drew w) fun e3 w1 => ∃ x2 : Bool, e3 = Ending.returned (.bool x2) ∧
  gd (α := Addr) (!(!x2)) (fun k4 =>
    nn a0 fun p5 =>
    k4 p5 w1) ⟨0, 0, none⟩ w1 fun x6 _ =>
  gd (α := Int) (!(!x2)) (fun k7 =>
    ldI .i64 w1 (x6.add 0) fun x8 =>
    k7 x8 w1) 0 w1 fun x9 _ =>
  gd (α := Int) (!(!x2)) (fun k10 =>
    cl Try.prog 30 [.int .i64 a1] w1 fun e12 w2 => ∃ x11 : Int, e12 = Ending.returned (.int .i64 x11) ∧
    k10 x11 w2) 0 w1 fun x13 w3 =>
  ((!(!x2)) = true →
    ldI .i64 w3 (x6.add 0) fun x14 =>
    ((.int .i64 x14 : Value) = .int .i64 x9)) ∧
  pif (cond (!x2) true (decide (x13 > x9))) (
    R (.int .i64 1) w3) (
    nn a0 fun p17 =>
    ldB w3 (p17.add 9) fun x18 =>
    pif (!x18) (
      R (.int .i64 3) w3) (
      nn a0 fun p21 =>
      ldP w3 (p21.add 2) fun x22 =>
      cl Try.prog 31 [.pointer x22, .int .i64 a1] w3 fun e24 w4 => ∃ x23 : Int, e24 = Ending.returned (.int .i8 x23) ∧
      pif (x23 != 0) (
        R (.int .i64 50) w4) (
        nn a0 fun p27 =>
        ldP w4 (p27.add 2) fun x28 =>
        cl Try.prog 32 [.pointer x28, .int .i64 a1] w4 fun e30 w5 => ∃ x29 : Int, e30 = Ending.returned (.int .i64 x29) ∧
        nn a0 fun p32 =>
        ldC w5 (p32.add 3) fun x33 x33n x33c =>
        alc w5 [.int .i64 a1] 3 fun b34 w6 =>
        ∃ (x35 : Option Addr) (x35n x35c : Nat), ∃ w7 : World, (Builtin.append_ #[26, 26] 26 #[.slice x33 x33n x33c, .slice (some (⟨b34, 0, none⟩ : Addr)) 1 1]).run Try.prog w6 = .ok (.slice x35 x35n x35c) w7 ∧
        nn a0 fun p36 =>
        st w7 ((p36.add 3).add 0) (.slice x35 x35n x35c) fun w8 =>
        nn a0 fun p38 =>
        st w8 ((p38.add 9).add 0) (.bool false) fun w9 =>
        R (.int .i64 0) w9)))
def An6 : An := .seq (.leaf) (.seq (.blk (.seq (.draw [0, 1, 3, 7, 15, 31, 15, 79, 207, 463, 1023, 2047, 4095]) (.cond (.seq (.leaf) (.leaf)) (.seq (.leaf) (.cond (.seq (.leaf) (.leaf)) (.seq (.leaf) (.cond (.seq (.leaf) (.leaf)) (.leaf)))))))) (.seq (.leaf) (.seq (.leaf) (.seq (.leaf) (.seq (.leaf) (.leaf))))))
theorem V6_eq (a0 : Option Addr) (a1 : Int) (w : World) (R : Value → World → Prop) : evF Try.prog Try.f6 An6 [.pointer a0, .int .i64 a1] w R = V6 a0 a1 w R := by kernel_rfl
theorem V6_calls (a0 : Option Addr) (a1 : Int) (w : World) (R : Value → World → Prop) (h : V6 a0 a1 w R) : Calls Try.prog 6 #[.pointer a0, .int .i64 a1] w fun e w' => ∃ v, e = .returned v ∧ R v w' :=
  calls_of_ev (args := [.pointer a0, .int .i64 a1]) Try.func6 (Nat.le_of_ble_eq_true (by kernel_rfl)) (by rw [V6_eq]; exact h)
theorem ok6 : fnOk Try.prog 6 = true := by kernel_rfl

/-! (*depot/engine.Engine).Spread -/
def V7 (a0 : Option Addr) (w : World) (R : Value → World → Prop) : Prop :=
  nn a0 fun p3 =>
  ldB w (p3.add 11) fun x4 =>
  gd (α := Addr) (!x4) (fun k5 =>
    nn a0 fun p6 =>
    k5 p6 w) ⟨0, 0, none⟩ w fun x7 w1 =>
  gd (α := Bool) (!x4) (fun k8 =>
    ldB w1 (x7.add 10) fun x9 =>
    k8 x9 w1) false w1 fun x10 w2 =>
  pif (cond x4 true x10) (
    R (.bool false) w2) (
    jn (σ := Bool × Unit) (fun k14 =>
      cl Try.prog 33 [.pointer a0] w2 fun e18 w4 => ∃ x17 : Int, e18 = Ending.returned (.int .i64 x17) ∧
      pif (x17 == 0) (
        nn a0 fun p20 =>
        ldC w4 (p20.add 5) fun x21 x21n x21c =>
        lp (σ := Bool × Int × Unit) (fun s25 w5 k24 => match s25 with
          | (v22, v23, _) =>
          pif (decide (v23 < (x21n : Int))) (
            ixA x21 x21n v23 1 fun p28 =>
            ldP w5 p28 fun x29 =>
            gd (α := Bool) v22 (fun k31 =>
              cl Try.prog 34 [.pointer a0, .pointer x29] w5 fun e33 w6 => ∃ x32 : Bool, e33 = Ending.returned (.bool x32) ∧
              k31 x32 w6) false w5 fun x34 w7 =>
            k24 ((cond v22 x34 false), (IntKind.wrap .i64 (v23 + 1)), ()) w7) (
            k14 (v22, ()) w5)) (true, 0, ()) w4) (
        k14 (true, ()) w4)) fun s15 w3 => match s15 with
    | (v13, _) =>
    lp (σ := Bool × Unit) (fun s38 w8 k37 => match s38 with
      | (v36, _) =>
      gd (α := Addr) v36 (fun k39 =>
        nn a0 fun p40 =>
        k39 p40 (World.drew w8)) ⟨0, 0, none⟩ (World.drew w8) fun x41 _ =>
      gd (α := Int) v36 (fun k42 =>
        ldI .i64 (World.drew w8) (x41.add 8) fun x43 =>
        k42 x43 (World.drew w8)) 0 (World.drew w8) fun x44 _ =>
      gd (α := Addr) v36 (fun k45 =>
        nn a0 fun p46 =>
        k45 p46 (World.drew w8)) ⟨0, 0, none⟩ (World.drew w8) fun x47 _ =>
      gd (α := (Option Addr × Nat × Nat)) v36 (fun k48 =>
        ldC (World.drew w8) (x47.add 3) fun x49 x49n x49c =>
        k48 (x49, x49n, x49c) (World.drew w8)) (none, 0, 0) (World.drew w8) fun x50 _ =>
      pif (cond v36 (decide (x44 < (x50.2.1 : Int))) false) (
        nn a0 fun p51 =>
        ldC (World.drew (World.drew w8)) (p51.add 3) fun x52 x52n x52c =>
        nn a0 fun p53 =>
        ldI .i64 (World.drew (World.drew w8)) (p53.add 8) fun x54 =>
        ixA x52 x52n x54 1 fun p55 =>
        ldI .i64 (World.drew (World.drew w8)) p55 fun x56 =>
        nn a0 fun p58 =>
        ldI .i64 (World.drew (World.drew w8)) (p58.add 8) fun x59 =>
        nn a0 fun p60 =>
        st (World.drew (World.drew w8)) ((p60.add 8).add 0) (.int .i64 (IntKind.wrap .i64 (x59 + 1))) fun w9 =>
        cl Try.prog 35 [.pointer a0, .int .i64 (IntKind.wrap .i64 (0 - x56))] w9 fun e63 w10 => ∃ x62 : Bool, e63 = Ending.returned (.bool x62) ∧
        k37 (x62, ()) w10) (
        nn a0 fun p65 =>
        st (World.drew w8) ((p65.add 9).add 0) (.bool v36) fun w11 =>
        nn a0 fun p66 =>
        st w11 ((p66.add 10).add 0) (.bool (!v36)) fun w12 =>
        R (.bool v36) w12)) (v13, ()) w3)
def An7 : An := .seq (.leaf) (.seq (.seq (.leaf) (.cond (.seq (.leaf) (.leaf)) (.leaf))) (.seq (.leaf) (.seq (.join [(3, .one (.bool))] (.seq (.leaf) (.cond (.seq (.leaf) (.blk (.loop [(3, .one (.bool)), (25, .one (.int .i64))] (.seq (.leaf) (.seq (.cond (.leaf) (.leaf)) (.seq (.blk (.seq (.leaf) (.leaf))) (.leaf))))))) (.leaf)))) (.seq (.blk (.loop [(3, .one (.bool))] (.seq (.seq (.draw [0, 1, 3, 7, 15, 31, 3, 67, 195, 451, 963, 2047, 4095]) (.cond (.leaf) (.leaf))) (.blk (.seq (.draw [0, 1, 3, 7, 0, 16, 48, 112, 255, 511, 1023]) (.seq (.leaf) (.leaf))))))) (.seq (.leaf) (.seq (.leaf) (.leaf)))))))
theorem V7_eq (a0 : Option Addr) (w : World) (R : Value → World → Prop) : evF Try.prog Try.f7 An7 [.pointer a0] w R = V7 a0 w R := by kernel_rfl
theorem V7_calls (a0 : Option Addr) (w : World) (R : Value → World → Prop) (h : V7 a0 w R) : Calls Try.prog 7 #[.pointer a0] w fun e w' => ∃ v, e = .returned v ∧ R v w' :=
  calls_of_ev (args := [.pointer a0]) Try.func7 (Nat.le_of_ble_eq_true (by kernel_rfl)) (by rw [V7_eq]; exact h)
theorem ok7 : fnOk Try.prog 7 = true := by kernel_rfl

/-! (*depot/engine.Engine).Forget -/
def V8 (a0 : Option Addr) (a1 : Int) (w : World) (R : Value → World → Prop) : Prop :=
  nn a0 fun p3 =>
  ldB w (p3.add 9) fun x4 =>
  pif (!x4) (
    R (.int .i64 3) w) (
    gd (α := Addr) (!(decide (a1 < 0))) (fun k7 =>
      nn a0 fun p8 =>
      k7 p8 w) ⟨0, 0, none⟩ w fun x9 w1 =>
    gd (α := (Option Addr × Nat × Nat)) (!(decide (a1 < 0))) (fun k10 =>
      ldC w1 (x9.add 6) fun x11 x11n x11c =>
      k10 (x11, x11n, x11c) w1) (none, 0, 0) w1 fun x12 w2 =>
    pif (cond (decide (a1 < 0)) true (decide (a1 ≥ (x12.2.1 : Int)))) (
      R (.int .i64 2) w2) (
      nn a0 fun p15 =>
      ldC w2 (p15.add 6) fun x16 x16n x16c =>
      ixA x16 x16n a1 1 fun p17 =>
      ldP w2 p17 fun x18 =>
      cl Try.prog 36 [.pointer a0, .pointer x18] w2 fun e21 w3 => ∃ x20 : Bool, e21 = Ending.returned (.bool x20) ∧
      gd (α := Bool) (!x20) (fun k22 =>
        cl Try.prog 37 [.pointer a0, .pointer x18] w3 fun e24 w4 => ∃ x23 : Bool, e24 = Ending.returned (.bool x23) ∧
        k22 x23 w4) false w3 fun x25 w5 =>
      pif (cond x20 true x25) (
        R (.int .i64 160) w5) (
        nn x18 fun p28 =>
        st w5 ((p28.add 4).add 0) (.bool true) fun w6 =>
        nn a0 fun p29 =>
        ldP (World.drew w6) (p29.add 1) fun x30 =>
        nn x18 fun p31 =>
        ldI .i64 (World.drew w6) (p31.add 0) fun x32 =>
        cl Try.prog 38 [.pointer x30, .int .i64 x32] (World.drew w6) fun e34 w7 => ∃ x33 : Int, e34 = Ending.returned (.int .i64 x33) ∧
        nn a0 fun p36 =>
        ldC w7 (p36.add 6) fun x37 x37n x37c =>
        cl Try.prog 39 [.slice x37 x37n x37c, .int .i64 a1, .int .i64 (IntKind.wrap .i64 (a1 + 1))] w7 fun e39 w8 => ∃ (x38 : Option Addr) (x38n x38c : Nat), e39 = Ending.returned (.slice x38 x38n x38c) ∧
        nn a0 fun p40 =>
        st w8 ((p40.add 6).add 0) (.slice x38 x38n x38c) fun w9 =>
        nn a0 fun p41 =>
        ldV (World.drew w9) (p41.add 7) fun x42 =>
        nn x18 fun p43 =>
        ldC (World.drew w9) (p43.add 1) fun x44 x44n x44c =>
        nkA (x42) = true ∧
        cl Try.prog 40 [.slice x44 x44n x44c] (World.drew w9) fun e46 w10 => ∃ (x45 : Option Addr) (x45n x45c : Nat), e46 = Ending.returned (.slice x45 x45n x45c) ∧
        (
          ldV w10 (p41.add 7) fun x47 =>
          ((x47 : Value) = x42)) ∧
        clM Try.prog (x42) "depot/engine.note" [.agg #[.bool true, .slice x45 x45n x45c]] w10 fun e48 w11 => e48 = Ending.returned (.tuple #[]) ∧
        R (.int .i64 0) w11)))
def An8 : An := .seq (.leaf) (.seq (.blk (.seq (.leaf) (.cond (.seq (.leaf) (.leaf)) (.seq (.leaf) (.cond (.seq (.leaf) (.leaf)) (.leaf)))))) (.seq (.leaf) (.seq (.seq (.leaf) (.cond (.seq (.leaf) (.leaf)) (.leaf))) (.seq (.leaf) (.seq (.draw [0, 1, 3, 7, 0, 16, 48, 112, 255]) (.seq (.leaf) (.seq (.draw [0, 1, 3, 7, 0, 16, 48, 112, 240, 496, 15, 1039, 4095]) (.seq (.leaf) (.leaf)))))))))
theorem V8_eq (a0 : Option Addr) (a1 : Int) (w : World) (R : Value → World → Prop) : evF Try.prog Try.f8 An8 [.pointer a0, .int .i64 a1] w R = V8 a0 a1 w R := by kernel_rfl
theorem V8_calls (a0 : Option Addr) (a1 : Int) (w : World) (R : Value → World → Prop) (h : V8 a0 a1 w R) : Calls Try.prog 8 #[.pointer a0, .int .i64 a1] w fun e w' => ∃ v, e = .returned v ∧ R v w' :=
  calls_of_ev (args := [.pointer a0, .int .i64 a1]) Try.func8 (Nat.le_of_ble_eq_true (by kernel_rfl)) (by rw [V8_eq]; exact h)
theorem ok8 : fnOk Try.prog 8 = true := by kernel_rfl

/-! (*depot/engine.Engine).Learn -/
def V9 (a0 : Option Addr) (w : World) (R : Value → World → Prop) : Prop :=
  nn a0 fun p3 =>
  ldB w (p3.add 10) fun x4 =>
  pif (!x4) (
    R (.tuple #[.slice none 0 0, .int .i64 0, .int .i64 3]) w) (
    nn a0 fun p7 =>
    st w ((p7.add 10).add 0) (.bool false) fun w1 =>
    cl Try.prog 41 [.pointer a0] w1 fun e10 w2 => ∃ (x9 : Option Addr) (x9n x9c : Nat), e10 = Ending.returned (.slice x9 x9n x9c) ∧
    nn a0 fun p11 =>
    ldP (World.drew w2) (p11.add 1) fun x12 =>
    nn a0 fun p13 =>
    ldI .i64 (World.drew w2) (p13.add 12) fun x14 =>
    cl Try.prog 42 [.pointer x12, .int .i64 x14] (World.drew w2) fun e17 w3 => ∃ (x15 : Option Addr) (x15n x15c : Nat), ∃ x16 : Bool, e17 = Ending.returned (.tuple #[.slice x15 x15n x15c, .bool x16]) ∧
    cl Try.prog 43 [.slice x9 x9n x9c, .slice x15 x15n x15c] w3 fun e22 w4 => ∃ (x19 : Option Addr) (x19n x19c : Nat), ∃ x20 : Int, ∃ x21 : Int, e22 = Ending.returned (.tuple #[.slice x19 x19n x19c, .int .i64 x20, .int .i64 x21]) ∧
    pif ((x19n : Int) == 0) (
      nn a0 fun p25 =>
      st w4 ((p25.add 11).add 0) (.bool true) fun w5 =>
      nn a0 fun p27 =>
      ldV w5 (p27.add 7) fun x28 =>
      clM Try.prog (x28) "depot/engine.note" [.agg #[.bool false, .slice none 0 0]] w5 fun e29 w6 => e29 = Ending.returned (.tuple #[]) ∧
      R (.tuple #[.slice none 0 0, .int .i64 (-1), .int .i64 0]) w6) (
      cl Try.prog 44 [.slice x9 x9n x9c, .slice x19 x19n x19c] w4 fun e34 w7 => ∃ (x32 : Option Addr) (x32n x32c : Nat), ∃ x33 : Int, e34 = Ending.returned (.tuple #[.slice x32 x32n x32c, .int .i64 x33]) ∧
      nn a0 fun p36 =>
      ldV w7 (p36.add 7) fun x37 =>
      clM Try.prog (x37) "depot/engine.note" [.agg #[.bool false, .slice x32 x32n x32c]] w7 fun e38 w8 => e38 = Ending.returned (.tuple #[]) ∧
      nn a0 fun p40 =>
      ldP w8 (p40.add 1) fun x41 =>
      cl Try.prog 25 [.pointer x41, .slice x32 x32n x32c, .bool true] w8 fun e44 w9 => ∃ x42 : Int, ∃ x43 : Int, e44 = Ending.returned (.tuple #[.int .i64 x42, .int .i64 x43]) ∧
      cl Try.prog 40 [.slice x32 x32n x32c] w9 fun e47 w10 => ∃ (x46 : Option Addr) (x46n x46c : Nat), e47 = Ending.returned (.slice x46 x46n x46c) ∧
      alc w10 [.int .i64 x42, .slice x46 x46n x46c, .int .i64 0, .int .i64 0, .bool false] 71 fun b48 w11 =>
      nn a0 fun p50 =>
      ldC w11 (p50.add 6) fun x51 x51n x51c =>
      alc w11 [.pointer (some (⟨b48, 0, none⟩ : Addr))] 68 fun b52 w12 =>
      ∃ (x53 : Option Addr) (x53n x53c : Nat), ∃ w13 : World, (Builtin.append_ #[59, 59] 59 #[.slice x51 x51n x51c, .slice (some (⟨b52, 0, none⟩ : Addr)) 1 1]).run Try.prog w12 = .ok (.slice x53 x53n x53c) w13 ∧
      nn a0 fun p54 =>
      st w13 ((p54.add 6).add 0) (.slice x53 x53n x53c) fun w14 =>
      jn (σ := Unit) (fun k55 =>
        pif (decide ((x32n : Int) > 1)) (
          ixA x32 x32n 0 1 fun p58 =>
          ldI .i64 (World.drew w14) p58 fun x59 =>
          (0 : Int) ≤ 1 ∧ 1 ≤ (x32n : Int) ∧
          cl Try.prog 45 [.slice (slA x32 x32c (Int.toNat 1) 1) (x32n - (Int.toNat 1)) (x32c - (Int.toNat 1)), .func (.func 46) #[.pointer a0] #[]] (World.drew w14) fun e61 w16 => ∃ x60 : Int, e61 = Ending.returned (.int .i64 x60) ∧
          (
            ldI .i64 w16 p58 fun x62 =>
            ((.int .i64 x62 : Value) = .int .i64 x59)) ∧
          cl Try.prog 28 [.pointer a0, .pointer (some (⟨b48, 0, none⟩ : Addr)), .int .i64 x59, .int .i64 x60] w16 fun e63 w17 => e63 = Ending.returned (.tuple #[]) ∧
          k55 (()) w17) (
          k55 (()) w14)) fun s56 w15 => match s56 with
      | (_) =>
      cl Try.prog 47 [.pointer a0, .int .i64 x20] w15 fun e65 w18 => e65 = Ending.returned (.tuple #[]) ∧
      ixA x32 x32n 0 1 fun p67 =>
      ldI .i64 w18 p67 fun x68 =>
      cl Try.prog 48 [.pointer a0, .int .i64 x68, .pointer (some (⟨b48, 0, none⟩ : Addr))] w18 fun e69 w19 => e69 = Ending.returned (.tuple #[]) ∧
      R (.tuple #[.slice x32 x32n x32c, .int .i64 x20, .int .i64 0]) w19))
def An9 : An := .seq (.leaf) (.seq (.seq (.leaf) (.cond (.seq (.leaf) (.leaf)) (.leaf))) (.seq (.leaf) (.seq (.leaf) (.seq (.draw [0, 1, 3, 7, 0, 16, 48, 112, 255, 511, 1023, 1023, 2047, 8191]) (.seq (.leaf) (.seq (.seq (.leaf) (.cond (.seq (.leaf) (.seq (.leaf) (.seq (.leaf) (.leaf)))) (.leaf))) (.seq (.leaf) (.seq (.leaf) (.seq (.leaf) (.seq (.leaf) (.seq (.leaf) (.seq (.join [] (.seq (.leaf) (.cond (.draw [0, 0, 0, 4, 12, 0, 32, 0, 128, 480, 1023]) (.leaf)))) (.seq (.leaf) (.seq (.leaf) (.seq (.leaf) (.leaf))))))))))))))))
theorem V9_eq (a0 : Option Addr) (w : World) (R : Value → World → Prop) : evF Try.prog Try.f9 An9 [.pointer a0] w R = V9 a0 w R := by kernel_rfl
theorem V9_calls (a0 : Option Addr) (w : World) (R : Value → World → Prop) (h : V9 a0 w R) : Calls Try.prog 9 #[.pointer a0] w fun e w' => ∃ v, e = .returned v ∧ R v w' :=
  calls_of_ev (args := [.pointer a0]) Try.func9 (Nat.le_of_ble_eq_true (by kernel_rfl)) (by rw [V9_eq]; exact h)
theorem ok9 : fnOk Try.prog 9 = true := by kernel_rfl

/-! (*depot/engine.Engine).Dead -/
def V13 (a0 : Option Addr) (w : World) (R : Value → World → Prop) : Prop :=
  nn a0 fun p3 =>
  ldB w (p3.add 11) fun x4 =>
  R (.bool x4) w
def An13 : An := .seq (.leaf) (.seq (.leaf) (.leaf))
theorem V13_eq (a0 : Option Addr) (w : World) (R : Value → World → Prop) : evF Try.prog Try.f13 An13 [.pointer a0] w R = V13 a0 w R := by kernel_rfl
theorem V13_calls (a0 : Option Addr) (w : World) (R : Value → World → Prop) (h : V13 a0 w R) : Calls Try.prog 13 #[.pointer a0] w fun e w' => ∃ v, e = .returned v ∧ R v w' :=
  calls_of_ev (args := [.pointer a0]) Try.func13 (Nat.le_of_ble_eq_true (by kernel_rfl)) (by rw [V13_eq]; exact h)
theorem ok13 : fnOk Try.prog 13 = true := by kernel_rfl

/-! (*depot/engine.Engine).Learnts -/
def V15 (a0 : Option Addr) (w : World) (R : Value → World → Prop) : Prop :=
  nn a0 fun p4 =>
  ldC w (p4.add 6) fun x5 x5n x5c =>
  lp (σ := (Option Addr × Nat × Nat) × Int × Unit) (fun s9 w1 k8 => match s9 with
    | ((v6, v6n, v6c), v7, _) =>
    pif (decide (v7 < (x5n : Int))) (
      ixA x5 x5n v7 1 fun p12 =>
      ldP w1 p12 fun x13 =>
      nn x13 fun p15 =>
      ldC w1 (p15.add 1) fun x16 x16n x16c =>
      cl Try.prog 40 [.slice x16 x16n x16c] w1 fun e18 w2 => ∃ (x17 : Option Addr) (x17n x17c : Nat), e18 = Ending.returned (.slice x17 x17n x17c) ∧
      alc w2 [.slice x17 x17n x17c] 26 fun b19 w3 =>
      ∃ (x20 : Option Addr) (x20n x20c : Nat), ∃ w4 : World, (Builtin.append_ #[27, 27] 27 #[.slice v6 v6n v6c, .slice (some (⟨b19, 0, none⟩ : Addr)) 1 1]).run Try.prog w3 = .ok (.slice x20 x20n x20c) w4 ∧
      k8 ((x20, x20n, x20c), (IntKind.wrap .i64 (v7 + 1)), ()) w4) (
      R (.slice v6 v6n v6c) w1)) ((none, 0, 0), 0, ()) w
def An15 : An := .seq (.leaf) (.seq (.leaf) (.seq (.seq (.leaf) (.blk (.loop [(3, .one (.slc)), (11, .one (.int .i64))] (.seq (.leaf) (.seq (.cond (.leaf) (.leaf)) (.seq (.blk (.seq (.leaf) (.leaf))) (.leaf))))))) (.seq (.leaf) (.leaf))))
theorem V15_eq (a0 : Option Addr) (w : World) (R : Value → World → Prop) : evF Try.prog Try.f15 An15 [.pointer a0] w R = V15 a0 w R := by kernel_rfl
theorem V15_calls (a0 : Option Addr) (w : World) (R : Value → World → Prop) (h : V15 a0 w R) : Calls Try.prog 15 #[.pointer a0] w fun e w' => ∃ v, e = .returned v ∧ R v w' :=
  calls_of_ev (args := [.pointer a0]) Try.func15 (Nat.le_of_ble_eq_true (by kernel_rfl)) (by rw [V15_eq]; exact h)
theorem ok15 : fnOk Try.prog 15 = true := by kernel_rfl

/-! (*depot/engine.Engine).Model -/
def V19 (a0 : Option Addr) (w : World) (R : Value → World → Prop) : Prop :=
  nn a0 fun p2 =>
  ldB (World.drew w) (p2.add 9) fun x3 =>
  gd (α := Addr) (!(!x3)) (fun k4 =>
    nn a0 fun p5 =>
    k4 p5 (World.drew w)) ⟨0, 0, none⟩ (World.drew w) fun x6 _ =>
  gd (α := (Option Addr × Nat × Nat)) (!(!x3)) (fun k7 =>
    ldC (World.drew w) (x6.add 3) fun x8 x8n x8c =>
    k7 (x8, x8n, x8c) (World.drew w)) (none, 0, 0) (World.drew w) fun x9 _ =>
  gd (α := Addr) (!(!x3)) (fun k10 =>
    nn a0 fun p11 =>
    k10 p11 (World.drew w)) ⟨0, 0, none⟩ (World.drew w) fun x12 _ =>
  gd (α := Int) (!(!x3)) (fun k13 =>
    ldI .i64 (World.drew w) (x12.add 0) fun x14 =>
    k13 x14 (World.drew w)) 0 (World.drew w) fun x15 _ =>
  pif (cond (!x3) true (decide ((x9.2.1 : Int) < x15))) (
    R (.tuple #[.slice none 0 0, .bool false]) (World.drew w)) (
    nn a0 fun p18 =>
    ldI .i64 (World.drew w) (p18.add 0) fun x19 =>
    ∃ (x20 : Option Addr) (x20n x20c : Nat), ∃ w1 : World, (Instr.makeSlice 42 (.int .i64 x19) (.int .i64 x19)).run Try.prog (World.drew w) = .ok (.slice x20 x20n x20c) w1 ∧
    lp (σ := Int × Unit) (fun s24 w2 k23 => match s24 with
      | (v22, _) =>
      pif (decide (v22 < (x20n : Int))) (
        nn a0 fun p28 =>
        ldP w2 (p28.add 2) fun x29 =>
        cl Try.prog 31 [.pointer x29, .int .i64 (IntKind.wrap .i64 (v22 + 1))] w2 fun e31 w3 => ∃ x30 : Int, e31 = Ending.returned (.int .i8 x30) ∧
        ixA x20 x20n v22 1 fun p32 =>
        st w3 (p32.add 0) (.bool (decide (x30 > 0))) fun w4 =>
        k23 ((IntKind.wrap .i64 (v22 + 1)), ()) w4) (
        R (.tuple #[.slice x20 x20n x20c, .bool true]) w2)) (0, ()) w1)
def An19 : An := .seq (.leaf) (.seq (.seq (.draw [0, 1, 3, 7, 15, 31, 63, 127, 255, 511, 1023, 63, 2111, 6207, 14399, 32767, 65535]) (.cond (.seq (.leaf) (.leaf)) (.leaf))) (.seq (.leaf) (.seq (.seq (.leaf) (.blk (.loop [(30, .one (.int .i64))] (.seq (.leaf) (.seq (.cond (.leaf) (.leaf)) (.seq (.blk (.seq (.leaf) (.leaf))) (.leaf))))))) (.seq (.leaf) (.leaf)))))
theorem V19_eq (a0 : Option Addr) (w : World) (R : Value → World → Prop) : evF Try.prog Try.f19 An19 [.pointer a0] w R = V19 a0 w R := by kernel_rfl
theorem V19_calls (a0 : Option Addr) (w : World) (R : Value → World → Prop) (h : V19 a0 w R) : Calls Try.prog 19 #[.pointer a0] w fun e w' => ∃ v, e = .returned v ∧ R v w' :=
  calls_of_ev (args := [.pointer a0]) Try.func19 (Nat.le_of_ble_eq_true (by kernel_rfl)) (by rw [V19_eq]; exact h)
theorem ok19 : fnOk Try.prog 19 = true := by kernel_rfl

/-! (*depot/engine.Engine).watch -/
def V28 (a0 : Option Addr) (a1 : Option Addr) (a2 : Int) (a3 : Int) (w : World) (R : Value → World → Prop) : Prop :=
  nn a1 fun p2 =>
  st w ((p2.add 2).add 0) (.int .i64 a2) fun w1 =>
  st w1 ((p2.add 2).add 1) (.int .i64 a3) fun w2 =>
  nn a1 fun p4 =>
  ldI .i64 w2 ((p4.add 2).add 0) fun x5 =>
  ldI .i64 w2 ((p4.add 2).add 1) fun x6 =>
  lp (σ := Int × Unit) (fun s9 w3 k8 => match s9 with
    | (v7, _) =>
    pif (decide (v7 < 2)) (
      (0 : Int) ≤ v7 ∧ v7 < ((2 : Nat) : Int) ∧ ∃ x12 : Int, ([.int .i64 x5, .int .i64 x6] : List Value)[(Int.toNat v7)]? = some (.int .i64 x12) ∧
      nn a0 fun p13 =>
      ldC (World.drew w3) (p13.add 4) fun x14 x14n x14c =>
      nn a0 fun p15 =>
      ldC (World.drew w3) (p15.add 4) fun x16 x16n x16c =>
      (
        cl Try.prog 58 [.int .i64 x12] (World.drew w3) fun e18 w4 => ∃ x17 : Int, e18 = Ending.returned (.int .i64 x17) ∧
        (
          ldC w4 (p15.add 4) fun x19 x19n x19c =>
          ((.slice x19 x19n x19c : Value) = .slice x16 x16n x16c)) ∧
        (
          ldC w4 (p13.add 4) fun x20 x20n x20c =>
          ((.slice x20 x20n x20c : Value) = .slice x14 x14n x14c)) ∧
        (
          cl Try.prog 58 [.int .i64 x12] w4 fun e22 w5 => ∃ x21 : Int, e22 = Ending.returned (.int .i64 x21) ∧
          (
            ldC w5 (p15.add 4) fun x23 x23n x23c =>
            ((.slice x23 x23n x23c : Value) = .slice x16 x16n x16c)) ∧
          (
            ldC w5 (p13.add 4) fun x24 x24n x24c =>
            ((.slice x24 x24n x24c : Value) = .slice x14 x14n x14c)) ∧
          ixA x16 x16n x21 1 fun p25 =>
          ldC w5 p25 fun x26 x26n x26c =>
          alc w5 [.pointer a1] 68 fun b27 w6 =>
          (
            ldC w6 p25 fun x28 x28n x28c =>
            ((.slice x28 x28n x28c : Value) = .slice x26 x26n x26c)) ∧
          (
            ldC w6 (p15.add 4) fun x29 x29n x29c =>
            ((.slice x29 x29n x29c : Value) = .slice x16 x16n x16c)) ∧
          (
            ldC w6 (p13.add 4) fun x30 x30n x30c =>
            ((.slice x30 x30n x30c : Value) = .slice x14 x14n x14c)) ∧
          ∃ (x31 : Option Addr) (x31n x31c : Nat), ∃ w7 : World, (Builtin.append_ #[59, 59] 59 #[.slice x26 x26n x26c, .slice (some (⟨b27, 0, none⟩ : Addr)) 1 1]).run Try.prog w6 = .ok (.slice x31 x31n x31c) w7 ∧
          (
            ldC w7 (p13.add 4) fun x32 x32n x32c =>
            ((.slice x32 x32n x32c : Value) = .slice x14 x14n x14c)) ∧
          ixA x14 x14n x17 1 fun p33 =>
          st w7 (p33.add 0) (.slice x31 x31n x31c) fun w8 =>
          k8 ((IntKind.wrap .i64 (v7 + 1)), ()) w8) ∧
        (
          alc w4 [.pointer a1] 68 fun b35 w9 =>
          (
            ldC w9 (p15.add 4) fun x36 x36n x36c =>
            ((.slice x36 x36n x36c : Value) = .slice x16 x16n x16c)) ∧
          (
            ldC w9 (p13.add 4) fun x37 x37n x37c =>
            ((.slice x37 x37n x37c : Value) = .slice x14 x14n x14c)) ∧
          cl Try.prog 58 [.int .i64 x12] w9 fun e39 w10 => ∃ x38 : Int, e39 = Ending.returned (.int .i64 x38) ∧
          (
            ldC w10 (p15.add 4) fun x40 x40n x40c =>
            ((.slice x40 x40n x40c : Value) = .slice x16 x16n x16c)) ∧
          (
            ldC w10 (p13.add 4) fun x41 x41n x41c =>
            ((.slice x41 x41n x41c : Value) = .slice x14 x14n x14c)) ∧
          ixA x16 x16n x38 1 fun p42 =>
          ldC w10 p42 fun x43 x43n x43c =>
          ∃ (x44 : Option Addr) (x44n x44c : Nat), ∃ w11 : World, (Builtin.append_ #[59, 59] 59 #[.slice x43 x43n x43c, .slice (some (⟨b35, 0, none⟩ : Addr)) 1 1]).run Try.prog w10 = .ok (.slice x44 x44n x44c) w11 ∧
          (
            ldC w11 (p13.add 4) fun x45 x45n x45c =>
            ((.slice x45 x45n x45c : Value) = .slice x14 x14n x14c)) ∧
          ixA x14 x14n x17 1 fun p46 =>
          st w11 (p46.add 0) (.slice x44 x44n x44c) fun w12 =>
          k8 ((IntKind.wrap .i64 (v7 + 1)), ()) w12)) ∧
      (
        alc (World.drew w3) [.pointer a1] 68 fun b48 w13 =>
        (
          ldC w13 (p15.add 4) fun x49 x49n x49c =>
          ((.slice x49 x49n x49c : Value) = .slice x16 x16n x16c)) ∧
        (
          ldC w13 (p13.add 4) fun x50 x50n x50c =>
          ((.slice x50 x50n x50c : Value) = .slice x14 x14n x14c)) ∧
        cl Try.prog 58 [.int .i64 x12] w13 fun e52 w14 => ∃ x51 : Int, e52 = Ending.returned (.int .i64 x51) ∧
        (
          ldC w14 (p15.add 4) fun x53 x53n x53c =>
          ((.slice x53 x53n x53c : Value) = .slice x16 x16n x16c)) ∧
        (
          ldC w14 (p13.add 4) fun x54 x54n x54c =>
          ((.slice x54 x54n x54c : Value) = .slice x14 x14n x14c)) ∧
        cl Try.prog 58 [.int .i64 x12] w14 fun e56 w15 => ∃ x55 : Int, e56 = Ending.returned (.int .i64 x55) ∧
        (
          ldC w15 (p15.add 4) fun x57 x57n x57c =>
          ((.slice x57 x57n x57c : Value) = .slice x16 x16n x16c)) ∧
        (
          ldC w15 (p13.add 4) fun x58 x58n x58c =>
          ((.slice x58 x58n x58c : Value) = .slice x14 x14n x14c)) ∧
        ixA x16 x16n x55 1 fun p59 =>
        ldC w15 p59 fun x60 x60n x60c =>
        ∃ (x61 : Option Addr) (x61n x61c : Nat), ∃ w16 : World, (Builtin.append_ #[59, 59] 59 #[.slice x60 x60n x60c, .slice (some (⟨b48, 0, none⟩ : Addr)) 1 1]).run Try.prog w15 = .ok (.slice x61 x61n x61c) w16 ∧
        (
          ldC w16 (p13.add 4) fun x62 x62n x62c =>
          ((.slice x62 x62n x62c : Value) = .slice x14 x14n x14c)) ∧
        ixA x14 x14n x51 1 fun p63 =>
        st w16 (p63.add 0) (.slice x61 x61n x61c) fun w17 =>
        k8 ((IntKind.wrap .i64 (v7 + 1)), ()) w17)) (
      R (.tuple #[]) w3)) (0, ()) w2
def An28 : An := .seq (.leaf) (.seq (.leaf) (.blk (.loop [(20, .one (.int .i64))] (.seq (.leaf) (.seq (.cond (.leaf) (.leaf)) (.seq (.blk (.seq (.leaf) (.draw [0, 1, 3, 7, 0, 16, 0, 64, 192, 448, 0, 1072, 4080, 8176, 0, 16384, 65520, 131071, 262143]))) (.leaf)))))))
theorem V28_eq (a0 : Option Addr) (a1 : Option Addr) (a2 : Int) (a3 : Int) (w : World) (R : Value → World → Prop) : evF Try.prog Try.f28 An28 [.pointer a0, .pointer a1, .int .i64 a2, .int .i64 a3] w R = V28 a0 a1 a2 a3 w R := by kernel_rfl
theorem V28_calls (a0 : Option Addr) (a1 : Option Addr) (a2 : Int) (a3 : Int) (w : World) (R : Value → World → Prop) (h : V28 a0 a1 a2 a3 w R) : Calls Try.prog 28 #[.pointer a0, .pointer a1, .int .i64 a2, .int .i64 a3] w fun e w' => ∃ v, e = .returned v ∧ R v w' :=
  calls_of_ev (args := [.pointer a0, .pointer a1, .int .i64 a2, .int .i64 a3]) Try.func28 (Nat.le_of_ble_eq_true (by kernel_rfl)) (by rw [V28_eq]; exact h)
theorem ok28 : fnOk Try.prog 28 = true := by kernel_rfl

/-! (*depot/engine.Engine).Level -/
def V33 (a0 : Option Addr) (w : World) (R : Value → World → Prop) : Prop :=
  nn a0 fun p3 =>
  ldP w (p3.add 2) fun x4 =>
  cl Try.prog 62 [.pointer x4] w fun e6 w1 => ∃ x5 : Int, e6 = Ending.returned (.int .i64 x5) ∧
  R (.int .i64 x5) w1
def An33 : An := .seq (.leaf) (.seq (.leaf) (.leaf))
theorem V33_eq (a0 : Option Addr) (w : World) (R : Value → World → Prop) : evF Try.prog Try.f33 An33 [.pointer a0] w R = V33 a0 w R := by kernel_rfl
theorem V33_calls (a0 : Option Addr) (w : World) (R : Value → World → Prop) (h : V33 a0 w R) : Calls Try.prog 33 #[.pointer a0] w fun e w' => ∃ v, e = .returned v ∧ R v w' :=
  calls_of_ev (args := [.pointer a0]) Try.func33 (Nat.le_of_ble_eq_true (by kernel_rfl)) (by rw [V33_eq]; exact h)
theorem ok33 : fnOk Try.prog 33 = true := by kernel_rfl

/-! (*depot/engine.Engine).single -/
def V34 (a0 : Option Addr) (a1 : Option Addr) (w : World) (R : Value → World → Prop) : Prop :=
  nn a1 fun p3 =>
  ldC w (p3.add 1) fun x4 x4n x4c =>
  lp (σ := Int × Unit) (fun s7 w1 k6 => match s7 with
    | (v5, _) =>
    pif (decide (v5 < (x4n : Int))) (
      ixA x4 x4n v5 1 fun p10 =>
      ldI .i64 w1 p10 fun x11 =>
      nn a0 fun p13 =>
      ldP w1 (p13.add 2) fun x14 =>
      cl Try.prog 31 [.pointer x14, .int .i64 x11] w1 fun e16 w2 => ∃ x15 : Int, e16 = Ending.returned (.int .i8 x15) ∧
      pif (x15 == 1) (
        R (.bool true) w2) (
        pif (x15 == 0) (
          cl Try.prog 48 [.pointer a0, .int .i64 x11, .pointer a1] w2 fun e21 w3 => e21 = Ending.returned (.tuple #[]) ∧
          R (.bool true) w3) (
          k6 ((IntKind.wrap .i64 (v5 + 1)), ()) w2))) (
      nn a1 fun p25 =>
      ldI .i64 w1 (p25.add 0) fun x26 =>
      nn a0 fun p27 =>
      st w1 ((p27.add 12).add 0) (.int .i64 x26) fun w4 =>
      R (.bool false) w4)) (0, ()) w
def An34 : An := .seq (.leaf) (.seq (.seq (.leaf) (.blk (.loop [(12, .one (.int .i64))] (.seq (.leaf) (.seq (.cond (.leaf) (.leaf)) (.seq (.blk (.seq (.leaf) (.seq (.leaf) (.blk (.seq (.leaf) (.cond (.seq (.leaf) (.leaf)) (.seq (.leaf) (.cond (.seq (.leaf) (.seq (.leaf) (.leaf))) (.leaf))))))))) (.leaf))))))) (.seq (.leaf) (.seq (.leaf) (.leaf))))
theorem V34_eq (a0 : Option Addr) (a1 : Option Addr) (w : World) (R : Value → World → Prop) : evF Try.prog Try.f34 An34 [.pointer a0, .pointer a1] w R = V34 a0 a1 w R := by kernel_rfl
theorem V34_calls (a0 : Option Addr) (a1 : Option Addr) (w : World) (R : Value → World → Prop) (h : V34 a0 a1 w R) : Calls Try.prog 34 #[.pointer a0, .pointer a1] w fun e w' => ∃ v, e = .returned v ∧ R v w' :=
  calls_of_ev (args := [.pointer a0, .pointer a1]) Try.func34 (Nat.le_of_ble_eq_true (by kernel_rfl)) (by rw [V34_eq]; exact h)
theorem ok34 : fnOk Try.prog 34 = true := by kernel_rfl

/-! (*depot/engine.Engine).visit -/
def V35 (a0 : Option Addr) (a1 : Int) (w : World) (R : Value → World → Prop) : Prop :=
  cl Try.prog 58 [.int .i64 a1] w fun e4 w1 => ∃ x3 : Int, e4 = Ending.returned (.int .i64 x3) ∧
  nn a0 fun p6 =>
  ldC w1 (p6.add 4) fun x7 x7n x7c =>
  ixA x7 x7n x3 1 fun p8 =>
  ldC w1 p8 fun x9 x9n x9c =>
  nn a0 fun p11 =>
  ldC w1 (p11.add 4) fun x12 x12n x12c =>
  ixA x12 x12n x3 1 fun p13 =>
  st w1 (p13.add 0) (.slice none 0 0) fun w2 =>
  lp (σ := Bool × (Option Addr × Nat × Nat) × Int × Unit) (fun s21 w3 k20 => match s21 with
    | (v17, (v18, v18n, v18c), v19, _) =>
    pif (decide (v19 < (x9n : Int))) (
      jn (σ := Bool × (Option Addr × Nat × Nat) × Unit) (fun k25 =>
        ixA x9 x9n v19 1 fun p28 =>
        ldP w3 p28 fun x29 =>
        nn x29 fun p31 =>
        ldB w3 (p31.add 4) fun x32 =>
        gd (α := Bool) ((!x32) && v17) (fun k33 =>
          cl Try.prog 63 [.pointer a0, .pointer x29, .int .i64 a1] w3 fun e35 w5 => ∃ x34 : Bool, e35 = Ending.returned (.bool x34) ∧
          k33 x34 w5) false w3 fun x36 w6 =>
        pif (cond x32 true (cond v17 x36 false)) (
          k25 (v17, (v18, v18n, v18c), ()) w6) (
          alc w6 [.pointer x29] 68 fun b38 w7 =>
          ∃ (x39 : Option Addr) (x39n x39c : Nat), ∃ w8 : World, (Builtin.append_ #[59, 59] 59 #[.slice v18 v18n v18c, .slice (some (⟨b38, 0, none⟩ : Addr)) 1 1]).run Try.prog w7 = .ok (.slice x39 x39n x39c) w8 ∧
          cl Try.prog 64 [.pointer x29, .int .i64 a1] w8 fun e42 w9 => ∃ x41 : Int, e42 = Ending.returned (.int .i64 x41) ∧
          pif (!v17) (
            k25 (v17, (x39, x39n, x39c), ()) w9) (
            nn a0 fun p45 =>
            ldP w9 (p45.add 2) fun x46 =>
            cl Try.prog 31 [.pointer x46, .int .i64 x41] w9 fun e48 w10 => ∃ x47 : Int, e48 = Ending.returned (.int .i8 x47) ∧
            pif (decide (x47 < 0)) (
              nn x29 fun p51 =>
              ldI .i64 w10 (p51.add 0) fun x52 =>
              nn a0 fun p53 =>
              st w10 ((p53.add 12).add 0) (.int .i64 x52) fun w11 =>
              k25 (false, (x39, x39n, x39c), ()) w11) (
              nn a0 fun p55 =>
              ldP w10 (p55.add 2) fun x56 =>
              cl Try.prog 31 [.pointer x56, .int .i64 x41] w10 fun e58 w12 => ∃ x57 : Int, e58 = Ending.returned (.int .i8 x57) ∧
              pif (x57 == 0) (
                cl Try.prog 48 [.pointer a0, .int .i64 x41, .pointer x29] w12 fun e60 w13 => e60 = Ending.returned (.tuple #[]) ∧
                k25 (v17, (x39, x39n, x39c), ()) w13) (
                k25 (v17, (x39, x39n, x39c), ()) w12))))) fun s26 w4 => match s26 with
      | (v23, (v24, v24n, v24c), _) =>
      k20 (v23, (v24, v24n, v24c), (IntKind.wrap .i64 (v19 + 1)), ()) w4) (
      nn a0 fun p62 =>
      ldC (World.drew w3) (p62.add 4) fun x63 x63n x63c =>
      nn a0 fun p64 =>
      ldC (World.drew w3) (p64.add 4) fun x65 x65n x65c =>
      ixA x65 x65n x3 1 fun p66 =>
      ldC (World.drew w3) p66 fun x67 x67n x67c =>
      ∃ (x68 : Option Addr) (x68n x68c : Nat), ∃ w14 : World, (Builtin.append_ #[59, 59] 59 #[.slice v18 v18n v18c, .slice x67 x67n x67c]).run Try.prog (World.drew w3) = .ok (.slice x68 x68n x68c) w14 ∧
      (
        ldC w14 (p62.add 4) fun x69 x69n x69c =>
        ((.slice x69 x69n x69c : Value) = .slice x63 x63n x63c)) ∧
      ixA x63 x63n x3 1 fun p70 =>
      st w14 (p70.add 0) (.slice x68 x68n x68c) fun w15 =>
      R (.bool v17) w15)) (true, (none, 0, 0), 0, ()) w2
def An35 : An := .seq (.leaf) (.seq (.leaf) (.seq (.leaf) (.seq (.leaf) (.seq (.leaf) (.seq (.leaf) (.seq (.seq (.leaf) (.blk (.loop [(7, .one (.bool)), (8, .one (.slc)), (29, .one (.int .i64))] (.seq (.leaf) (.seq (.cond (.leaf) (.leaf)) (.seq (.join [(7, .one (.bool)), (8, .one (.slc))] (.blk (.seq (.leaf) (.seq (.seq (.leaf) (.cond (.leaf) (.leaf))) (.seq (.leaf) (.seq (.leaf) (.blk (.seq (.leaf) (.cond (.leaf) (.seq (.leaf) (.cond (.seq (.leaf) (.leaf)) (.seq (.leaf) (.cond (.leaf) (.leaf)))))))))))))) (.leaf))))))) (.seq (.draw [0, 1, 3, 7, 0, 0, 0, 64, 192, 448, 0, 1984, 4032, 8160, 16383, 32767]) (.seq (.leaf) (.leaf)))))))))
theorem V35_eq (a0 : Option Addr) (a1 : Int) (w : World) (R : Value → World → Prop) : evF Try.prog Try.f35 An35 [.pointer a0, .int .i64 a1] w R = V35 a0 a1 w R := by kernel_rfl
theorem V35_calls (a0 : Option Addr) (a1 : Int) (w : World) (R : Value → World → Prop) (h : V35 a0 a1 w R) : Calls Try.prog 35 #[.pointer a0, .int .i64 a1] w fun e w' => ∃ v, e = .returned v ∧ R v w' :=
  calls_of_ev (args := [.pointer a0, .int .i64 a1]) Try.func35 (Nat.le_of_ble_eq_true (by kernel_rfl)) (by rw [V35_eq]; exact h)
theorem ok35 : fnOk Try.prog 35 = true := by kernel_rfl

/-! (*depot/engine.Engine).reason -/
def V36 (a0 : Option Addr) (a1 : Option Addr) (w : World) (R : Value → World → Prop) : Prop :=
  alc w [.pointer a1] 68 fun b2 w1 =>
  cl Try.prog 41 [.pointer a0] w1 fun e5 w2 => ∃ (x4 : Option Addr) (x4n x4c : Nat), e5 = Ending.returned (.slice x4 x4n x4c) ∧
  cl Try.prog 65 [.slice x4 x4n x4c, .func (.func 66) #[] #[.pointer (some (⟨b2, 0, none⟩ : Addr))]] w2 fun e7 w3 => ∃ x6 : Bool, e7 = Ending.returned (.bool x6) ∧
  R (.bool x6) w3
def An36 : An := .seq (.leaf) (.seq (.leaf) (.leaf))
theorem V36_eq (a0 : Option Addr) (a1 : Option Addr) (w : World) (R : Value → World → Prop) : evF Try.prog Try.f36 An36 [.pointer a0, .pointer a1] w R = V36 a0 a1 w R := by kernel_rfl
theorem V36_calls (a0 : Option Addr) (a1 : Option Addr) (w : World) (R : Value → World → Prop) (h : V36 a0 a1 w R) : Calls Try.prog 36 #[.pointer a0, .pointer a1] w fun e w' => ∃ v, e = .returned v ∧ R v w' :=
  calls_of_ev (args := [.pointer a0, .pointer a1]) Try.func36 (Nat.le_of_ble_eq_true (by kernel_rfl)) (by rw [V36_eq]; exact h)
theorem ok36 : fnOk Try.prog 36 = true := by kernel_rfl

/-! (*depot/engine.Engine).decided -/
def V37 (a0 : Option Addr) (a1 : Option Addr) (w : World) (R : Value → World → Prop) : Prop :=
  nn a1 fun p4 =>
  ldC w (p4.add 1) fun x5 x5n x5c =>
  lp (σ := Int × Int × Unit) (fun s9 w1 k8 => match s9 with
    | (v6, v7, _) =>
    pif (decide (v7 < (x5n : Int))) (
      jn (σ := Int × Unit) (fun k12 =>
        ixA x5 x5n v7 1 fun p15 =>
        ldI .i64 w1 p15 fun x16 =>
        nn a0 fun p17 =>
        ldP (World.drew w1) (p17.add 2) fun x18 =>
        cl Try.prog 30 [.int .i64 x16] (World.drew w1) fun e20 w3 => ∃ x19 : Int, e20 = Ending.returned (.int .i64 x19) ∧
        (
          ldP w3 (p17.add 2) fun x21 =>
          ((.pointer x21 : Value) = .pointer x18)) ∧
        cl Try.prog 67 [.pointer x18, .int .i64 x19] w3 fun e23 w4 => ∃ x22 : Int, e23 = Ending.returned (.int .i64 x22) ∧
        pif (x22 != 0) (
          R (.bool false) w4) (
          nn a0 fun p26 =>
          ldP w4 (p26.add 2) fun x27 =>
          cl Try.prog 31 [.pointer x27, .int .i64 x16] w4 fun e29 w5 => ∃ x28 : Int, e29 = Ending.returned (.int .i8 x28) ∧
          pif (decide (x28 > 0)) (
            k12 ((IntKind.wrap .i64 (v6 + 1)), ()) w5) (
            k12 (v6, ()) w5))) fun s13 w2 => match s13 with
      | (v11, _) =>
      k8 (v11, (IntKind.wrap .i64 (v7 + 1)), ()) w2) (
      R (.bool (v6 == 1)) w1)) (0, 0, ()) w
def An37 : An := .seq (.leaf) (.seq (.leaf) (.seq (.seq (.leaf) (.blk (.loop [(5, .one (.int .i64)), (13, .one (.int .i64))] (.seq (.leaf) (.seq (.cond (.leaf) (.leaf)) (.seq (.join [(5, .one (.int .i64))] (.blk (.seq (.leaf) (.seq (.seq (.draw [0, 1, 3, 7, 0, 16, 63, 127]) (.cond (.seq (.leaf) (.leaf)) (.leaf))) (.seq (.leaf) (.cond (.leaf) (.leaf))))))) (.leaf))))))) (.seq (.leaf) (.leaf))))
theorem V37_eq (a0 : Option Addr) (a1 : Option Addr) (w : World) (R : Value → World → Prop) : evF Try.prog Try.f37 An37 [.pointer a0, .pointer a1] w R = V37 a0 a1 w R := by kernel_rfl
theorem V37_calls (a0 : Option Addr) (a1 : Option Addr) (w : World) (R : Value → World → Prop) (h : V37 a0 a1 w R) : Calls Try.prog 37 #[.pointer a0, .pointer a1] w fun e w' => ∃ v, e = .returned v ∧ R v w' :=
  calls_of_ev (args := [.pointer a0, .pointer a1]) Try.func37 (Nat.le_of_ble_eq_true (by kernel_rfl)) (by rw [V37_eq]; exact h)
theorem ok37 : fnOk Try.prog 37 = true := by kernel_rfl

/-! (*depot/engine.Engine).Entries -/
def V41 (a0 : Option Addr) (w : World) (R : Value → World → Prop) : Prop :=
  nn a0 fun p4 =>
  ldC w (p4.add 3) fun x5 x5n x5c =>
  lp (σ := (Option Addr × Nat × Nat) × Int × Unit) (fun s9 w1 k8 => match s9 with
    | ((v6, v6n, v6c), v7, _) =>
    pif (decide (v7 < (x5n : Int))) (
      ixA x5 x5n v7 1 fun p12 =>
      ldI .i64 w1 p12 fun x13 =>
      nn a0 fun p15 =>
      ldP w1 (p15.add 1) fun x16 =>
      cl Try.prog 68 [.pointer a0, .int .i64 x13, .func (.func 42) #[.pointer x16] #[]] w1 fun e20 w2 => ∃ x17 : Int, ∃ x18 : Int, ∃ (x19 : Option Addr) (x19n x19c : Nat), e20 = Ending.returned (.agg #[.int .i64 x17, .int .i64 x18, .slice x19 x19n x19c]) ∧
      alc w2 [.int .i64 x17, .int .i64 x18, .slice x19 x19n x19c] 120 fun b21 w3 =>
      ∃ (x22 : Option Addr) (x22n x22c : Nat), ∃ w4 : World, (Builtin.append_ #[83, 83] 83 #[.slice v6 v6n v6c, .slice (some (⟨b21, 0, none⟩ : Addr)) 1 1]).run Try.prog w3 = .ok (.slice x22 x22n x22c) w4 ∧
      k8 ((x22, x22n, x22c), (IntKind.wrap .i64 (v7 + 1)), ()) w4) (
      R (.slice v6 v6n v6c) w1)) ((none, 0, 0), 0, ()) w
def An41 : An := .seq (.leaf) (.seq (.leaf) (.seq (.seq (.leaf) (.blk (.loop [(3, .one (.slc)), (11, .one (.int .i64))] (.seq (.leaf) (.seq (.cond (.leaf) (.leaf)) (.seq (.blk (.seq (.leaf) (.leaf))) (.leaf))))))) (.seq (.leaf) (.leaf))))
theorem V41_eq (a0 : Option Addr) (w : World) (R : Value → World → Prop) : evF Try.prog Try.f41 An41 [.pointer a0] w R = V41 a0 w R := by kernel_rfl
theorem V41_calls (a0 : Option Addr) (w : World) (R : Value → World → Prop) (h : V41 a0 w R) : Calls Try.prog 41 #[.pointer a0] w fun e w' => ∃ v, e = .returned v ∧ R v w' :=
  calls_of_ev (args := [.pointer a0]) Try.func41 (Nat.le_of_ble_eq_true (by kernel_rfl)) (by rw [V41_eq]; exact h)
theorem ok41 : fnOk Try.prog 41 = true := by kernel_rfl

/-! (*depot/engine.Engine).lower -/
def V46 (a0 : Option Addr) (a1 : Int) (a2 : Int) (w : World) (R : Value → World → Prop) : Prop :=
  nn a0 fun p2 =>
  ldP (World.drew w) (p2.add 2) fun x3 =>
  nn a0 fun p4 =>
  ldP (World.drew w) (p4.add 2) fun x5 =>
  cl Try.prog 30 [.int .i64 a1] (World.drew w) fun e7 w1 => ∃ x6 : Int, e7 = Ending.returned (.int .i64 x6) ∧
  (
    ldP w1 (p4.add 2) fun x8 =>
    ((.pointer x8 : Value) = .pointer x5)) ∧
  (
    ldP w1 (p2.add 2) fun x9 =>
    ((.pointer x9 : Value) = .pointer x3)) ∧
  cl Try.prog 67 [.pointer x3, .int .i64 x6] w1 fun e11 w2 => ∃ x10 : Int, e11 = Ending.returned (.int .i64 x10) ∧
  (
    ldP w2 (p4.add 2) fun x12 =>
    ((.pointer x12 : Value) = .pointer x5)) ∧
  cl Try.prog 30 [.int .i64 a2] w2 fun e14 w3 => ∃ x13 : Int, e14 = Ending.returned (.int .i64 x13) ∧
  (
    ldP w3 (p4.add 2) fun x15 =>
    ((.pointer x15 : Value) = .pointer x5)) ∧
  cl Try.prog 67 [.pointer x5, .int .i64 x13] w3 fun e17 w4 => ∃ x16 : Int, e17 = Ending.returned (.int .i64 x16) ∧
  R (.int .i64 (IntKind.wrap .i64 (x10 - x16))) w4
def An46 : An := .seq (.leaf) (.seq (.draw [0, 1, 3, 7, 0, 16, 63, 0, 128, 384, 896, 0, 2175, 8191, 16383, 32767]) (.leaf))
theorem V46_eq (a0 : Option Addr) (a1 : Int) (a2 : Int) (w : World) (R : Value → World → Prop) : evF Try.prog Try.f46 An46 [.pointer a0, .int .i64 a1, .int .i64 a2] w R = V46 a0 a1 a2 w R := by kernel_rfl
theorem V46_calls (a0 : Option Addr) (a1 : Int) (a2 : Int) (w : World) (R : Value → World → Prop) (h : V46 a0 a1 a2 w R) : Calls Try.prog 46 #[.pointer a0, .int .i64 a1, .int .i64 a2] w fun e w' => ∃ v, e = .returned v ∧ R v w' :=
  calls_of_ev (args := [.pointer a0, .int .i64 a1, .int .i64 a2]) Try.func46 (Nat.le_of_ble_eq_true (by kernel_rfl)) (by rw [V46_eq]; exact h)
theorem ok46 : fnOk Try.prog 46 = true := by kernel_rfl

/-! (*depot/engine.Engine).cut -/
def V47 (a0 : Option Addr) (a1 : Int) (w : World) (R : Value → World → Prop) : Prop :=
  nn a0 fun p2 =>
  ldP w (p2.add 2) fun x3 =>
  cl Try.prog 75 [.pointer x3, .int .i64 a1] w fun e6 w1 => ∃ (x4 : Option Addr) (x4n x4c : Nat), ∃ x5 : Int, e6 = Ending.returned (.tuple #[.slice x4 x4n x4c, .int .i64 x5]) ∧
  nn a0 fun p7 =>
  ldC (World.drew w1) (p7.add 3) fun x8 x8n x8c =>
  nn a0 fun p9 =>
  ldC (World.drew w1) (p9.add 3) fun x10 x10n x10c =>
  (0 : Int) ≤ (IntKind.wrap .i64 ((x10n : Int) - (x4n : Int))) ∧ (IntKind.wrap .i64 ((x10n : Int) - (x4n : Int))) ≤ (x8c : Int) ∧
  nn a0 fun p11 =>
  st (World.drew w1) ((p11.add 3).add 0) (.slice (slA x8 x8c 0 1) ((Int.toNat (IntKind.wrap .i64 ((x10n : Int) - (x4n : Int)))) - 0) (x8c - 0)) fun w2 =>
  nn a0 fun p12 =>
  ldI .i64 (World.drew w2) (p12.add 8) fun x13 =>
  nn a0 fun p14 =>
  ldC (World.drew w2) (p14.add 3) fun x15 x15n x15c =>
  nn a0 fun p16 =>
  st (World.drew w2) ((p16.add 8).add 0) (.int .i64 (if (x15n : Int) < x13 then (x15n : Int) else x13)) fun w3 =>
  R (.tuple #[]) w3
def An47 : An := .seq (.leaf) (.seq (.draw [0, 0, 2, 6, 14, 0, 32, 96, 224, 480, 0, 1024, 4064, 8190, 16383, 32767, 65535]) (.draw [0, 0, 2, 6, 14, 0, 32, 96, 224, 480, 1022, 2047, 4095, 8191]))
theorem V47_eq (a0 : Option Addr) (a1 : Int) (w : World) (R : Value → World → Prop) : evF Try.prog Try.f47 An47 [.pointer a0, .int .i64 a1] w R = V47 a0 a1 w R := by kernel_rfl
theorem V47_calls (a0 : Option Addr) (a1 : Int) (w : World) (R : Value → World → Prop) (h : V47 a0 a1 w R) : Calls Try.prog 47 #[.pointer a0, .int .i64 a1] w fun e w' => ∃ v, e = .returned v ∧ R v w' :=
  calls_of_ev (args := [.pointer a0, .int .i64 a1]) Try.func47 (Nat.le_of_ble_eq_true (by kernel_rfl)) (by rw [V47_eq]; exact h)
theorem ok47 : fnOk Try.prog 47 = true := by kernel_rfl

/-! (*depot/engine.Engine).put -/
def V48 (a0 : Option Addr) (a1 : Int) (a2 : Option Addr) (w : World) (R : Value → World → Prop) : Prop :=
  nn a0 fun p1 =>
  ldP (World.drew w) (p1.add 2) fun x2 =>
  nn a2 fun p3 =>
  ldI .i64 (World.drew w) (p3.add 0) fun x4 =>
  cl Try.prog 76 [.pointer x2, .int .i64 a1, .int .i64 x4] (World.drew w) fun e6 w1 => ∃ x5 : Int, e6 = Ending.returned (.int .i64 x5) ∧
  nn a0 fun p8 =>
  ldC w1 (p8.add 3) fun x9 x9n x9c =>
  alc w1 [.int .i64 a1] 3 fun b10 w2 =>
  ∃ (x11 : Option Addr) (x11n x11c : Nat), ∃ w3 : World, (Builtin.append_ #[26, 26] 26 #[.slice x9 x9n x9c, .slice (some (⟨b10, 0, none⟩ : Addr)) 1 1]).run Try.prog w2 = .ok (.slice x11 x11n x11c) w3 ∧
  nn a0 fun p12 =>
  st w3 ((p12.add 3).add 0) (.slice x11 x11n x11c) fun w4 =>
  R (.tuple #[]) w4
def An48 : An := .seq (.draw [0, 1, 3, 7, 0, 0, 32, 96, 224, 511]) (.leaf)
theorem V48_eq (a0 : Option Addr) (a1 : Int) (a2 : Option Addr) (w : World) (R : Value → World → Prop) : evF Try.prog Try.f48 An48 [.pointer a0, .int .i64 a1, .pointer a2] w R = V48 a0 a1 a2 w R := by kernel_rfl
theorem V48_calls (a0 : Option Addr) (a1 : Int) (a2 : Option Addr) (w : World) (R : Value → World → Prop) (h : V48 a0 a1 a2 w R) : Calls Try.prog 48 #[.pointer a0, .int .i64 a1, .pointer a2] w fun e w' => ∃ v, e = .returned v ∧ R v w' :=
  calls_of_ev (args := [.pointer a0, .int .i64 a1, .pointer a2]) Try.func48 (Nat.le_of_ble_eq_true (by kernel_rfl)) (by rw [V48_eq]; exact h)
theorem ok48 : fnOk Try.prog 48 = true := by kernel_rfl

/-! (*depot/engine.Engine).moved -/
def V63 (a0 : Option Addr) (a1 : Option Addr) (a2 : Int) (w : World) (R : Value → World → Prop) : Prop :=
  cl Try.prog 64 [.pointer a1, .int .i64 a2] w fun e4 w1 => ∃ x3 : Int, e4 = Ending.returned (.int .i64 x3) ∧
  nn a0 fun p6 =>
  ldP w1 (p6.add 2) fun x7 =>
  cl Try.prog 31 [.pointer x7, .int .i64 x3] w1 fun e9 w2 => ∃ x8 : Int, e9 = Ending.returned (.int .i8 x8) ∧
  pif (decide (x8 > 0)) (
    R (.bool false) w2) (
    nn a1 fun p12 =>
    ldC w2 (p12.add 1) fun x13 x13n x13c =>
    lp (σ := Int × Unit) (fun s16 w3 k15 => match s16 with
      | (v14, _) =>
      pif (decide (v14 < (x13n : Int))) (
        ixA x13 x13n v14 1 fun p19 =>
        ldI .i64 w3 p19 fun x20 =>
        gd (α := Addr) (cond (x20 != x3) (x20 != a2) false) (fun k22 =>
          nn a0 fun p23 =>
          k22 p23 w3) ⟨0, 0, none⟩ w3 fun x24 w4 =>
        gd (α := (Option Addr)) (cond (x20 != x3) (x20 != a2) false) (fun k25 =>
          ldP w4 (x24.add 2) fun x26 =>
          k25 x26 w4) none w4 fun x27 w5 =>
        gd (α := Int) (cond (x20 != x3) (x20 != a2) false) (fun k28 =>
          cl Try.prog 31 [.pointer x27, .int .i64 x20] w5 fun e30 w6 => ∃ x29 : Int, e30 = Ending.returned (.int .i8 x29) ∧
          k28 x29 w6) 0 w5 fun x31 w7 =>
        pif (cond (cond (x20 != x3) (x20 != a2) false) (decide (x31 ≥ 0)) false) (
          nn a1 fun p33 =>
          st w7 ((p33.add 2).add 0) (.int .i64 x3) fun w8 =>
          st w8 ((p33.add 2).add 1) (.int .i64 x20) fun w9 =>
          nn a0 fun p34 =>
          ldC (World.drew w9) (p34.add 4) fun x35 x35n x35c =>
          nn a0 fun p36 =>
          ldC (World.drew w9) (p36.add 4) fun x37 x37n x37c =>
          (
            cl Try.prog 58 [.int .i64 x20] (World.drew w9) fun e39 w10 => ∃ x38 : Int, e39 = Ending.returned (.int .i64 x38) ∧
            (
              ldC w10 (p36.add 4) fun x40 x40n x40c =>
              ((.slice x40 x40n x40c : Value) = .slice x37 x37n x37c)) ∧
            (
              ldC w10 (p34.add 4) fun x41 x41n x41c =>
              ((.slice x41 x41n x41c : Value) = .slice x35 x35n x35c)) ∧
            (
              cl Try.prog 58 [.int .i64 x20] w10 fun e43 w11 => ∃ x42 : Int, e43 = Ending.returned (.int .i64 x42) ∧
              (
                ldC w11 (p36.add 4) fun x44 x44n x44c =>
                ((.slice x44 x44n x44c : Value) = .slice x37 x37n x37c)) ∧
              (
                ldC w11 (p34.add 4) fun x45 x45n x45c =>
                ((.slice x45 x45n x45c : Value) = .slice x35 x35n x35c)) ∧
              ixA x37 x37n x42 1 fun p46 =>
              ldC w11 p46 fun x47 x47n x47c =>
              alc w11 [.pointer a1] 68 fun b48 w12 =>
              (
                ldC w12 p46 fun x49 x49n x49c =>
                ((.slice x49 x49n x49c : Value) = .slice x47 x47n x47c)) ∧
              (
                ldC w12 (p36.add 4) fun x50 x50n x50c =>
                ((.slice x50 x50n x50c : Value) = .slice x37 x37n x37c)) ∧
              (
                ldC w12 (p34.add 4) fun x51 x51n x51c =>
                ((.slice x51 x51n x51c : Value) = .slice x35 x35n x35c)) ∧
              ∃ (x52 : Option Addr) (x52n x52c : Nat), ∃ w13 : World, (Builtin.append_ #[59, 59] 59 #[.slice x47 x47n x47c, .slice (some (⟨b48, 0, none⟩ : Addr)) 1 1]).run Try.prog w12 = .ok (.slice x52 x52n x52c) w13 ∧
              (
                ldC w13 (p34.add 4) fun x53 x53n x53c =>
                ((.slice x53 x53n x53c : Value) = .slice x35 x35n x35c)) ∧
              ixA x35 x35n x38 1 fun p54 =>
              st w13 (p54.add 0) (.slice x52 x52n x52c) fun w14 =>
              R (.bool true) w14) ∧
            (
              alc w10 [.pointer a1] 68 fun b56 w15 =>
              (
                ldC w15 (p36.add 4) fun x57 x57n x57c =>
                ((.slice x57 x57n x57c : Value) = .slice x37 x37n x37c)) ∧
              (
                ldC w15 (p34.add 4) fun x58 x58n x58c =>
                ((.slice x58 x58n x58c : Value) = .slice x35 x35n x35c)) ∧
              cl Try.prog 58 [.int .i64 x20] w15 fun e60 w16 => ∃ x59 : Int, e60 = Ending.returned (.int .i64 x59) ∧
              (
                ldC w16 (p36.add 4) fun x61 x61n x61c =>
                ((.slice x61 x61n x61c : Value) = .slice x37 x37n x37c)) ∧
              (
                ldC w16 (p34.add 4) fun x62 x62n x62c =>
                ((.slice x62 x62n x62c : Value) = .slice x35 x35n x35c)) ∧
              ixA x37 x37n x59 1 fun p63 =>
              ldC w16 p63 fun x64 x64n x64c =>
              ∃ (x65 : Option Addr) (x65n x65c : Nat), ∃ w17 : World, (Builtin.append_ #[59, 59] 59 #[.slice x64 x64n x64c, .slice (some (⟨b56, 0, none⟩ : Addr)) 1 1]).run Try.prog w16 = .ok (.slice x65 x65n x65c) w17 ∧
              (
                ldC w17 (p34.add 4) fun x66 x66n x66c =>
                ((.slice x66 x66n x66c : Value) = .slice x35 x35n x35c)) ∧
              ixA x35 x35n x38 1 fun p67 =>
              st w17 (p67.add 0) (.slice x65 x65n x65c) fun w18 =>
              R (.bool true) w18)) ∧
          (
            alc (World.drew w9) [.pointer a1] 68 fun b69 w19 =>
            (
              ldC w19 (p36.add 4) fun x70 x70n x70c =>
              ((.slice x70 x70n x70c : Value) = .slice x37 x37n x37c)) ∧
            (
              ldC w19 (p34.add 4) fun x71 x71n x71c =>
              ((.slice x71 x71n x71c : Value) = .slice x35 x35n x35c)) ∧
            cl Try.prog 58 [.int .i64 x20] w19 fun e73 w20 => ∃ x72 : Int, e73 = Ending.returned (.int .i64 x72) ∧
            (
              ldC w20 (p36.add 4) fun x74 x74n x74c =>
              ((.slice x74 x74n x74c : Value) = .slice x37 x37n x37c)) ∧
            (
              ldC w20 (p34.add 4) fun x75 x75n x75c =>
              ((.slice x75 x75n x75c : Value) = .slice x35 x35n x35c)) ∧
            cl Try.prog 58 [.int .i64 x20] w20 fun e77 w21 => ∃ x76 : Int, e77 = Ending.returned (.int .i64 x76) ∧
            (
              ldC w21 (p36.add 4) fun x78 x78n x78c =>
              ((.slice x78 x78n x78c : Value) = .slice x37 x37n x37c)) ∧
            (
              ldC w21 (p34.add 4) fun x79 x79n x79c =>
              ((.slice x79 x79n x79c : Value) = .slice x35 x35n x35c)) ∧
            ixA x37 x37n x76 1 fun p80 =>
            ldC w21 p80 fun x81 x81n x81c =>
            ∃ (x82 : Option Addr) (x82n x82c : Nat), ∃ w22 : World, (Builtin.append_ #[59, 59] 59 #[.slice x81 x81n x81c, .slice (some (⟨b69, 0, none⟩ : Addr)) 1 1]).run Try.prog w21 = .ok (.slice x82 x82n x82c) w22 ∧
            (
              ldC w22 (p34.add 4) fun x83 x83n x83c =>
              ((.slice x83 x83n x83c : Value) = .slice x35 x35n x35c)) ∧
            ixA x35 x35n x72 1 fun p84 =>
            st w22 (p84.add 0) (.slice x82 x82n x82c) fun w23 =>
            R (.bool true) w23)) (
          k15 ((IntKind.wrap .i64 (v14 + 1)), ()) w7)) (
        R (.bool false) w3)) (0, ()) w2)
def An63 : An := .seq (.leaf) (.seq (.leaf) (.seq (.seq (.leaf) (.cond (.seq (.leaf) (.leaf)) (.leaf))) (.seq (.seq (.leaf) (.blk (.loop [(25, .one (.int .i64))] (.seq (.leaf) (.seq (.cond (.leaf) (.leaf)) (.seq (.blk (.seq (.leaf) (.seq (.leaf) (.cond (.seq (.leaf) (.seq (.draw [0, 1, 3, 7, 0, 16, 0, 64, 192, 448, 0, 1072, 4080, 8176, 0, 16384, 65520, 131071, 262143]) (.seq (.leaf) (.leaf)))) (.leaf))))) (.leaf))))))) (.seq (.leaf) (.leaf)))))
theorem V63_eq (a0 : Option Addr) (a1 : Option Addr) (a2 : Int) (w : World) (R : Value → World → Prop) : evF Try.prog Try.f63 An63 [.pointer a0, .pointer a1, .int .i64 a2] w R = V63 a0 a1 a2 w R := by kernel_rfl
theorem V63_calls (a0 : Option Addr) (a1 : Option Addr) (a2 : Int) (w : World) (R : Value → World → Prop) (h : V63 a0 a1 a2 w R) : Calls Try.prog 63 #[.pointer a0, .pointer a1, .int .i64 a2] w fun e w' => ∃ v, e = .returned v ∧ R v w' :=
  calls_of_ev (args := [.pointer a0, .pointer a1, .int .i64 a2]) Try.func63 (Nat.le_of_ble_eq_true (by kernel_rfl)) (by rw [V63_eq]; exact h)
theorem ok63 : fnOk Try.prog 63 = true := by kernel_rfl

/-! (*depot/engine.held).other -/
def V64 (a0 : Option Addr) (a1 : Int) (w : World) (R : Value → World → Prop) : Prop :=
  nn a0 fun p3 =>
  ixA (some (p3.add 2)) 2 0 1 fun p4 =>
  ldI .i64 w p4 fun x5 =>
  pif (x5 == a1) (
    nn a0 fun p7 =>
    ixA (some (p7.add 2)) 2 1 1 fun p8 =>
    ldI .i64 w p8 fun x9 =>
    R (.int .i64 x9) w) (
    nn a0 fun p11 =>
    ixA (some (p11.add 2)) 2 0 1 fun p12 =>
    ldI .i64 w p12 fun x13 =>
    R (.int .i64 x13) w)
def An64 : An := .seq (.leaf) (.seq (.seq (.leaf) (.cond (.seq (.leaf) (.leaf)) (.leaf))) (.seq (.leaf) (.leaf)))
theorem V64_eq (a0 : Option Addr) (a1 : Int) (w : World) (R : Value → World → Prop) : evF Try.prog Try.f64 An64 [.pointer a0, .int .i64 a1] w R = V64 a0 a1 w R := by kernel_rfl
theorem V64_calls (a0 : Option Addr) (a1 : Int) (w : World) (R : Value → World → Prop) (h : V64 a0 a1 w R) : Calls Try.prog 64 #[.pointer a0, .int .i64 a1] w fun e w' => ∃ v, e = .returned v ∧ R v w' :=
  calls_of_ev (args := [.pointer a0, .int .i64 a1]) Try.func64 (Nat.le_of_ble_eq_true (by kernel_rfl)) (by rw [V64_eq]; exact h)
theorem ok64 : fnOk Try.prog 64 = true := by kernel_rfl

/-! (*depot/engine.book).note -/
def V125 (a0 : Option Addr) (a1_0 : Bool) (a1_1 : Option Addr) (a1_1n : Nat) (a1_1c : Nat) (w : World) (R : Value → World → Prop) : Prop :=
  alc w [.bool a1_0, .slice a1_1 a1_1n a1_1c] 82 fun b2 w1 =>
  nn a0 fun p3 =>
  ldC (World.drew w1) (p3.add 0) fun x4 x4n x4c =>
  ldB (World.drew w1) ((⟨b2, 0, none⟩ : Addr).add 0) fun x5 =>
  ldC (World.drew w1) ((⟨b2, 0, none⟩ : Addr).add 1) fun x6 x6n x6c =>
  cl Try.prog 40 [.slice x6 x6n x6c] (World.drew w1) fun e8 w2 => ∃ (x7 : Option Addr) (x7n x7c : Nat), e8 = Ending.returned (.slice x7 x7n x7c) ∧
  (
    ldB w2 ((⟨b2, 0, none⟩ : Addr).add 0) fun x9 =>
    ((.bool x9 : Value) = .bool x5)) ∧
  (
    ldC w2 (p3.add 0) fun x10 x10n x10c =>
    ((.slice x10 x10n x10c : Value) = .slice x4 x4n x4c)) ∧
  alc w2 [.bool x5, .slice x7 x7n x7c] 82 fun b11 w3 =>
  (
    ldC w3 (p3.add 0) fun x12 x12n x12c =>
    ((.slice x12 x12n x12c : Value) = .slice x4 x4n x4c)) ∧
  ∃ (x13 : Option Addr) (x13n x13c : Nat), ∃ w4 : World, (Builtin.append_ #[56, 56] 56 #[.slice x4 x4n x4c, .slice (some (⟨b11, 0, none⟩ : Addr)) 1 1]).run Try.prog w3 = .ok (.slice x13 x13n x13c) w4 ∧
  nn a0 fun p14 =>
  st w4 ((p14.add 0).add 0) (.slice x13 x13n x13c) fun w5 =>
  R (.tuple #[]) w5
def An125 : An := .seq (.leaf) (.draw [0, 0, 2, 6, 14, 0, 32, 0, 128, 384, 992, 2016, 4094, 8191, 16383, 32767])
theorem V125_eq (a0 : Option Addr) (a1_0 : Bool) (a1_1 : Option Addr) (a1_1n : Nat) (a1_1c : Nat) (w : World) (R : Value → World → Prop) : evF Try.prog Try.f125 An125 [.pointer a0, .agg #[.bool a1_0, .slice a1_1 a1_1n a1_1c]] w R = V125 a0 a1_0 a1_1 a1_1n a1_1c w R := by kernel_rfl
theorem V125_calls (a0 : Option Addr) (a1_0 : Bool) (a1_1 : Option Addr) (a1_1n : Nat) (a1_1c : Nat) (w : World) (R : Value → World → Prop) (h : V125 a0 a1_0 a1_1 a1_1n a1_1c w R) : Calls Try.prog 125 #[.pointer a0, .agg #[.bool a1_0, .slice a1_1 a1_1n a1_1c]] w fun e w' => ∃ v, e = .returned v ∧ R v w' :=
  calls_of_ev (args := [.pointer a0, .agg #[.bool a1_0, .slice a1_1 a1_1n a1_1c]]) Try.func125 (Nat.le_of_ble_eq_true (by kernel_rfl)) (by rw [V125_eq]; exact h)
theorem ok125 : fnOk Try.prog 125 = true := by kernel_rfl

end Go.Proofs.Ytmhjehodfggleaa.T

/- An Engine in plain, and how it stands in memory. -/
set_option linter.unusedVariables false
set_option linter.unusedSimpArgs false
set_option linter.unusedSectionVars false
set_option maxRecDepth 100000
namespace Go.Proofs.Ytmhjehodfggleaa.Eng
open Go Go.Proofs.Ytmhjehodfggleaa.Vc Go.Proofs.Ytmhjehodfggleaa.T
open Go.Proofs.Ytmhjehodfggleaa.Apart (RdL own_rdl wrap_nat getE own_len take_snoc Sl sv New)
open Go.Proofs.Ytmhjehodfggleaa.Lits (fl fl_iff Ans ans_of formedP idx idx_range indexP)
open Go.Proofs.Ytmhjehodfggleaa.Arn (Ar AR)
open Go.Proofs.Ytmhjehodfggleaa.Trail (TI Tr St valA levA reaA ownB Moved TLaid above upto)

abbrev I (n : Int) : Value := .int .i64 n
abbrev J8 (n : Int) : Value := .int .i8 n
abbrev Pt (b : Nat) : Value := .pointer (some ⟨b, 0, none⟩)
abbrev E := Trail.E
/-- a clause that can be unit -/
structure Hd where
  at_ : Int
  ls : List Int
  e0 : Int
  e1 : Int
  gone : Bool
/-- an Engine -/
structure ES where
  nv : Nat
  ar : Ar
  R : List E
  L : List Int
  lists : List (List Nat)
  short : List Nat
  learnts : List Nat
  H : List Hd
  log : List (Bool × List Int)
  head : Nat
  rest : Bool
  clash : Bool
  dead : Bool
  bad : Int
/-- where its parts lie -/
structure Hs where
  st : Nat
  T : TI
  oo : Sl
  ll : Sl
  hh : List Sl
  ss : Sl
  le : Sl
  bk : Nat
  lg : Sl
  gl : List Sl
  hb : Nat → Nat
  hl : Nat → Sl
def idxN (l : Int) : Nat := (idx l).toNat
def step2 (x : (Bool × List Int) × Sl) : List Value := [.bool x.1.1, sv x.2]
/-- o tells whose a block is: -1 the Engine's own, -2 the arena's, -3 the trail's, -4 the order, -5 the lists' list, -6 short, -7 learnts, -8 book, -10 log, -11 the log's literals, -12 held clauses, -13 their literals, i a list; -9 nobody's -/
structure Rp (ex : Nat → Prop) (w : World) (b : Nat) (o : Nat → Int) (h : Hs) (S : ES) : Prop where
  self : Blk w b [I S.nv, Pt h.st, Pt h.T.t, sv h.oo, sv h.ll, sv h.ss, sv h.le, .iface 55 (Pt h.bk), I S.head, .bool S.rest, .bool S.clash, .bool S.dead, I S.bad] 64
  selfO : o b = -1
  ar : AR (fun i => o i = -2 ∧ i < w.heap.size) w h.st S.ar
  tr : Tr S.nv w h.T S.R S.L
  trO : ∀ i, h.T.F i → o i = -3
  oo : Own w 3 1 h.oo.1 h.oo.2.1 h.oo.2.2 ((S.R.map fun e => e.lit).map I)
  ooO : ∀ i, ob h.oo.1 i → o i = -4
  out : Own w 59 1 h.ll.1 h.ll.2.1 h.ll.2.2 (h.hh.map sv)
  outO : ∀ i, ob h.ll.1 i → o i = -5
  hhl : h.hh.length = 2 * S.nv
  lsl : S.lists.length = 2 * S.nv
  inn : ∀ (i : Nat) (x : Sl) (ids : List Nat), h.hh[i]? = some x → S.lists[i]? = some ids → ¬ ex i → Own w 68 1 x.1 x.2.1 x.2.2 (ids.map fun k => Pt (h.hb k))
  innO : ∀ (i : Nat) (x : Sl), h.hh[i]? = some x → ∀ j, ob x.1 j → o j = i ∧ j < w.heap.size
  sh : Own w 68 1 h.ss.1 h.ss.2.1 h.ss.2.2 (S.short.map fun k => Pt (h.hb k))
  shO : ∀ i, ob h.ss.1 i → o i = -6
  le : Own w 68 1 h.le.1 h.le.2.1 h.le.2.2 (S.learnts.map fun k => Pt (h.hb k))
  leO : ∀ i, ob h.le.1 i → o i = -7
  bk : Blk w h.bk [sv h.lg] 58
  bkO : o h.bk = -8
  lg : Own w 82 2 h.lg.1 h.lg.2.1 h.lg.2.2 ((S.log.zip h.gl).flatMap step2)
  lgO : ∀ i, ob h.lg.1 i → o i = -10
  gll : h.gl.length = S.log.length
  gl : ∀ (i : Nat) (x : Bool × List Int) (y : Sl), S.log[i]? = some x → h.gl[i]? = some y → RdL w y.1 y.2.1 x.2 ∧ ∀ j, ob y.1 j → o j = -11 ∧ j < w.heap.size
  held : ∀ (i : Nat) (d : Hd), S.H[i]? = some d → Blk w (h.hb i) [I d.at_, sv (h.hl i), I d.e0, I d.e1, .bool d.gone] 71 ∧ o (h.hb i) = -12 ∧ RdL w (h.hl i).1 (h.hl i).2.1 d.ls ∧ ∀ j, ob (h.hl i).1 j → o j = -13 ∧ j < w.heap.size
  inj : ∀ i j, i < S.H.length → j < S.H.length → h.hb i = h.hb j → i = j
  nrm : ∀ j, w.heap.size ≤ j → o j = -9
/-- whose a block is, of the old ones, stays -/
def Ag (w : World) (o o' : Nat → Int) : Prop := ∀ i, i < w.heap.size → o' i = o i
section
variable {ex : Nat → Prop} {w w' w1 w2 : World} {b : Nat} {o o' o1 o2 : Nat → Int} {h h' : Hs} {S S' : ES} {T : Int → Prop}
theorem Ag.refl (w : World) (o : Nat → Int) : Ag w o o := fun _ _ => rfl
theorem Ag.trans (h : Ag w o o1) (h' : Ag w1 o1 o2) (hs : w.heap.size ≤ w1.heap.size) : Ag w o o2 := fun i hi => by rw [h' i (by omega), h i hi]
theorem keep_ag (h : Keep (fun i => T (o i)) w w1) (ha : Ag w o o1) (h' : Keep (fun i => T (o1 i)) w1 w2) : Keep (fun i => T (o i)) w w2 :=
  h.trans h' fun i hi ht => by rw [ha i hi] at ht; exact ht
theorem ar_grow {M M' : Nat → Prop} {b : Nat} {A : Ar} (h : AR M w b A) (hm : ∀ i, M i → M' i) (hl : ∀ i, M' i → i < w.heap.size) : AR M' w b A := by
  obtain ⟨wp, wn, wc, r, op, oc, os, h1, h2, h3, h4, m1, m2, m3, d1, d2, d3⟩ := h.rep
  exact ⟨⟨wp, wn, wc, r, op, oc, os, h1, h2, h3, h4, hm _ m1, fun i hi => hm i (m2 i hi), fun i hi => hm i (m3 i hi), d1, d2, d3⟩, hm _ h.own, hl, h.lv⟩
/-- what turns blocks of others alone, leaves it; new blocks are nobody's -/
theorem Rp.keepX {U : Nat → Prop} (hR : Rp ex w b o h S) (hk : Keep U w w') (hU : ∀ i, i < w.heap.size → U i → o i = -9) : Rp ex w' b o h S := by
  have no : ∀ {i : Nat} {t : Int}, i < w.heap.size → o i = t → t ≠ -9 → ¬ U i := fun hi ho ht hu => by have := hU _ hi hu; omega
  have nO : ∀ {e : TypeId} {sz : Nat} {p : Option Addr} {n c : Nat} {xs : List Value} {t : Int}, Own w e sz p n c xs → (∀ i, ob p i → o i = t) → t ≠ -9 → ∀ i, ob p i → ¬ U i := fun hO ht hne i hi => no (hO.lt i hi) (ht i hi) hne
  have z := hk.size
  have har : AR (fun i => o i = -2 ∧ i < w'.heap.size) w' h.st S.ar := ar_grow ((hR.ar).keep (U := fun i => U i ∧ i < w.heap.size) ⟨hk.os, hk.tape, hk.output, hk.size, fun i hi hn => hk.block i hi fun hu => hn ⟨hu, hi⟩⟩ fun i hi hh => no hi.2 hh.1 (by decide) hi.1) (fun i hi => ⟨hi.1, by omega⟩) (fun i hi => hi.2)
  exact ⟨hR.self.keep hk (no hR.self.lt hR.selfO (by decide)), hR.selfO, har, hR.tr.keep hk (fun i hi hu => no (hR.tr.lt i hi) (hR.trO i hi) (by decide) hu), hR.trO,
    hR.oo.keep hk (nO hR.oo hR.ooO (by decide)), hR.ooO, hR.out.keep hk (nO hR.out hR.outO (by decide)), hR.outO, hR.hhl, hR.lsl,
    fun i x ids hx hi hn => (hR.inn i x ids hx hi hn).keep hk fun j hj => no (hR.innO i x hx j hj).2 (hR.innO i x hx j hj).1 (by omega),
    fun i x hx j hj => ⟨(hR.innO i x hx j hj).1, by have := (hR.innO i x hx j hj).2; omega⟩,
    hR.sh.keep hk (nO hR.sh hR.shO (by decide)), hR.shO, hR.le.keep hk (nO hR.le hR.leO (by decide)), hR.leO, hR.bk.keep hk (no hR.bk.lt hR.bkO (by decide)), hR.bkO,
    hR.lg.keep hk (nO hR.lg hR.lgO (by decide)), hR.lgO, hR.gll,
    fun i x y hx hy => ⟨(hR.gl i x y hx hy).1.keep hk fun j hj => no ((hR.gl i x y hx hy).2 j hj).2 ((hR.gl i x y hx hy).2 j hj).1 (by decide), fun j hj => ⟨((hR.gl i x y hx hy).2 j hj).1, by have := ((hR.gl i x y hx hy).2 j hj).2; omega⟩⟩,
    fun i d hd => by
      obtain ⟨h1, h2, h3, h4⟩ := hR.held i d hd
      exact ⟨h1.keep hk (no h1.lt h2 (by decide)), h2, h3.keep hk (fun j hj => no (h4 j hj).2 (h4 j hj).1 (by decide)), fun j hj => ⟨(h4 j hj).1, by have := (h4 j hj).2; omega⟩⟩, hR.inj, fun j hj => hR.nrm j (by omega)⟩
theorem Rp.keep0 (hR : Rp ex w b o h S) (hk : Keep None w w') : Rp ex w' b o h S := hR.keepX hk fun i _ hi => hi.elim
/-- nobody's blocks may be taken -/
theorem Rp.tag (hR : Rp ex w b o h S) (ha : ∀ j, o j ≠ -9 → o' j = o j) (hn : ∀ j, w.heap.size ≤ j → o' j = -9) : Rp ex w b o' h S := by
  have har : AR (fun i => o' i = -2 ∧ i < w.heap.size) w h.st S.ar := ar_grow hR.ar (fun i hi => ⟨by rw [ha i (by rw [hi.1]; decide)]; exact hi.1, hi.2⟩) fun i hi => hi.2
  have q : ∀ {P : Nat → Prop} {t : Int}, t ≠ -9 → (∀ i, P i → o i = t) → ∀ i, P i → o' i = t := fun hne ht i hi => by rw [ha i (by rw [ht i hi]; exact hne)]; exact ht i hi
  have q1 : ∀ {i : Nat} {t : Int}, t ≠ -9 → o i = t → o' i = t := fun hne ht => by rw [ha _ (by rw [ht]; exact hne)]; exact ht
  exact ⟨hR.self, q1 (by decide) hR.selfO, har, hR.tr, q (by decide) hR.trO, hR.oo, q (by decide) hR.ooO, hR.out, q (by decide) hR.outO, hR.hhl, hR.lsl, hR.inn,
    fun i x hx j hj => ⟨q1 (by omega) (hR.innO i x hx j hj).1, (hR.innO i x hx j hj).2⟩, hR.sh, q (by decide) hR.shO, hR.le, q (by decide) hR.leO, hR.bk, q1 (by decide) hR.bkO, hR.lg, q (by decide) hR.lgO, hR.gll,
    fun i x y hx hy => ⟨(hR.gl i x y hx hy).1, fun j hj => ⟨q1 (by decide) ((hR.gl i x y hx hy).2 j hj).1, ((hR.gl i x y hx hy).2 j hj).2⟩⟩,
    fun i d hd => by
      obtain ⟨h1, h2, h3, h4⟩ := hR.held i d hd
      exact ⟨h1, q1 (by decide) h2, h3, fun j hj => ⟨q1 (by decide) (h4 j hj).1, (h4 j hj).2⟩⟩, hR.inj, hn⟩
/-- what a step leaves: blocks of the tags T alone have turned -/
def Nx (T : Int → Prop) (ex : Nat → Prop) (w : World) (b : Nat) (o : Nat → Int) (h : Hs) (S' : ES) (w' : World) : Prop :=
  ∃ o' h', Rp ex w' b o' h' S' ∧ Ag w o o' ∧ Keep (fun i => T (o i)) w w' ∧ h'.hb = h.hb
end
def tMine (t : Int) : Prop := t ≠ -9
/-- how a literal stands -/
def vl (S : ES) (l : Int) : Int := valA S.nv S.R l
def other (d : Hd) (l : Int) : Int := if d.e0 = l then d.e1 else d.e0
def Wi (nv : Nat) (l : Int) : Prop := l ≠ 0 ∧ -(nv : Int) ≤ l ∧ l ≤ nv
end Go.Proofs.Ytmhjehodfggleaa.Eng
