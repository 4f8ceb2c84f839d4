/- The document's Plan: the same beats; lists of beats held against one another; PacePlans. -/
import Derived.Test.YtkpoagdhekimpaaTPlan2
import Derived.Test.YtkpoagdhekimpaaTPlan3
import Derived.Test.YtkpoagdhekimpaaVcQ
import Derived.Test.YtkpoagdhekimpaaPlan
import Derived.Test.YtkpoagdhekimpaaNum
set_option linter.unusedVariables false
set_option linter.unusedSimpArgs false
set_option maxRecDepth 100000
namespace Go.Proofs.Ytkpoagdhekimpaa.Pace
open Go Go.Proofs.Ytkpoagdhekimpaa.Vc Go.Proofs.Ytkpoagdhekimpaa.T

theorem plan22_bad {b f g : Int} {d : Nat} {p q : Int} {N : Int} (h : formed b f g d p = false) (w : World) :
    Calls Try.prog 22 #[.agg #[I b, I f, I g, F d, I p, I q], I N] w fun e w' => e = .returned (.tuple #[.slice none 0 0, I 1]) ∧ Keep None w w' := by
  refine (V22_calls b f g d p q N w (fun v w' => v = .tuple #[.slice none 0 0, I 1] ∧ Keep None w w') ?_).mono fun e w' ⟨v, he, hv, hk⟩ => ⟨by rw [he, hv], hk⟩
  unfold V22
  refine alc_at fun b2 w1 hb2 hC k1 => ?_
  refine ld6 hC ?_
  refine cl_of ok19 (make19 b f g d p q w1) fun e w2 ⟨v, he, k2, hv⟩ => ?_
  rcases hv with ⟨_, rfl⟩ | ⟨h', _⟩
  · exact ⟨_, _, he, pif_t rfl ⟨rfl, k1.then0 k2⟩⟩
  · rw [h] at h'; cases h'
theorem plan22_range {b f g : Int} {d : Nat} {p q : Int} {N : Int} (hf : formed b f g d p = true) (hn : N < 0 ∨ N > 1048576) (w : World) :
    Calls Try.prog 22 #[.agg #[I b, I f, I g, F d, I p, I q], I N] w fun e w' => e = .returned (.tuple #[.slice none 0 0, I 2]) ∧ Keep None w w' := by
  refine (V22_calls b f g d p q N w (fun v w' => v = .tuple #[.slice none 0 0, I 2] ∧ Keep None w w') ?_).mono fun e w' ⟨v, he, hv, hk⟩ => ⟨by rw [he, hv], hk⟩
  unfold V22
  refine alc_at fun b2 w1 hb2 hC k1 => ?_
  refine ld6 hC ?_
  refine cl_of ok19 (make19 b f g d p q w1) fun e w2 ⟨v, he, k2, hv⟩ => ?_
  rcases hv with ⟨h', _⟩ | ⟨_, m, _, _, rfl, hM⟩
  · rw [hf] at h'; cases h'
  · refine ⟨_, _, he, pif_f rfl (pif_t ?_ ⟨rfl, k1.then0 k2⟩)⟩
    rcases hn with h | h
    · rw [decide_eq_true h]; rfl
    · rw [decide_eq_false (show ¬ N < 0 by omega), decide_eq_true h]; rfl
theorem plan21_bad {b f g : Int} {d : Nat} {p q : Int} {N : Int} (h : formed b f g d p = false) (w : World) :
    Calls Try.prog 21 #[.agg #[I b, I f, I g, F d, I p, I q], I N] w fun e w' => e = .returned (.tuple #[.slice none 0 0, I 1]) ∧ Keep None w w' := by
  refine (V21_calls b f g d p q N w (fun v w' => v = .tuple #[.slice none 0 0, I 1] ∧ Keep None w w') ?_).mono fun e w' ⟨v, he, hv, hk⟩ => ⟨by rw [he, hv], hk⟩
  unfold V21
  refine alc_at fun b2 w1 hb2 hC k1 => ?_
  refine alc_at fun b3 w2 hb3 hN k2 => ?_
  refine ld6 (hC.keep0 k2) ?_
  refine cl_of ok18 (make18 b f g d p q w2) fun e w3 ⟨v, he, k3, hv⟩ => ?_
  rcases hv with ⟨_, rfl⟩ | ⟨h', _⟩
  case inr => rw [h] at h'; cases h'
  refine ⟨_, _, _, _, he, ?_⟩
  refine alc_at fun b16 w4 hb4 hF k4 => ?_
  simp only [add_mk, Nat.zero_add, Nat.add_zero]
  refine st_of hF (by simp) rfl fun w5 hF k5 e5 => ?_
  refine st_of hF (by simp) rfl fun w6 hF k6 e6 => ?_
  refine st_of hF (by simp) rfl fun w7 hF k7 e7 => ?_
  have k37 : Keep None w3 w7 := ((k4.then1 k5 (by omega)).then1 k6 (by omega)).then1 k7 (by omega)
  exact pif_t rfl ⟨by first | rfl | trivial, ((k1.then0 k2).then0 k3).then0 k37⟩

theorem plan22 {b f g : Int} {d : Nat} {p q : Int} (hf : formed b f g d p = true) {N : Int} (h0 : 0 ≤ N) (h1 : N ≤ 1048576) (w : World) :
    Calls Try.prog 22 #[.agg #[I b, I f, I g, F d, I p, I q], I N] w fun e w' => ∃ v, e = .returned v ∧ Plans b f g N w v w' := by
  refine V22_calls b f g d p q N w (Plans b f g N w) ?_
  unfold V22
  obtain ⟨rb1, rb2, rf1, rf2, rg1, rg2⟩ := formed_range hf
  refine alc_at fun b2 w1 hb2 hC k1 => ?_
  have l1 := hC.lt
  refine ld6 hC ?_
  refine cl_of ok19 (make19 b f g d p q w1) fun e w2 ⟨v, he, k2, hv⟩ => ?_
  rcases hv with ⟨h', _⟩ | ⟨_, m, hm0, hm1, rfl, hM⟩
  · rw [hf] at h'; cases h'
  refine ⟨_, _, he, pif_f rfl (pif_f ?_ ?_)⟩
  · rw [decide_eq_false (show ¬ N < 0 by omega), decide_eq_false (show ¬ N > 1048576 by omega)]; rfl
  have k02 := k1.then0 k2
  have z1 := k1.size
  have z2 := k2.size
  refine lp_of (fun s W => ∃ (n k : Nat), s.2.1 = (n : Int) + 1 ∧ (n : Int) ≤ N ∧ s.1.2.1 = k ∧ IsK b f g n k ∧ Keep None w W ∧ Vc.Own W 50 2 s.1.1 s.1.2.1 s.1.2.2 (bcells (beats b f g k)) ∧ (∀ i, ob s.1.1 i → w.heap.size ≤ i ∧ i ≠ m) ∧ m < W.heap.size ∧
      MRep W m b f g (n - (pst b f g k).1) k (n - (pst b f g k).2.1) (pst b f g k).2.2.1) (fun s _ => (N + 1 - s.2.1).toNat)
    ⟨0, 0, rfl, h0, rfl, ⟨Int.le_refl _, by have := pst_step (f := f) (g := g) rb1 0; have e : (pst b f g 0).1 = 0 := rfl; rw [e] at this; show (0 : Int) < _; omega⟩, k02, Vc.Own.nil w2 50 2, (fun i ⟨a, h, _⟩ => by cases h), hm1, hM⟩ ?_
  rintro ⟨⟨op, on, oc⟩, n', ⟨⟩⟩ W ⟨n, k, e1, hn, e2, hK, kW, hO, hf0, hmW, hM⟩
  simp only [] at e1 e2 hO hf0 ⊢
  subst e1 e2
  obtain ⟨q1, q2, q3, q4⟩ := pst_last (f := f) (g := g) rb1 on
  have hge := pst_ge (f := f) (g := g) rb1 on
  obtain ⟨K1, K2⟩ := hK
  refine pif_of (fun hlt => ?_) fun hgt => ?_
  · have hlt : (n : Int) + 1 ≤ N := by simpa using hlt
    refine jn_of ?_
    refine cl_of ok31 (conflict31 hM) fun e W1 ⟨he, k3, hM1⟩ => ⟨he, ?_⟩
    have x1 : wr ((n : Int) - (pst b f g on).1 + 1) = ((n + 1 : Nat) : Int) - (pst b f g on).1 := by show IntKind.wrap .i64 _ = _; rw [IntKind.wrap_i64]; omega
    have x2 : wr ((n : Int) - (pst b f g on).2.1 + 1) = ((n + 1 : Nat) : Int) - (pst b f g on).2.1 := by show IntKind.wrap .i64 _ = _; rw [IntKind.wrap_i64]; omega
    rw [x1, x2] at hM1
    refine cl_of ok32 (restart32 hM1) fun e W2 ⟨he, k4, hM2⟩ => ⟨_, he, ?_⟩
    obtain ⟨lb1, lb2⟩ := lub_bounds (on + 1) (by omega)
    have hmul : b * (lub (on + 1) : Int) ≤ 1048576 * 1048577 := Int.mul_le_mul rb2 (by omega) (by omega) (by omega)
    have hmul1 : b * 1 ≤ b * (lub (on + 1) : Int) := Int.mul_le_mul_of_nonneg_left (by omega) (by omega)
    have hpn := pst_n b f g on
    have x3 : wr ((on : Int) + 1) = ((on + 1 : Nat) : Int) := by show IntKind.wrap .i64 _ = _; rw [IntKind.wrap_i64]; omega
    have hdue : dueM b (((n + 1 : Nat) : Int) - (pst b f g on).1) on = decide ((pst b f g (on + 1)).1 ≤ ((n + 1 : Nat) : Int)) := by
      unfold dueM
      rw [x3, Int.toNat_natCast]
      have x4 : wr (b * (lub (on + 1) : Int)) = b * (lub (on + 1) : Int) := by show IntKind.wrap .i64 _ = _; rw [IntKind.wrap_i64]; omega
      rw [x4]
      by_cases h : (pst b f g (on + 1)).1 ≤ ((n + 1 : Nat) : Int)
      · rw [decide_eq_true h, decide_eq_false (by omega)]; rfl
      · rw [decide_eq_false h, decide_eq_true (by omega)]; rfl
    rw [hdue, x3] at hM2
    rw [hdue]
    have hm' : w.heap.size ≤ m := by omega
    have kW2 : Keep None w W2 := (kW.trans k3 fun i hi h => by have : i = m := h; omega).trans k4 fun i hi h => by have : i = m := h; omega
    have hO2 : Vc.Own W2 50 2 op on oc (bcells (beats b f g on)) := (hO.keep k3 fun i hi h => (hf0 i hi).2 h).keep k4 fun i hi h => (hf0 i hi).2 h
    have z3 := k3.size
    have z4 := k4.size
    have ew : IntKind.wrap .i64 ((n : Int) + 1 + 1) = ((n + 1 : Nat) : Int) + 1 := by rw [IntKind.wrap_i64]; omega
    refine pif_of (fun ht => ?_) fun ht => ?_
    · have ht' : (pst b f g (on + 1)).1 ≤ ((n + 1 : Nat) : Int) := by simpa using ht
      have heq : (pst b f g (on + 1)).1 = ((n + 1 : Nat) : Int) := by omega
      rw [ht, cond_true, cond_true] at hM2
      refine cl_of ok33 (clear33 hM2) fun e W3 ⟨he, k5, hM3⟩ => ⟨_, he, ?_⟩
      have hj : g * (pst b f g on).2.2.1 ≤ 1048576 * 1048576 := Int.mul_le_mul rg2 (by omega) (by omega) (by omega)
      have hj0 : 0 ≤ g * (pst b f g on).2.2.1 := Int.mul_nonneg (by omega) (by omega)
      have hst := pst_step (f := f) (g := g) rb1 on
      have ec : clrM f g (((n + 1 : Nat) : Int) - (pst b f g on).2.1) (pst b f g on).2.2.1 = !decide ((pst b f g (on + 1)).1 - (pst b f g on).2.1 < f + (pst b f g on).2.2.1 * g) := by
        unfold clrM
        have y2 : wr (g * (pst b f g on).2.2.1) = g * (pst b f g on).2.2.1 := by show IntKind.wrap .i64 _ = _; rw [IntKind.wrap_i64]; omega
        rw [y2]
        have y3 : wr (f + g * (pst b f g on).2.2.1) = f + g * (pst b f g on).2.2.1 := by show IntKind.wrap .i64 _ = _; rw [IntKind.wrap_i64]; omega
        rw [y3, heq, Int.mul_comm g]
      refine alc_at fun b37 W4 hb37 h37 k6 => ?_
      have z5 := k5.size
      have z6 := k6.size
      have hO3 : Vc.Own W3 50 2 op on oc (bcells (beats b f g on)) := hO2.keep k5 fun i hi h => (hf0 i hi).2 h
      have hnews : News W4 2 (some ⟨b37, 0, none⟩) 1 1 [I ((n : Int) + 1), .bool (clrM f g (((n + 1 : Nat) : Int) - (pst b f g on).2.1) (pst b f g on).2.2.1)] :=
        Or.inr ⟨_, rfl, rfl, fun j u hu => by rw [add_mk, Nat.zero_add, h37.cell]; exact hu⟩
      refine app_of2 (e := 50) (sz := 2) (z := .agg #[I 0, .bool false]) (B := 16) Try.underlying43 (by kernel_rfl) rfl (by omega) (hO3.keep0 k6) hnews (fun u hu => ?_) (by simp only [maxLen]; omega) (by omega) fun p' c' W5 hO5 hd5 => ?_
      · simp only [List.mem_cons, List.not_mem_nil, or_false] at hu
        rcases hu with rfl | rfl <;> rfl
      rw [show (n : Int) + 1 = (pst b f g (on + 1)).1 by omega, ← beats_succ_cells ec] at hO5
      have hk5 : Keep (fun i => w.heap.size ≤ i ∧ i ≠ m) W4 W5 ∧ ∀ i, ob p' i → w.heap.size ≤ i ∧ i ≠ m := by
        rcases hd5 with ⟨x1, _, _, x2⟩ | ⟨x1, x2⟩
        · exact ⟨x2.mono fun i _ hi => hf0 i hi, fun i hi => by rw [x1] at hi; exact hf0 i hi⟩
        · exact ⟨x2.none, fun i hi => by have := x1 i hi; omega⟩
      have z7 := hk5.1.size
      refine ⟨⟨n + 1, on + 1, ew, by omega, rfl, ⟨by omega, ?_⟩, ?_, hO5, hk5.2, by omega, ?_⟩, by rw [ew]; omega⟩
      · have := pst_step (f := f) (g := g) rb1 (on + 1); omega
      · exact ((kW2.trans k5 fun i hi h => by have : i = m := h; omega).then0 k6).trans hk5.1 fun i hi h => by omega
      · have := (hM3.keep k6 fun h => h).keep hk5.1 fun h => h.2 rfl
        rw [pst_cl ec, pst_ct ec]
        have e9 : wr ((pst b f g on).2.2.1 + 1) = (pst b f g on).2.2.1 + 1 := by show IntKind.wrap .i64 _ = _; rw [IntKind.wrap_i64]; omega
        rw [e9] at this
        rw [show ((n + 1 : Nat) : Int) - (pst b f g (on + 1)).1 = 0 by omega]
        cases hc : clrM f g (((n + 1 : Nat) : Int) - (pst b f g on).2.1) (pst b f g on).2.2.1 with
        | true =>
          rw [hc] at this
          simp only [cond_true] at this ⊢
          rw [show ((n + 1 : Nat) : Int) - (pst b f g (on + 1)).1 = 0 by omega]
          exact this
        | false => rw [hc] at this; exact this
    · have ht' : ¬ (pst b f g (on + 1)).1 ≤ ((n + 1 : Nat) : Int) := by simpa using ht
      rw [ht] at hM2
      exact ⟨⟨n + 1, on, ew, by omega, rfl, ⟨by omega, by omega⟩, kW2, hO2, hf0, by omega, hM2⟩, by rw [ew]; omega⟩
  · have hgt : ¬ (n : Int) + 1 ≤ N := by simpa using hgt
    have : N = n := by omega
    exact ⟨on, op, oc, by rw [this]; exact ⟨K1, K2⟩, rfl, kW, hO, fun i hi => (hf0 i hi).1⟩

/-- a list of beats to read from its beginning -/
def Rd (w : World) (a : Option Addr) (n : Nat) (xs : List (Int × Bool)) : Prop := xs.length = n ∧ ∀ (i : Nat) (x : Int × Bool), xs[i]? = some x → ∃ b o, a = some ⟨b, o, none⟩ ∧ w.cell? ⟨b, o + i * 2, none⟩ = some (I x.1) ∧ w.cell? ⟨b, o + i * 2 + 1, none⟩ = some (.bool x.2)
theorem rd_of_own {w : World} {a : Option Addr} {n c : Nat} {xs : List (Int × Bool)} (h : Vc.Own w 50 2 a n c (bcells xs)) : Rd w a n xs := by
  have hl := h.len
  rw [bcells_len] at hl
  refine ⟨by omega, fun i x hi => ?_⟩
  obtain ⟨h1, h2⟩ := bcells_at hi
  have hi' : i < xs.length := (List.getElem?_eq_some_iff.1 hi).1
  have h' := h
  rcases h' with ⟨_, h, _⟩ | ⟨b, cs, rfl, _⟩
  · omega
  · refine ⟨b, 0, rfl, ?_, ?_⟩
    · rw [Nat.zero_add, h.cell _ (by omega)]; exact h1
    · rw [Nat.zero_add, h.cell _ (by omega)]; exact h2
theorem Rd.ix {w : World} {a : Option Addr} {n : Nat} {xs : List (Int × Bool)} {i : Nat} {x : Int × Bool} {K : Addr → Prop} (h : Rd w a n xs) (hi : xs[i]? = some x)
    (hk : ∀ b o, w.cell? ⟨b, o, none⟩ = some (I x.1) → w.cell? ⟨b, o + 1, none⟩ = some (.bool x.2) → K ⟨b, o, none⟩) : ixA a n (i : Int) 2 K := by
  obtain ⟨hl, hr⟩ := h
  obtain ⟨b, o, rfl, h1, h2⟩ := hr i x hi
  have hi' : i < xs.length := (List.getElem?_eq_some_iff.1 hi).1
  refine ixA_of (by omega) (by omega) ?_
  rw [Int.toNat_natCast]
  exact hk b _ h1 h2
theorem same23 {w : World} {a : Option Addr} {n c : Nat} {xs : List (Int × Bool)} {a' : Option Addr} {n' c' : Nat} (h : Rd w a n xs) (h' : Rd w a' n' xs) (hn : n ≤ 1099511627776) :
    Calls Try.prog 23 #[.slice a n c, .slice a' n' c'] w fun e w' => e = .returned (.bool true) ∧ Keep None w w' := by
  refine (V23_calls a n c a' n' c' w (fun v w' => v = .bool true ∧ Keep None w w') ?_).mono fun e w' ⟨v, he, hv, hk⟩ => ⟨by rw [he, hv], hk⟩
  unfold V23
  have hnn : n = n' := h.1.symm.trans h'.1
  subst hnn
  refine pif_f (by simp) ?_
  refine lp_of (fun s W => ∃ i : Nat, s.1 = i ∧ i ≤ n ∧ Keep None w W) (fun s _ => (n - s.1).toNat) ⟨0, rfl, Nat.zero_le _, Keep.refl _ _⟩ ?_
  rintro ⟨i', ⟨⟩⟩ W ⟨i, rfl, hi, kW⟩
  simp only []
  refine pif_of (fun hlt => ?_) fun hge => ⟨by first | rfl | trivial, kW⟩
  have hlt : i < n := by simpa using hlt
  have hx : xs[i]? = some (xs[i]'(by rw [h.1]; exact hlt)) := List.getElem?_eq_getElem _
  have kd : Keep None w W.drew := kW.drew
  have rdk : ∀ {a : Option Addr}, Rd w a n xs → Rd W.drew a n xs := fun h => ⟨h.1, fun i x hx => by
    obtain ⟨b, o, e, h1, h2⟩ := h.2 i x hx
    exact ⟨b, o, e, kd.cell h1 (fun h => h), kd.cell h2 fun h => h⟩⟩
  refine (rdk h).ix hx fun b o c1 c2 => ?_
  rw [add_mk, add_mk, Nat.add_zero]
  refine ldI_of c1 (ldB_of c2 ?_)
  refine (rdk h').ix hx fun b' o' c1' c2' => ?_
  rw [add_mk, add_mk, Nat.add_zero]
  refine ldI_of c1' (ldB_of c2' ?_)
  refine eqV_neq [.int .i64, .bool] (_, _, ()) (_, _, ()) (by kernel_rfl) (pif_f (by simp [eqL]) ?_)
  have ew : IntKind.wrap .i64 ((i : Int) + 1) = ((i + 1 : Nat) : Int) := by rw [IntKind.wrap_i64]; omega
  rw [ew]
  exact ⟨⟨i + 1, rfl, hlt, kd⟩, by omega⟩

theorem ld6' {w : World} {bb : Nat} {b f g : Int} {d : Nat} {p q : Int} {K : Int → Int → Int → Nat → Int → Int → Prop} (h : Blk w bb [I b, I f, I g, F d, I p, I q] 24) (hk : K b f g d p q) :
    ldI .i64 w ((⟨bb, 0, none⟩ : Addr).add 0) fun x5 => ldI .i64 w ((⟨bb, 0, none⟩ : Addr).add 1) fun x6 => ldI .i64 w ((⟨bb, 0, none⟩ : Addr).add 2) fun x7 =>
    ldF .f64 w ((⟨bb, 0, none⟩ : Addr).add 3) fun x8 => ldI .i64 w ((⟨bb, 0, none⟩ : Addr).add 4) fun x9 => ldI .i64 w ((⟨bb, 0, none⟩ : Addr).add 5) fun x10 => K x5 x6 x7 x8 x9 x10 := ld6 h hk
theorem law9 (b f g : Int) (d : Nat) (p q N : Int) (w : World) : Calls Try.prog 9 #[.agg #[I b, I f, I g, F d, I p, I q], I N] w fun e w' => e = .returned (.bool true) ∧ RowKit.Below w.heap.size w w' := by
  refine (V9_calls b f g d p q N w (fun v w' => v = .bool true ∧ Keep None w w') ?_).mono fun e w' ⟨v, he, hv, hk⟩ => ⟨by rw [he, hv], hk.below0⟩
  unfold V9
  refine alc_at fun b2 w1 hb2 hC k1 => ?_
  have key : ∀ M : Int, (fun (s : Int × Unit) (w2 : World) => ∀ (_ : w2 = w1), True) (M, ()) w1 := fun _ _ => trivial
  refine ⟨fun s w2 => w2 = w1, ?_, ?_⟩
  · exact pif_of (fun _ => rfl) fun _ => rfl
  rintro ⟨M, ⟨⟩⟩ w2 rfl
  simp only []
  refine ld6 hC ?_
  rcases Bool.eq_false_or_eq_true (formed b f g d p) with hf | hf
  · by_cases hM : M < 0 ∨ M > 1048576
    · refine cl_of ok21 (plan_range hf hM w2) fun e w3 ⟨he, k3⟩ => ⟨_, _, _, _, he, ?_⟩
      refine ld6 (hC.keep0 k3) ?_
      refine cl_of ok22 (plan22_range hf hM w3) fun e w4 ⟨he, k4⟩ => ⟨_, _, _, _, he, ?_⟩
      have rd0 : Rd w4 none 0 [] := ⟨rfl, fun i x h => by simp at h⟩
      refine gd_t rfl (cl_of ok23 (same23 rd0 rd0 (by omega)) fun e w5 ⟨he, k5⟩ => ⟨_, he, rfl, ((k1.then0 k3).then0 k4).then0 k5⟩)
    · refine cl_of ok21 (plan21 hf (N := M) (by omega) (by omega) w2) fun e w3 ⟨v, he, k, op, oc, hK, hv, k3, hO, hfr⟩ => ?_
      subst hv
      refine ⟨_, _, _, _, he, ?_⟩
      refine ld6 (hC.keep0 k3) ?_
      refine cl_of ok22 (plan22 hf (N := M) (by omega) (by omega) w3) fun e w4 ⟨v, he, k', op', oc', hK', hv, k4, hO', hfr'⟩ => ?_
      subst hv
      refine ⟨_, _, _, _, he, ?_⟩
      obtain ⟨rb1, _⟩ := formed_range hf
      obtain rfl := isK_one rb1 hK hK'
      have hk : (k : Int) ≤ 1048576 := by have := pst_ge (f := f) (g := g) rb1 k; have := hK.1; omega
      refine gd_t rfl (cl_of ok23 (same23 (rd_of_own (hO.keep0 k4)) (rd_of_own hO') (by omega)) fun e w5 ⟨he, k5⟩ => ⟨_, he, rfl, ((k1.then0 k3).then0 k4).then0 k5⟩)
  · refine cl_of ok21 (plan21_bad hf w2) fun e w3 ⟨he, k3⟩ => ⟨_, _, _, _, he, ?_⟩
    refine ld6 (hC.keep0 k3) ?_
    refine cl_of ok22 (plan22_bad hf w3) fun e w4 ⟨he, k4⟩ => ⟨_, _, _, _, he, ?_⟩
    have rd0 : Rd w4 none 0 [] := ⟨rfl, fun i x h => by simp at h⟩
    exact gd_t rfl (cl_of ok23 (same23 rd0 rd0 (by omega)) fun e w5 ⟨he, k5⟩ => ⟨_, he, rfl, ((k1.then0 k3).then0 k4).then0 k5⟩)
end Go.Proofs.Ytkpoagdhekimpaa.Pace
