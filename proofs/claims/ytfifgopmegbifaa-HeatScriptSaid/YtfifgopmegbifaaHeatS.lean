/- The heat behind a script's calls; HeatKeeps. -/
import Derived.Test.YtfifgopmegbifaaHeatR
set_option linter.unusedVariables false
set_option linter.unusedSimpArgs false
set_option maxRecDepth 100000
namespace Go.Proofs.Ytfifgopmegbifaa.Heat
open Go Go.Proofs.Ytfifgopmegbifaa.Vc Go.Proofs.Ytfifgopmegbifaa.T
open Go.Proofs.Ytfifgopmegbifaa.Apart (RdL own_rdl wrap_nat Ls Sl sv Ag Lists getE own_len)

section
variable {J : List Nat → Nat → Prop} {n : Nat} {w0 w w1 : World} {Q : HI} {decay : Nat} {fr : Prop} {p : Option Addr} {c : Nat} {xs : List Sl} {C : List (List Int)} {o o' : Nat → Int} {S : Nat → Prop}
/-- one list goes out -/
theorem Kh.gave (h : Kh J n w0 w Q decay fr p c xs C o) (tag : Int) :
    Calls Try.prog 15 #[.pointer (some ⟨Q.h, 0, none⟩)] w fun e w' => ∃ (a : Sl) (R : List Int) (o' : Nat → Int), e = .returned (sv a) ∧ a.2.1 = R.length ∧ R.length ≤ 1048576 ∧ Keep None w w' ∧ Ag w o o' ∧ Pend w' o' tag a R ∧ Kh J n w0 w' Q decay fr p c xs C o' := by
  refine h.st.order.mono fun e w' ⟨v, R, he, ⟨q, d, hv, hO, hn, k⟩, hl⟩ => ?_
  obtain ⟨o', ha, hP, hK⟩ := h.fresh k (a := (q, R.length, d)) hO hn tag
  exact ⟨(q, R.length, d), R, o', by rw [he, hv]; rfl, rfl, hl, k, ha, hP, hK⟩
/-- .. and the same one, of which it is known what it is -/
theorem PHorder2 {sc : List Nat} {step : Nat} {wb : List Bool} (h : PH n w Q sc step decay wb) :
    Calls Try.prog 15 #[.pointer (some ⟨Q.h, 0, none⟩)] w fun e w' => ∃ (a : Sl) (R : List Int), e = .returned (sv a) ∧ a.2.1 = R.length ∧ OrdL n sc wb R ∧ Own w' 3 1 a.1 a.2.1 a.2.2 (R.map I) ∧ (∀ i, ob a.1 i → w.heap.size ≤ i) ∧ Keep None w w' := by
  refine h.order.mono fun e w' ⟨v, he, q, m, c, R, hv, hO, hn, hk, hR⟩ => ⟨(q, m, c), R, by rw [he, hv]; rfl, (own_len hO).symm, hR, hO, hn, hk⟩
end

def Ran (J : List Nat → Nat → Prop) (n m : Nat) (w : World) (v : Value) (w' : World) : Prop := ∃ (Q : HI) (decay : Nat) (p : Option Addr) (c : Nat) (xs : List Sl) (C : List (List Int)) (o : Nat → Int),
  v = .tuple #[.pointer (some ⟨Q.h, 0, none⟩), .slice p C.length c] ∧ C.length ≤ m ∧ Kh J n w w' Q decay (m = 0) p c xs C o
theorem run16 {J : List Nat → Nat → Prop} (hj : Jok J) (N : Int) (d : Nat) (sp : Option Addr) (m c : Nat) (w : World) (hN : i64 N) (hm : m ≤ 1048576) (hS : OpL w sp m) :
    Calls Try.prog 16 #[I N, F d, .slice sp m c, .slice none 0 0] w fun e w' => ∃ v, e = .returned v ∧ Ran J (N % 61).toNat m w v w' := by
  refine V16_calls N d sp m c none 0 0 w (Ran J (N % 61).toNat m w) ?_
  unfold V16
  have m1 := Int.emod_nonneg N (show (61 : Int) ≠ 0 by omega)
  have m2 := Int.emod_lt_of_pos N (show (0 : Int) < 61 by omega)
  have hn : N % 61 = ((N % 61).toNat : Int) := by omega
  refine ⟨fun s w' => w' = w ∧ fine (N % 61) s.1 = true, ?_, ?_⟩
  · refine pif_of (fun hc => ⟨rfl, ?_⟩) fun hc => ⟨rfl, ?_⟩
    · have e1 : decide (0 ≤ N % 61) = true := decide_eq_true (by omega)
      have e2 : decide (N % 61 ≤ 1048576) = true := decide_eq_true (by omega)
      unfold fine
      rw [e1, e2]
      decide +kernel
    · have e1 : decide (0 ≤ N % 61) = true := decide_eq_true (by omega)
      have e2 : decide (N % 61 ≤ 1048576) = true := decide_eq_true (by omega)
      unfold fine
      simp only []
      rw [e1, e2]
      have ec : ∀ x y : Bool, (!(cond x y false)) = false → (true && true && (x && y)) = true := by decide
      exact ec _ _ hc
  rintro ⟨d', ⟨⟩⟩ w1 ⟨rfl, hf⟩
  simp only [] at hf ⊢
  refine cl_of ok12 (pick12 N 61 w1 hN (by omega)) fun e w2 ⟨he, hw⟩ => ⟨_, he, ?_⟩
  subst hw
  rw [hn]
  rw [hn] at hf
  have hn61 : (N % 61).toNat ≤ 60 := by omega
  generalize (N % 61).toNat = n at *
  refine cl_of ok9 (new9 _ d' w2 (by omega)) fun e w3 ⟨v, he, hv⟩ => ?_
  obtain ⟨Q, rfl, k3, hold, hP⟩ := made hv hf
  refine ⟨_, _, he, pif_f rfl ?_⟩
  let o : Nat → Int := fun i => if i < w2.heap.size then -9 else -3
  have h0 : Kh J n w2 w3 Q d' True none 0 [] [] o :=
    ⟨⟨hf, _, _, _, hP, hj.init n, fun _ => rfl⟩, ⟨Own.nil _ _ _, (fun k x hx => by simp at hx), (fun i ⟨a, hh, _⟩ => by cases hh), fun k x hx => by simp at hx⟩, fun i hi => if_neg (by have := hold i hi; omega), fun i hi => if_pos hi, k3, fun l hl => by cases hl⟩
  let Iv : Nat → ((Option Addr × Nat × Nat)) → World → Prop := fun i s w' => ∃ xs C o, s.2.1 = C.length ∧ C.length ≤ i ∧ Kh J n w2 w' Q d' (i = 0) s.1 s.2.2 xs C o
  refine lp_of (fun s w' => ∃ i : Nat, s.2.1 = i ∧ i ≤ m ∧ Iv i s.1 w') (fun s _ => (m - s.2.1).toNat) ⟨0, rfl, Nat.zero_le _, [], [], o, rfl, Nat.zero_le _, ⟨h0.st.1, by obtain ⟨_, sc, step, wb, a, b, c⟩ := h0.st; exact ⟨sc, step, wb, a, b, fun _ => c trivial⟩⟩, h0.ls, h0.oh, h0.old, h0.keep, h0.good⟩ ?_
  rintro ⟨⟨q, qn, qc⟩, i', ⟨⟩⟩ w4 ⟨i, rfl, hi, xs, C, o4, e1, hC, h4⟩
  simp only [] at e1 h4 ⊢
  subst e1
  refine pif_of (fun hlt => ?_) fun hge => ?_
  · have hlt : i < m := by simpa using hlt
    rw [wrap_nat i (by omega)]
    have hS4 := hS.keep0 h4.keep
    have h4 := h4.any
    refine ⟨fun s w' => ∃ xs C o, s.1.2.1 = C.length ∧ C.length ≤ i + 1 ∧ Kh J n w2 w' Q d' False s.1.1 s.1.2.2 xs C o, ?_, ?_⟩
    · refine hS4.at hlt fun a on kd x _ c1 c2 _ r1 r2 => ldI_of c1 ?_
      refine cl_of ok12 (pick12 kd 5 w4 r1 (by omega)) fun e w5 ⟨he, hw⟩ => ⟨_, he, ?_⟩
      subst hw
      refine pif_of (fun _ => ?_) fun _ => ?_
      · refine hS4.at hlt fun a on kd x _ c1 c2 _ r1 r2 => ldI_of c2 ?_
        refine cl_of ok13 (h4.st.bump hj x) fun e w6 ⟨y, he, k, hs⟩ => ⟨_, he, xs, C, o4, rfl, by omega, h4.turn k hs⟩
      refine pif_of (fun _ => ?_) fun _ => ?_
      · have hx400 : ∃ X : Int, X < 400 ∧ ∀ w' (K : Int → World → Prop), Keep None w2 w' → K X w' → ixA sp m (i : Int) 3 fun p41 => ldI .i64 w' (p41.add 2) fun x42 => cl Try.prog 12 [.int .i64 x42, .int .i64 400] w' fun e44 w9 => ∃ x43 : Int, e44 = Ending.returned (.int .i64 x43) ∧ K x43 w9 := by
          obtain ⟨a, on, kd, x, ea, c0, c1, c2, r0, r1, r2⟩ := hS i hlt
          refine ⟨x % 400, Int.emod_lt_of_pos x (by omega), fun w' K k hK => ?_⟩
          subst ea
          refine ⟨by omega, by omega, ?_⟩
          show ldI _ _ _ _
          rw [Int.toNat_natCast]
          refine ldI_of (k.cell c2 fun h => h) (cl_of ok12 (pick12 x 400 w' r2 (by omega)) fun e w5 ⟨he, hw⟩ => ⟨_, he, ?_⟩)
          rw [hw]
          exact hK
        obtain ⟨X, hX, hgo⟩ := hx400
        refine lp_of (fun s w' => ∃ j : Nat, s.1 = j ∧ j ≤ 400 ∧ Kh J n w2 w' Q d' False q qc xs C o4) (fun s _ => (400 - s.1).toNat) ⟨0, rfl, by omega, h4⟩ ?_
        rintro ⟨j', ⟨⟩⟩ w6 ⟨j, rfl, hj4, h6⟩
        simp only []
        refine hgo w6 _ h6.keep ?_
        refine pif_of (fun hjl => ?_) fun _ => ⟨xs, C, o4, rfl, by omega, h6⟩
        have hjl : (j : Int) < X := by simpa using hjl
        rw [wrap_nat j (by omega)]
        refine cl_of ok14 (h6.st.cool hj) fun e w7 ⟨he, k, hs⟩ => ⟨he, ⟨j + 1, rfl, by omega, h6.turn k hs⟩, by omega⟩
      refine pif_of (fun _ => ?_) fun _ => ?_
      · refine cl_of ok25 h4.st.take fun e w6 ⟨y, b, he, k, hs⟩ => ⟨_, _, he, xs, C, o4, rfl, by omega, h4.turn k hs⟩
      refine pif_of (fun _ => ?_) fun _ => ?_
      · refine hS4.at hlt fun a on kd x _ c1 c2 _ r1 r2 => ldI_of c2 ?_
        refine cl_of ok26 (h4.st.put x) fun e w6 ⟨y, he, k, hs⟩ => ⟨_, he, xs, C, o4, rfl, by omega, h4.turn k hs⟩
      · refine cl_of ok15 (h4.gave (C.length : Nat)) fun e w6 ⟨a, R, o6, he, hl, hl2, k, ha, hP, h6⟩ => ⟨a.1, a.2.1, a.2.2, he, ?_⟩
        refine h6.push [(a, R)] (fun j b hb => ?_) (fun b hb => ?_) (by simp only [List.length_singleton]; omega) fun p' c' w7 o7 a7 k7 h7 => ?_
        · match j, hb with
          | 0, hb => simp only [List.getElem?_cons_zero, Option.some.injEq] at hb; subst hb; exact hP
          | j + 1, hb => simp at hb
        · simp only [List.mem_singleton] at hb; subst hb; exact hl2
        · refine ⟨_, _, o7, ?_, ?_, h7⟩
          · simp
          · simp only [List.length_append, List.map_cons, List.map_nil, List.length_singleton]; omega
    · rintro ⟨⟨q', qn', qc'⟩, ⟨⟩⟩ w5 ⟨xs5, C5, o5, e5, hC5, h5⟩
      exact ⟨⟨i + 1, rfl, hlt, xs5, C5, o5, e5, hC5, ⟨h5.st.1, by obtain ⟨_, sc, step, wb, a, b, c⟩ := h5.st; exact ⟨sc, step, wb, a, b, fun hh => absurd hh (Nat.succ_ne_zero i)⟩⟩, h5.ls, h5.oh, h5.old, h5.keep, h5.good⟩, by omega⟩
  · have hge : i = m := by simp at hge; omega
    subst hge
    exact ⟨Q, d', q, qc, xs, C, o4, rfl, hC, h4⟩
end Go.Proofs.Ytfifgopmegbifaa.Heat
