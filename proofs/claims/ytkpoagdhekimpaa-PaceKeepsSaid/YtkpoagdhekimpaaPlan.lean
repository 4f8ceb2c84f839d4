/- pace.Plan: the beats behind as many units as have room. -/
import Derived.Test.YtkpoagdhekimpaaTPlan
import Derived.Test.YtkpoagdhekimpaaVcA
import Derived.Test.YtkpoagdhekimpaaMakes2
import Derived.Test.YtkpoagdhekimpaaPlan0
import Derived.Test.YtkpoagdhekimpaaSeq
set_option linter.unusedVariables false
set_option linter.unusedSimpArgs false
set_option maxRecDepth 100000
namespace Go.Proofs.Ytkpoagdhekimpaa.Pace
open Go Go.Proofs.Ytkpoagdhekimpaa.Vc Go.Proofs.Ytkpoagdhekimpaa.T

theorem ld6 {w : World} {bb : Nat} {b f g : Int} {d : Nat} {p q : Int} {K : Int → Int → Int → Nat → Int → Int → Prop} (h : Blk w bb [I b, I f, I g, F d, I p, I q] 24) (hk : K b f g d p q) :
    ldI .i64 w ((⟨bb, 0, none⟩ : Addr).add 0) fun x5 => ldI .i64 w ((⟨bb, 0, none⟩ : Addr).add 1) fun x6 => ldI .i64 w ((⟨bb, 0, none⟩ : Addr).add 2) fun x7 =>
    ldF .f64 w ((⟨bb, 0, none⟩ : Addr).add 3) fun x8 => ldI .i64 w ((⟨bb, 0, none⟩ : Addr).add 4) fun x9 => ldI .i64 w ((⟨bb, 0, none⟩ : Addr).add 5) fun x10 => K x5 x6 x7 x8 x9 x10 := by
  simp only [add_mk, Nat.zero_add, Nat.add_zero]
  exact ldI_of (h.cell 0) (ldI_of (h.cell 1) (ldI_of (h.cell 2) (ldF_of (h.cell 3) (ldI_of (h.cell 4) (ldI_of (h.cell 5) hk)))))
theorem seqf17 (w : World) : Calls Try.prog 17 #[] w fun e w' => e = .returned (.func (.func 27) #[] #[]) ∧ w' = w := by
  refine (V17_calls w (fun v w' => v = .func (.func 27) #[] #[] ∧ w' = w) ?_).mono fun e w' ⟨v, he, hv, hk⟩ => ⟨by rw [he, hv], hk⟩
  unfold V17
  exact ⟨rfl, rfl⟩
theorem formed_range {b f g : Int} {d : Nat} {p : Int} (h : formed b f g d p = true) : 1 ≤ b ∧ b ≤ 1048576 ∧ 1 ≤ f ∧ f ≤ 1048576 ∧ 1 ≤ g ∧ g ≤ 1048576 := by
  unfold formed okN at h
  simp only [Bool.and_eq_true, decide_eq_true_eq] at h
  omega

/-- what a Plan is -/
def Plans (b f g N : Int) (w : World) (v : Value) (w' : World) : Prop :=
  ∃ k p c, IsK b f g N k ∧ v = .tuple #[.slice p k c, I 0] ∧ Keep None w w' ∧ Vc.Own w' 50 2 p k c (bcells (beats b f g k)) ∧ ∀ i, ob p i → w.heap.size ≤ i
/-- Plan's blocks -/
structure Ctx where
  b2 : Nat
  b3 : Nat
  b16 : Nat
  b26 : Nat
  b28 : Nat
def Ctx.ok (C : Ctx) (A : Ids) (D : Nat) : Prop := C.b2 < C.b3 ∧ C.b3 < A.f ∧ A.j < C.b16 ∧ C.b16 < C.b26 ∧ C.b26 < C.b28 ∧ C.b28 < D
/-- behind k units, within the next one i conflicts told of a -/
structure PSt (w0 : World) (C : Ctx) (A : Ids) (D : Nat) (b f g : Int) (d : Nat) (p q N : Int) (k : Nat) (n cnt : Int) (op : Option Addr) (oc : Nat) (W : World) : Prop where
  kp : Keep None w0 W
  sz : D + 2 ≤ W.heap.size
  cfg : Blk W C.b2 [I b, I f, I g, F d, I p, I q] 24
  lim : Blk W C.b3 [I N] 3
  fns : Blk W C.b16 [fc A, fr A, fl A] 34
  out : Blk W C.b26 [.slice op k oc] 43
  cn : Blk W C.b28 [I n] 3
  own : Vc.Own W 50 2 op k oc (bcells (beats b f g k))
  fresh : ∀ i, ob op i → D + 2 ≤ i
  rep : PRep W A b f g cnt 0 (pst b f g k).2.1 1 (pst b f g k).2.2.1
theorem PSt.keep {w0 : World} {C : Ctx} {A : Ids} {D : Nat} {b f g : Int} {d : Nat} {p q N : Int} {k : Nat} {n cnt : Int} {op : Option Addr} {oc : Nat} {W W' : World} {S : Nat → Prop}
    (h : PSt w0 C A D b f g d p q N k n cnt op oc W) (hC : C.ok A D) (hA : A.ok C.b16) (h0 : w0.heap.size ≤ C.b2) (hk : Keep S W W') (hS : ∀ i, i < D → ¬ S i) (hS2 : ∀ i, D + 2 ≤ i → ¬ S i) : PSt w0 C A D b f g d p q N k n cnt op oc W' := by
  obtain ⟨c1, c2, c3, c4, c5, c6⟩ := hC
  obtain ⟨o1, o2, o3, o4, o5, o6⟩ := hA
  exact ⟨h.kp.trans hk fun i hi hs => absurd hs (hS i (by omega)), Nat.le_trans h.sz hk.size, h.cfg.keep hk (hS _ (by omega)), h.lim.keep hk (hS _ (by omega)), h.fns.keep hk (hS _ (by omega)), h.out.keep hk (hS _ (by omega)), h.cn.keep hk (hS _ (by omega)),
    h.own.keep hk fun i hi => hS2 i (h.fresh i hi), h.fresh, h.rep.keep hk (hS _ (by omega)) (hS _ (by omega)) (hS _ (by omega)) (hS _ (by omega)) (hS _ (by omega)) (hS _ (by omega))⟩

theorem plan21 {b f g : Int} {d : Nat} {p q : Int} (hf : formed b f g d p = true) {N : Int} (h0 : 0 ≤ N) (h1 : N ≤ 1048576) (w : World) :
    Calls Try.prog 21 #[.agg #[I b, I f, I g, F d, I p, I q], I N] w fun e w' => ∃ v, e = .returned v ∧ Plans b f g N w v w' := by
  refine V21_calls b f g d p q N w (Plans b f g N w) ?_
  unfold V21
  obtain ⟨rb1, rb2, rf1, rf2, rg1, rg2⟩ := formed_range hf
  refine alc_at fun b2 w1 hb2 hC k1 => ?_
  refine alc_at fun b3 w2 hb3 hN k2 => ?_
  have l1 := hC.lt
  have l2 := hN.lt
  refine ld6 (hC.keep0 k2) ?_
  refine cl_of ok18 (make18 b f g d p q w2) fun e w3 ⟨v, he, k3, hv⟩ => ?_
  rcases hv with ⟨h, _⟩ | ⟨_, A, hAf, hA, rfl, hP⟩
  · rw [hf] at h; cases h
  refine ⟨_, _, _, _, he, ?_⟩
  refine alc_at fun b16 w4 hb4 hF k4 => ?_
  simp only [add_mk, Nat.zero_add, Nat.add_zero]
  have l4 := hF.lt
  refine st_of hF (by simp) rfl fun w5 hF k5 e5 => ?_
  refine st_of hF (by simp) rfl fun w6 hF k6 e6 => ?_
  refine st_of hF (by simp) rfl fun w7 hF k7 e7 => ?_
  simp only [List.set_cons_zero, List.set_cons_succ] at hF
  have hA0 := hA
  obtain ⟨o1, o2, o3, o4, o5, o6⟩ := hA
  have z1 := k1.size
  have z3 := k3.size
  have k37 : Keep None w3 w7 := ((k4.then1 k5 (by omega)).then1 k6 (by omega)).then1 k7 (by omega)
  have k07 := ((k1.then0 k2).then0 k3).then0 k37
  have hN7 := (hN.keep0 k3).keep0 k37
  have hC7 := ((hC.keep0 k2).keep0 k3).keep0 k37
  have hP7 := hP.keep k37 (fun h => h) (fun h => h) (fun h => h) (fun h => h) (fun h => h) (fun h => h)
  have z7 := k37.size
  have e0 : decide (N < 0) = false := decide_eq_false (by omega)
  refine pif_f rfl (ldI_of (hN7.cell 0) (gd_t (by rw [e0]; rfl) (ldI_of (hN7.cell 0) (pif_f (by rw [e0, decide_eq_false (show ¬ N > 1048576 by omega)]; rfl) ?_))))
  refine alc_at fun b26 w9 hb26 hO k9 => ?_
  refine alc_at fun b28 w10 hb28 hn k10 => ?_
  have l9 := hO.lt
  have l10 := hn.lt
  refine st_of hn (by simp) rfl fun w11 hn k11 e11 => ?_
  simp only [List.set_cons_zero] at hn
  have k711 : Keep None w7 w11 := (k9.then0 k10).then1 k11 (by omega)
  have z711 := k711.size
  refine cl_of ok17 (seqf17 w11) fun e w12 ⟨he, hw⟩ => ⟨_, he, ?_⟩
  subst hw
  obtain ⟨D, hD⟩ : ∃ D, D = w12.heap.size := ⟨_, rfl⟩
  rw [← hD]
  obtain ⟨C, hCd⟩ : ∃ C : Ctx, C = ⟨b2, b3, b16, b26, b28⟩ := ⟨_, rfl⟩
  have hCok : C.ok A D := by rw [hCd]; unfold Ctx.ok; dsimp only; omega
  have hAok : A.ok C.b16 := by rw [hCd]; unfold Ids.ok; dsimp only; omega
  have hw0 : w.heap.size ≤ C.b2 := by rw [hCd]; dsimp only; omega
  refine ⟨27, #[], rfl, by kernel_rfl, by decide, ?_⟩
  have kk : ∀ {k : Nat} {n cnt : Int} {op : Option Addr} {oc : Nat} {W W' : World}, PSt w C A D b f g d p q N k n cnt op oc W → Keep (Own2 D) W W' → PSt w C A D b f g d p q N k n cnt op oc W' :=
    fun h hk => h.keep hCok hAok hw0 hk (fun i hi hs => by rcases hs with h | h <;> omega) fun i hi hs => by rcases hs with h | h <;> omega
  rw [hD] at kk
  refine ⟨fun k => lub (k + 1), 1048577, fun k W => (pst b f g k).1 ≤ N ∧ ∃ op oc, PSt w C A w12.heap.size b f g d p q N k (pst b f g k).1 (pst b f g k).1 op oc W,
    fun _ => False, fun _ W => ∃ k, IsK b f g N k ∧ ∃ op oc, PSt w C A w12.heap.size b f g d p q N k (pst b f g k).1 (pst b f g k).1 op oc W,
    seq27 _ (by omega), ?_, ?_, fun _ _ h => h.elim, ?_, ?_, ?_, (fun _ h => h.elim), ?_, trivial⟩
  · rintro k W ⟨h, _⟩
    have := pst_ge (f := f) (g := g) rb1 k
    omega
  · rintro k W W' ⟨h, op, oc, hs⟩ hk
    exact ⟨h, op, oc, kk hs hk⟩
  · rintro id W W' ⟨k, h, op, oc, hs⟩ hk
    exact ⟨k, h, op, oc, kk hs hk⟩
  · intro W hW hsz
    refine ⟨h0, none, 0, ((k07.then0 k711).then0 hW), hsz, ?_, ?_, ?_, ?_, ?_, Vc.Own.nil W 50 2, (fun i ⟨a, h, _⟩ => by cases h), ?_⟩
    · rw [hCd]; exact (hC7.keep0 k711).keep0 hW
    · rw [hCd]; exact (hN7.keep0 k711).keep0 hW
    · rw [hCd]; exact (hF.keep0 k711).keep0 hW
    · rw [hCd]; exact ((hO.keep0 k10).keep1 k11 (by omega)).keep0 hW
    · rw [hCd]; exact hn.keep0 hW
    · have := hP7.keep k711 (fun h => h) (fun h => h) (fun h => h) (fun h => h) (fun h => h) (fun h => h)
      exact this.keep hW (fun h => h) (fun h => h) (fun h => h) (fun h => h) (fun h => h) (fun h => h)
  · rintro k W ⟨hle, op, oc, hs⟩
    rw [← hD] at kk hs ⊢
    refine ⟨Keep.refl _ _, fun W2 hk2 => ?_⟩
    have hs2 := kk hs hk2
    clear kk hs hk2
    have hkN : (k : Int) ≤ N := by have := pst_ge (f := f) (g := g) rb1 k; omega
    have hcfg := hs2.cfg
    have hlim := hs2.lim
    have hcn := hs2.cn
    rw [hCd] at hcfg hlim hcn
    refine ldI_of (hcfg.cell 0) (ldI_of (hlim.cell 0) (ldI_of (hcn.cell 0) ?_))
    obtain ⟨lb1, lb2⟩ := lub_bounds (k + 1) (by omega)
    have hmul : b * (lub (k + 1) : Int) ≤ 1048576 * 1048577 := Int.mul_le_mul rb2 (by omega) (by omega) (by omega)
    have hmul1 : b * 1 ≤ b * (lub (k + 1) : Int) := Int.mul_le_mul_of_nonneg_left (by omega) (by omega)
    have hpn := pst_n b f g k
    have hp0 := (pst_last (f := f) (g := g) rb1 k)
    have e1 : IntKind.wrap .i64 (b * (lub (k + 1) : Int)) = b * (lub (k + 1) : Int) := by rw [IntKind.wrap_i64]; omega
    have e2 : IntKind.wrap .i64 (N - (pst b f g k).1) = N - (pst b f g k).1 := by rw [IntKind.wrap_i64]; omega
    rw [e1, e2]
    refine pif_of (fun hgt => ?_) fun hle2 => ?_
    · have hgt : b * (lub (k + 1) : Int) > N - (pst b f g k).1 := by simpa using hgt
      exact ⟨Keep.refl _ _, k, ⟨hle, by omega⟩, op, oc, hs2⟩
    have hle2 : b * (lub (k + 1) : Int) ≤ N - (pst b f g k).1 := by simp at hle2; omega
    have e3 : IntKind.wrap .i64 ((pst b f g k).1 + b * (lub (k + 1) : Int)) = (pst b f g (k + 1)).1 := by rw [IntKind.wrap_i64]; omega
    have hs0 := hs2
    obtain ⟨s1, s2, s3, s4, s5, s6, s7, s8, s9, s10⟩ := hs2
    obtain ⟨c1, c2, c3, c4, c5, c6⟩ := hCok
    obtain ⟨a1, a2, a3, a4, a5, a6⟩ := hAok
    have hCb : b28 = C.b28 := by rw [hCd]
    have hCb3 : b16 = C.b16 := by rw [hCd]
    have hCb4 : b26 = C.b26 := by rw [hCd]
    rw [hCb, hCb3, hCb4]
    refine ldI_of (s7.cell 0) ?_
    rw [e3]
    simp only [add_mk, Nat.zero_add, Nat.add_zero]
    refine st_of s7 (by simp) rfl fun W3 s7 k3' e3' => ?_
    simp only [List.set_cons_zero] at s7
    obtain ⟨m, hm⟩ : ∃ m : Nat, b * (lub (k + 1) : Int) = m := ⟨(b * (lub (k + 1) : Int)).toNat, by omega⟩
    rw [hm] at hpn hle2 hmul ⊢
    have ko : Keep (Oth D) W2 W3 := k3'.mono fun i _ h => by have : i = C.b28 := h; unfold Oth; omega
    have hs3 : PSt w C A D b f g d p q N k (pst b f g (k + 1)).1 (pst b f g k).1 op oc W3 := by
      have n1 : ∀ x, x ≠ C.b28 → ¬ One C.b28 x := fun x hx h => hx h
      exact ⟨s1.trans k3' fun i hi h => by have : i = C.b28 := h; omega, by omega, s3.keep1 k3' (by omega), s4.keep1 k3' (by omega), s5.keep1 k3' (by omega), s6.keep1 k3' (by omega), s7,
        s8.keep k3' fun i hi h => by have := s9 i hi; have : i = C.b28 := h; omega, s9, s10.keep k3' (n1 _ (by omega)) (n1 _ (by omega)) (n1 _ (by omega)) (n1 _ (by omega)) (n1 _ (by omega)) (n1 _ (by omega))⟩
    refine lp_of (fun s W => ∃ i : Nat, s.1 = i ∧ i ≤ m ∧ Keep (Oth D) W2 W ∧ PSt w C A D b f g d p q N k (pst b f g (k + 1)).1 ((pst b f g k).1 + i) op oc W) (fun s _ => (m - s.1).toNat)
      ⟨0, rfl, Nat.zero_le _, ko, by rw [show (pst b f g k).1 + ((0 : Nat) : Int) = (pst b f g k).1 by omega]; exact hs3⟩ ?_
    rintro ⟨i', ⟨⟩⟩ W4 ⟨i, rfl, hi, ko4, hs4⟩
    simp only []
    have hz2 := ko4.size
    have hAm : A.ok C.b16 := ⟨a1, a2, a3, a4, a5, a6⟩
    refine pif_of (fun hlt => ?_) fun hge => ?_
    · have hlt : i < m := by simpa using hlt
      refine ldV_of (hs4.fns.cell 0) ?_
      refine clF_of (cl_of ok28 (conflict28 hAm hs4.rep) fun e W5 ⟨he, k5, hr5⟩ => ⟨he, ?_⟩)
      have ew : IntKind.wrap .i64 ((i : Int) + 1) = ((i + 1 : Nat) : Int) := by rw [IntKind.wrap_i64]; omega
      have ew2 : wr ((pst b f g k).1 + i + 1) = (pst b f g k).1 + ((i + 1 : Nat) : Int) := by show IntKind.wrap .i64 _ = _; rw [IntKind.wrap_i64]; omega
      rw [ew]
      rw [ew2] at hr5
      refine ⟨⟨i + 1, rfl, hlt, ko4.trans k5 fun j _ h => ?_, ?_⟩, by omega⟩
      · have : j = A.c := h; unfold Oth; omega
      · obtain ⟨s1, s2, s3, s4, s5, s6, s7, s8, s9, s10⟩ := hs4
        exact ⟨s1.trans k5 fun i hi h => by have : i = A.c := h; omega, by have := k5.size; omega, s3.keep1 k5 (by omega), s4.keep1 k5 (by omega), s5.keep1 k5 (by omega), s6.keep1 k5 (by omega), s7.keep1 k5 (by omega),
          s8.keep k5 fun i hi h => by have := s9 i hi; have : i = A.c := h; omega, s9, hr5⟩
    · have hge : i = m := by simp at hge; omega
      subst hge
      rw [← hpn] at hs4
      have hd4 : PSt w C A D b f g d p q N k (pst b f g (k + 1)).1 (pst b f g (k + 1)).1 op oc W4.drew := by
        obtain ⟨s1, s2, s3, s4, s5, s6, s7, s8, s9, s10⟩ := hs4
        exact ⟨s1.drew, s2, s3, s4, s5, s6, s7, s8, s9, ⟨s10.c, s10.r, s10.l, s10.k, s10.j, s10.f⟩⟩
      have kod : Keep (Oth D) W2 W4.drew := ko4.drew
      generalize W4.drew = W4 at hd4 kod ⊢
      clear ko4 hs4 hs3 hs0 s1 s2 s3 s4 s5 s6 s7 s8 s9 s10 hz2 ko
      refine ldC_of (hd4.out.cell 0) (ldI_of (hd4.cn.cell 0) (ldV_of (hd4.fns.cell 2) ?_))
      refine clF_of (cl_of ok30 (clear30 hAm hd4.rep) fun e W5 ⟨he, k5, hr5⟩ => ⟨_, he, ?_⟩)
      have hj : (pst b f g k).2.2.1 * g ≤ 1048576 * 1048576 := Int.mul_le_mul (by omega) rg2 (by omega) (by omega)
      have hj0 : 0 ≤ (pst b f g k).2.2.1 * g := Int.mul_nonneg (by omega) (by omega)
      have ec : clr f g (pst b f g (k + 1)).1 (pst b f g k).2.1 (pst b f g k).2.2.1 = !decide ((pst b f g (k + 1)).1 - (pst b f g k).2.1 < f + (pst b f g k).2.2.1 * g) := by
        unfold clr
        have x1 : wr ((pst b f g (k + 1)).1 - (pst b f g k).2.1) = (pst b f g (k + 1)).1 - (pst b f g k).2.1 := by show IntKind.wrap .i64 _ = _; rw [IntKind.wrap_i64]; omega
        have x2 : wr ((pst b f g k).2.2.1 * g) = (pst b f g k).2.2.1 * g := by show IntKind.wrap .i64 _ = _; rw [IntKind.wrap_i64]; omega
        rw [x1, x2]
        have x3 : wr (f + (pst b f g k).2.2.1 * g) = f + (pst b f g k).2.2.1 * g := by show IntKind.wrap .i64 _ = _; rw [IntKind.wrap_i64]; omega
        rw [x3]
      have n5 : ∀ x, x ≠ A.l → x ≠ A.j → ¬ (fun i => i = A.l ∨ i = A.j) x := fun x h1 h2 h => h.elim h1 h2
      have h5 : ∀ {bb : Nat} {cs : List Value} {t : TypeId}, bb ≠ A.l → bb ≠ A.j → Blk W4 bb cs t → Blk W5 bb cs t := fun h1 h2 h => h.keep k5 (n5 _ h1 h2)
      have hcn5 := h5 (by omega) (by omega) hd4.cn
      have hout5 := h5 (by omega) (by omega) hd4.out
      refine ⟨ldI_of (hcn5.cell 0) rfl, ldC_of (hout5.cell 0) rfl, ?_⟩
      refine alc_at fun b62 W6 hb62 h62 k6 => ?_
      have hout6 := hout5.keep0 k6
      refine ⟨ldC_of (hout6.cell 0) rfl, ?_⟩
      have hown5 : Vc.Own W5 50 2 op k oc (bcells (beats b f g k)) := hd4.own.keep k5 fun i hi h => by have := hd4.fresh i hi; rcases h with h | h <;> omega
      have hz5 := k5.size
      have hz6 := k6.size
      have hz4 := hd4.sz
      have hnews : News W6 2 (some ⟨b62, 0, none⟩) 1 1 [I (pst b f g (k + 1)).1, .bool (clr f g (pst b f g (k + 1)).1 (pst b f g k).2.1 (pst b f g k).2.2.1)] :=
        Or.inr ⟨_, rfl, rfl, fun j u hu => by rw [add_mk, Nat.zero_add, h62.cell]; exact hu⟩
      refine app_of2 (e := 50) (sz := 2) (z := .agg #[I 0, .bool false]) (B := 16) Try.underlying43 (by kernel_rfl) rfl (by omega) (hown5.keep0 k6) hnews (fun u hu => ?_) (by simp only [maxLen]; omega) (by omega) fun p' c' W7 hO7 hd7 => ?_
      · simp only [List.mem_cons, List.not_mem_nil, or_false] at hu
        rcases hu with rfl | rfl <;> rfl
      have hk67 : Keep (fun i => D + 2 ≤ i) W6 W7 ∧ ∀ i, ob p' i → D + 2 ≤ i := by
        rcases hd7 with ⟨x1, _, _, x2⟩ | ⟨x1, x2⟩
        · exact ⟨x2.mono fun i _ hi => hd4.fresh i hi, fun i hi => by rw [x1] at hi; exact hd4.fresh i hi⟩
        · exact ⟨x2.none, fun i hi => by have := x1 i hi; omega⟩
      obtain ⟨hk7, hf7⟩ := hk67
      have h7 : ∀ {bb : Nat} {cs : List Value} {t : TypeId}, bb < D → Blk W6 bb cs t → Blk W7 bb cs t := fun h1 h => h.keep hk7 fun h => by have : D + 2 ≤ _ := h; omega
      refine st_of (h7 (by omega) hout6) (by simp) rfl fun W8 hout8 k8 e8 => ?_
      simp only [List.set_cons_zero] at hout8
      rw [← beats_succ_cells ec] at hO7
      have n8 : ∀ x, x ≠ C.b26 → ¬ One C.b26 x := fun x hx h => hx h
      have n7 : ∀ x, x < D → ¬ (fun i => D + 2 ≤ i) x := fun x hx h => by have : D + 2 ≤ x := h; omega
      have up : ∀ {bb : Nat} {cs : List Value} {t : TypeId}, bb < D → bb ≠ A.l → bb ≠ A.j → bb ≠ C.b26 → Blk W4 bb cs t → Blk W8 bb cs t := fun h1 h2 h3 h4 h =>
        (h7 h1 ((h5 h2 h3 h).keep0 k6)).keep1 k8 h4
      have hz7 := hk7.size
      have kA : Keep (Oth D) W2 W8 := (((kod.trans k5 fun i _ h => by rcases h with h | h <;> (unfold Oth; omega)).then0 k6).trans hk7 fun i _ h => by have : D + 2 ≤ i := h; (unfold Oth; omega)).trans k8 fun i _ h => by have : i = C.b26 := h; (unfold Oth; omega)
      have kB : Keep None w W8 := (((hd4.kp.trans k5 fun i hi h => by rcases h with h | h <;> omega).then0 k6).trans hk7 fun i hi h => by have : D + 2 ≤ i := h; omega).trans k8 fun i hi h => by have : i = C.b26 := h; omega
      refine ⟨kA, ?_, p', c', ?_⟩
      · omega
      · refine ⟨kB, by omega, up (by omega) (by omega) (by omega) (by omega) hd4.cfg, up (by omega) (by omega) (by omega) (by omega) hd4.lim, up (by omega) (by omega) (by omega) (by omega) hd4.fns, hout8,
          up (by omega) (by omega) (by omega) (by omega) hd4.cn, hO7.keep k8 fun i hi h => by have := hf7 i hi; have : i = C.b26 := h; omega, hf7, ?_⟩
        · have := hr5.keep k6 (fun h => h) (fun h => h) (fun h => h) (fun h => h) (fun h => h) (fun h => h)
          have := this.keep hk7 (n7 _ (by omega)) (n7 _ (by omega)) (n7 _ (by omega)) (n7 _ (by omega)) (n7 _ (by omega)) (n7 _ (by omega))
          have := this.keep k8 (n8 _ (by omega)) (n8 _ (by omega)) (n8 _ (by omega)) (n8 _ (by omega)) (n8 _ (by omega)) (n8 _ (by omega))
          rw [pst_cl ec, pst_ct ec]
          have e9 : wr ((pst b f g k).2.2.1 + 1) = (pst b f g k).2.2.1 + 1 := by show IntKind.wrap .i64 _ = _; rw [IntKind.wrap_i64]; omega
          rw [e9] at this
          exact this
  · rintro W ⟨k, hK, op, oc, hs⟩ hdef
    rw [← hD] at hs
    have hcb : b26 = C.b26 := by rw [hCd]
    rw [hcb]
    refine ldC_of (hs.out.cell 0) ⟨hdef, k, op, oc, hK, rfl, ?_, ?_, ?_⟩
    · exact hs.kp.trans (Keep.putObj (S := One D) rfl) fun i hi h => by have : i = D := h; have := hCok.2.2.2.2.2; omega
    · exact hs.own.keep (Keep.putObj (S := One D) rfl) fun i hi h => by have := hs.fresh i hi; have : i = D := h; omega
    · intro i hi; have := hs.fresh i hi; omega
end Go.Proofs.Ytkpoagdhekimpaa.Pace
