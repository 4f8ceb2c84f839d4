/- PaceMakes: every answer of every script on two Paces: the law itself. -/
import Derived.Test.YtkpoagdhekimpaaMakes2
set_option linter.unusedVariables false
set_option linter.unusedSimpArgs false
set_option maxRecDepth 100000
namespace Go.Proofs.Ytkpoagdhekimpaa.Pace
open Go Go.Proofs.Ytkpoagdhekimpaa.Vc Go.Proofs.Ytkpoagdhekimpaa.T

/-- a list of ints that comes in -/
def SlI (w : World) (p : Option Addr) (n : Nat) : Prop := ∀ i : Nat, i < n → ∃ a x, p = some a ∧ w.cell? (a.add i) = some (I x) ∧ (Lit.int .i64 x).wf = true
theorem ixA_sl {w : World} {p : Option Addr} {n : Nat} {v : Int} {K : Addr → Prop} (h : SlI w p n) (h0 : 0 ≤ v) (h1 : v < n) (hK : ∀ a x, w.cell? a = some (I x) → K a) : ixA p n v 1 K := by
  obtain ⟨a, x, rfl, hc, _⟩ := h v.toNat (by omega)
  refine ⟨h0, h1, ?_⟩
  show K _
  rw [Nat.mul_one]
  exact hK _ x hc

def L7 (w : World) (v : Value) (w' : World) : Prop := v = .bool true ∧ Keep None w w'

theorem law7 (b f g : Int) (d : Nat) (p q : Int) (b' f' g' : Int) (d' : Nat) (p' q' : Int) (sp : Option Addr) (n c : Nat) (w : World) (hn : n ≤ 9223372036854775807) (hS : SlI w sp n) :
    Calls Try.prog 7 #[.agg #[I b, I f, I g, F d, I p, I q], .agg #[I b', I f', I g', F d', I p', I q'], .slice sp n c] w fun e w' => e = .returned (.bool true) ∧ RowKit.Below w.heap.size w w' := by
  refine (V7_calls b f g d p q b' f' g' d' p' q' sp n c w (L7 w) ?_).mono fun e w' ⟨v, he, hv, hk⟩ => ⟨by rw [he, hv], hk.below0⟩
  unfold V7
  refine alc_at fun b2 w1 hb2 hC k1 => ?_
  have l1 := hC.lt
  refine alc_at fun b3 w2 hb3 hD k2 => ?_
  have l2 := hD.lt
  simp only [add_mk, Nat.zero_add, Nat.add_zero]
  have z1 := k1.size
  have z2 := k2.size
  replace hC := hC.keep0 k2
  have hK := k1.then0 k2
  refine ldI_of (hC.cell 0) (ldI_of (hC.cell 1) (ldI_of (hC.cell 2) (ldF_of (hC.cell 3) (ldI_of (hC.cell 4) (ldI_of (hC.cell 5) ?_)))))
  refine cl_of ok18 (make18 b f g d p q w2) fun e w3 ⟨v1, he1, k3, hv1⟩ => ?_
  have z3 := k3.size
  replace hC := hC.keep0 k3
  replace hD := hD.keep0 k3
  replace hK := hK.then0 k3
  -- the first Make's answer, whichever it is
  obtain ⟨y1, y2, y3, y4, rfl, o1, o2, o3, hy⟩ : ∃ y1 y2 y3 y4, v1 = .tuple #[.agg #[y1, y2, y3], I y4] ∧ y1.oneCell' = true ∧ y2.oneCell' = true ∧ y3.oneCell' = true ∧
      ((formed b f g d p = false ∧ y1 = .nilFunc ∧ y2 = .nilFunc ∧ y3 = .nilFunc ∧ y4 = 1) ∨ (formed b f g d p = true ∧ y4 = 0 ∧ ∃ A : Ids, w2.heap.size ≤ A.f ∧ A.ok w3.heap.size ∧ y1 = fc A ∧ y2 = fr A ∧ y3 = fl A ∧ PRep w3 A b f g 0 0 0 1 0)) := by
    rcases hv1 with ⟨h1, rfl⟩ | ⟨h1, A, hA1, hA2, rfl, hA3⟩
    · exact ⟨_, _, _, _, rfl, rfl, rfl, rfl, Or.inl ⟨h1, rfl, rfl, rfl, rfl⟩⟩
    · exact ⟨_, _, _, _, rfl, rfl, rfl, rfl, Or.inr ⟨h1, rfl, A, hA1, hA2, rfl, rfl, rfl, hA3⟩⟩
  refine ⟨_, _, _, _, he1, ?_⟩
  refine alc_at fun b16 w4 hb16 hP k4 => ?_
  have l4 := hP.lt
  have z4 := k4.size
  refine st_of hP (by simp) o1 fun w5 hP k5 s5 => ?_
  refine st_of hP (by simp) o2 fun w6 hP k6 s6 => ?_
  refine st_of hP (by simp) o3 fun w7 hP k7 s7 => ?_
  have kA : Keep None w3 w7 := ((k4.then1 k5 (by omega)).then1 k6 (by omega)).then1 k7 (by omega)
  replace hC := hC.keep0 kA
  replace hD := hD.keep0 kA
  replace hK := hK.then0 kA
  have z7 := kA.size
  refine ldI_of (hD.cell 0) (ldI_of (hD.cell 1) (ldI_of (hD.cell 2) (ldF_of (hD.cell 3) (ldI_of (hD.cell 4) (ldI_of (hD.cell 5) ?_)))))
  refine cl_of ok18 (make18 b' f' g' d' p' q' w7) fun e w8 ⟨v2, he2, k8, hv2⟩ => ?_
  have z8 := k8.size
  replace hC := hC.keep0 k8
  replace hD := hD.keep0 k8
  replace hP := hP.keep0 k8
  replace hK := hK.then0 k8
  obtain ⟨u1, u2, u3, u4, rfl, q1, q2, q3, hu⟩ : ∃ y1 y2 y3 y4, v2 = .tuple #[.agg #[y1, y2, y3], I y4] ∧ y1.oneCell' = true ∧ y2.oneCell' = true ∧ y3.oneCell' = true ∧
      ((formed b' f' g' d' p' = false ∧ y4 = 1) ∨ (formed b' f' g' d' p' = true ∧ y4 = 0 ∧ ∃ A : Ids, w7.heap.size ≤ A.f ∧ A.ok w8.heap.size ∧ y1 = fc A ∧ y2 = fr A ∧ y3 = fl A ∧ PRep w8 A b' f' g' 0 0 0 1 0)) := by
    rcases hv2 with ⟨h1, rfl⟩ | ⟨h1, A, hA1, hA2, rfl, hA3⟩
    · exact ⟨_, _, _, _, rfl, rfl, rfl, rfl, Or.inl ⟨h1, rfl⟩⟩
    · exact ⟨_, _, _, _, rfl, rfl, rfl, rfl, Or.inr ⟨h1, rfl, A, hA1, hA2, rfl, rfl, rfl, hA3⟩⟩
  refine ⟨_, _, _, _, he2, ?_⟩
  refine alc_at fun b29 w9 hb29 hQ k9 => ?_
  have l9 := hQ.lt
  have z9 := k9.size
  refine st_of hQ (by simp) q1 fun w10 hQ k10 s10 => ?_
  refine st_of hQ (by simp) q2 fun w11 hQ k11 s11 => ?_
  refine st_of hQ (by simp) q3 fun w12 hQ k12 s12 => ?_
  have kB : Keep None w8 w12 := ((k9.then1 k10 (by omega)).then1 k11 (by omega)).then1 k12 (by omega)
  replace hC := hC.keep0 kB
  replace hD := hD.keep0 kB
  replace hP := hP.keep0 kB
  replace hK := hK.then0 kB
  have z12 := kB.size
  refine ldI_of (hC.cell 0) (ldI_of (hC.cell 1) (ldI_of (hC.cell 2) (ldF_of (hC.cell 3) (ldI_of (hC.cell 4) (ldI_of (hC.cell 5) ?_)))))
  refine cl_of ok19 (make19 b f g d p q w12) fun e w13 ⟨v3, he3, k13, hv3⟩ => ?_
  have z13 := k13.size
  replace hD := hD.keep0 k13
  replace hP := hP.keep0 k13
  replace hQ := hQ.keep0 k13
  replace hK := hK.then0 k13
  obtain ⟨m1, t1, rfl, ht⟩ : ∃ m1 t1, v3 = .tuple #[.pointer m1, I t1] ∧ ((formed b f g d p = false ∧ t1 = 1) ∨ (formed b f g d p = true ∧ t1 = 0 ∧ ∃ m, m1 = some ⟨m, 0, none⟩ ∧ w12.heap.size ≤ m ∧ m < w13.heap.size ∧ MRep w13 m b f g 0 0 0 0)) := by
    rcases hv3 with ⟨h1, rfl⟩ | ⟨h1, m, hm1, hm2, rfl, hm3⟩
    · exact ⟨_, _, rfl, Or.inl ⟨h1, rfl⟩⟩
    · exact ⟨_, _, rfl, Or.inr ⟨h1, rfl, m, rfl, hm1, hm2, hm3⟩⟩
  refine ⟨_, _, he3, ?_⟩
  refine ldI_of (hD.cell 0) (ldI_of (hD.cell 1) (ldI_of (hD.cell 2) (ldF_of (hD.cell 3) (ldI_of (hD.cell 4) (ldI_of (hD.cell 5) ?_)))))
  refine cl_of ok19 (make19 b' f' g' d' p' q' w13) fun e w14 ⟨v4, he4, k14, hv4⟩ => ?_
  have z14 := k14.size
  replace hP := hP.keep0 k14
  replace hQ := hQ.keep0 k14
  replace hK := hK.then0 k14
  obtain ⟨m2, t2, rfl, ht2⟩ : ∃ m1 t1, v4 = .tuple #[.pointer m1, I t1] ∧ ((formed b' f' g' d' p' = false ∧ t1 = 1) ∨ (formed b' f' g' d' p' = true ∧ t1 = 0 ∧ ∃ m, m1 = some ⟨m, 0, none⟩ ∧ w13.heap.size ≤ m ∧ m < w14.heap.size ∧ MRep w14 m b' f' g' 0 0 0 0)) := by
    rcases hv4 with ⟨h1, rfl⟩ | ⟨h1, m, hm1, hm2, rfl, hm3⟩
    · exact ⟨_, _, rfl, Or.inl ⟨h1, rfl⟩⟩
    · exact ⟨_, _, rfl, Or.inr ⟨h1, rfl, m, rfl, hm1, hm2, hm3⟩⟩
  refine ⟨_, _, he4, ?_⟩
  have hyt : y4 = t1 := by rcases hy with ⟨h, _, _, _, e⟩ | ⟨h, e, _⟩ <;> rcases ht with ⟨h', e'⟩ | ⟨h', e', _⟩ <;> simp_all
  have hut : u4 = t2 := by rcases hu with ⟨h, e⟩ | ⟨h, e, _⟩ <;> rcases ht2 with ⟨h', e'⟩ | ⟨h', e', _⟩ <;> simp_all
  refine pif_f (by rw [hyt, hut]; simp) ?_
  rcases hy with ⟨hf1, rfl, rfl, rfl, rfl⟩ | ⟨hf1, rfl, A, hA1, hA2, rfl, rfl, rfl, hA3⟩
  · refine gd_t rfl (ldV_of (hP.cell 0) (gd_t rfl ⟨rfl, gd_t rfl (ldV_of (hP.cell 1) (gd_t rfl ⟨rfl, gd_t rfl (ldV_of (hP.cell 2) (gd_t rfl ⟨rfl, ?_⟩))⟩))⟩))
    exact pif_f rfl (pif_t rfl ⟨rfl, hK⟩)
  refine gd_f rfl (gd_f rfl (gd_f rfl (gd_f rfl (gd_f rfl (gd_f rfl (pif_f rfl ?_))))))
  rcases hu with ⟨hf2, rfl⟩ | ⟨hf2, rfl, A', hB1, hB2, rfl, rfl, rfl, hB3⟩
  · exact pif_t rfl ⟨rfl, hK⟩
  refine pif_f rfl ?_
  rcases ht with ⟨h, _⟩ | ⟨_, rfl, m1, rfl, hm1, hm1', hM1⟩
  · rw [hf1] at h; cases h
  rcases ht2 with ⟨h, _⟩ | ⟨_, rfl, m2, rfl, hm2, hm2', hM2⟩
  · rw [hf2] at h; cases h
  refine ldV_of (hP.cell 0) ⟨rfl, gd_t rfl (ldV_of (hP.cell 1) (gd_t rfl ⟨rfl, gd_t rfl (ldV_of (hP.cell 2) (gd_t rfl ⟨rfl, ?_⟩))⟩))⟩
  refine gd_t rfl (ldV_of (hQ.cell 0) (gd_t rfl ⟨rfl, gd_t rfl (ldV_of (hQ.cell 1) (gd_t rfl ⟨rfl, gd_t rfl (ldV_of (hQ.cell 2) (gd_t rfl ⟨rfl, ?_⟩))⟩))⟩))
  refine pif_f rfl ?_
  -- the loop
  unfold Ids.ok at hA2 hB2
  have ok1 : A.ok m1 := by unfold Ids.ok; omega
  have ok2 : A'.ok m2 := by unfold Ids.ok; omega
  have k8_14 : Keep None w3 w14 := (((kA.then0 k8).then0 kB).then0 k13).then0 k14
  have n0 : ∀ x : Nat, ¬ None x := fun _ h => h
  have bth1 : Both w14 A m1 := ⟨b, f, g, 0, 0, 0, 1, 0, 0, 0, 0, hA3.keep k8_14 (n0 _) (n0 _) (n0 _) (n0 _) (n0 _) (n0 _), hM1.keep k14 (n0 _), rfl, rfl, rfl⟩
  have bth2 : Both w14 A' m2 := ⟨b', f', g', 0, 0, 0, 1, 0, 0, 0, 0, hB3.keep ((kB.then0 k13).then0 k14) (n0 _) (n0 _) (n0 _) (n0 _) (n0 _) (n0 _), hM2, rfl, rfl, rfl⟩
  have F1 : ∀ i, Foot A m1 i → w.heap.size ≤ i ∧ i ≠ b16 ∧ i ≠ b29 ∧ ¬ Foot A' m2 i ∧ i ≠ A'.f := fun i h => by
    unfold Foot at h ⊢; omega
  have F2 : ∀ i, Foot A' m2 i → w.heap.size ≤ i ∧ i ≠ b16 ∧ i ≠ b29 ∧ ¬ Foot A m1 i ∧ i ≠ A.f := fun i h => by
    unfold Foot at h ⊢; omega
  refine lp_of (fun s w' => 0 ≤ s.1 ∧ s.1 ≤ n ∧ Keep None w w' ∧ Both w' A m1 ∧ Both w' A' m2 ∧ Blk w' b16 [fc A, fr A, fl A] 34 ∧ Blk w' b29 [fc A', fr A', fl A'] 34 ∧ w14.heap.size ≤ w'.heap.size) (fun s _ => (n - s.1).toNat)
    ⟨by simp, by simp, hK, bth1, bth2, hP, hQ, Nat.le_refl _⟩ ?_
  rintro ⟨i, ⟨⟩⟩ w15 ⟨i0, i1, k15, c1, c2, g1, g2, z15⟩
  simp only [] at i0 i1 ⊢
  -- a step of the first, of the second
  have st1 : ∀ (wa : World) (x : Int) {K : World → Prop}, Keep None w wa → Both wa A m1 → Both wa A' m2 → Blk wa b16 [fc A, fr A, fl A] 34 → Blk wa b29 [fc A', fr A', fl A'] 34 → w14.heap.size ≤ wa.heap.size →
      (∀ wb, Keep None w wb → Both wb A m1 → Both wb A' m2 → Blk wb b16 [fc A, fr A, fl A] 34 → Blk wb b29 [fc A', fr A', fl A'] 34 → w14.heap.size ≤ wb.heap.size → K wb) →
      cl Try.prog 20 [.agg #[fc A, fr A, fl A], .pointer (some ⟨m1, 0, none⟩), .int .i64 x] wa fun e wb => e = .returned (.bool true) ∧ K wb := fun wa x K h1 h2 h3 h4 h5 h6 hk => by
    refine cl_of ok20 (step20 x ok1 h2 (by omega)) fun e wb ⟨he, kk, hb⟩ => ⟨he, hk wb ?_ hb (h3.keep kk fun i hi hf => ?_) (h4.keep kk fun hf => (F1 _ hf).2.1 rfl) (h5.keep kk fun hf => (F1 _ hf).2.2.1 rfl) (Nat.le_trans h6 kk.size)⟩
    · exact h1.trans kk fun i hi hf => by have := (F1 _ hf).1; omega
    · rcases hi with hi | hi
      · exact (F1 _ hf).2.2.2.1 hi
      · exact (F1 _ hf).2.2.2.2 hi
  have st2 : ∀ (wa : World) (x : Int) {K : World → Prop}, Keep None w wa → Both wa A m1 → Both wa A' m2 → Blk wa b16 [fc A, fr A, fl A] 34 → Blk wa b29 [fc A', fr A', fl A'] 34 → w14.heap.size ≤ wa.heap.size →
      (∀ wb, Keep None w wb → Both wb A m1 → Both wb A' m2 → Blk wb b16 [fc A, fr A, fl A] 34 → Blk wb b29 [fc A', fr A', fl A'] 34 → w14.heap.size ≤ wb.heap.size → K wb) →
      cl Try.prog 20 [.agg #[fc A', fr A', fl A'], .pointer (some ⟨m2, 0, none⟩), .int .i64 x] wa fun e wb => e = .returned (.bool true) ∧ K wb := fun wa x K h1 h2 h3 h4 h5 h6 hk => by
    refine cl_of ok20 (step20 x ok2 h3 (by omega)) fun e wb ⟨he, kk, hb⟩ => ⟨he, hk wb ?_ (h2.keep kk fun i hi hf => ?_) hb (h4.keep kk fun hf => (F2 _ hf).2.1 rfl) (h5.keep kk fun hf => (F2 _ hf).2.2.1 rfl) (Nat.le_trans h6 kk.size)⟩
    · exact h1.trans kk fun i hi hf => by have := (F2 _ hf).1; omega
    · rcases hi with hi | hi
      · exact (F2 _ hf).2.2.2.1 hi
      · exact (F2 _ hf).2.2.2.2 hi
  have clm : ∀ {k : FuncId} {args : List Value} {wa : World} {R R' : Ending → World → Prop}, cl Try.prog k args wa R → (∀ e wb, R e wb → R' e wb) → cl Try.prog k args wa R' := fun h hr => ⟨h.1, h.2.mono hr⟩
  have dr : ∀ {wa : World} {A : Ids} {m : Nat}, Both wa A m → Both wa.drew A m := fun h => by
    obtain ⟨bs, f, g, n, r, l, k, j, s, rs, h, h1, h2, h3⟩ := h
    exact ⟨bs, f, g, n, r, l, k, j, s, rs, h, ⟨h1.c.drew, h1.r.drew, h1.l.drew, h1.k.drew, h1.j.drew, h1.f⟩, h2, h3⟩
  refine pif_of (fun hlt => ?_) fun hge => ?_
  · have hlt : i < n := by simpa using hlt
    refine ldV_of (g1.drew.cell 0) (ldV_of (g1.drew.cell 1) (ldV_of (g1.drew.cell 2) ?_))
    refine ixA_sl hS i0 hlt fun a x hx => ?_
    have rd : ∀ {wa : World}, Keep None w wa → wa.cell? a = some (I x) := fun h => h.cell hx (n0 _)
    refine ldI_of (rd k15.drew) ?_
    refine clm (st1 w15.drew _ (K := fun wb => Keep None w wb ∧ Both wb A m1 ∧ Both wb A' m2 ∧ Blk wb b16 [fc A, fr A, fl A] 34 ∧ Blk wb b29 [fc A', fr A', fl A'] 34 ∧ w14.heap.size ≤ wb.heap.size)
      k15.drew (dr c1) (dr c2) g1.drew g2.drew z15 (fun wb a1 a2 a3 a4 a5 a6 => ⟨a1, a2, a3, a4, a5, a6⟩)) fun e w16 ⟨he, k16, d1, d2, i1', i2', z16⟩ => ⟨true, he, ?_⟩
    have ew : IntKind.wrap .i64 (i + 1) = i + 1 := by rw [IntKind.wrap_i64]; omega
    refine jn_of ?_
    refine ixA_sl hS i0 hlt fun a x hx => ?_
    have rd : ∀ {wa : World}, Keep None w wa → wa.cell? a = some (I x) := fun h => h.cell hx (n0 _)
    refine ldI_of (rd k16) ?_
    refine pif_of (fun _ => ?_) fun _ => ?_
    · refine ldV_of (i2'.drew.cell 0) (ldV_of (i2'.drew.cell 1) (ldV_of (i2'.drew.cell 2) ?_))
      refine ixA_sl hS i0 hlt fun a x hx => ?_
      have rd : ∀ {wa : World}, Keep None w wa → wa.cell? a = some (I x) := fun h => h.cell hx (n0 _)
      refine ldI_of (rd k16.drew) ?_
      refine clm (st2 w16.drew _ (K := fun wb => Keep None w wb ∧ Both wb A m1 ∧ Both wb A' m2 ∧ Blk wb b16 [fc A, fr A, fl A] 34 ∧ Blk wb b29 [fc A', fr A', fl A'] 34 ∧ w14.heap.size ≤ wb.heap.size)
        k16.drew (dr d1) (dr d2) i1'.drew i2'.drew z16 (fun wb a1 a2 a3 a4 a5 a6 => ⟨a1, a2, a3, a4, a5, a6⟩)) fun e w17 ⟨he, k17, e1, e2, j1, j2, z17⟩ => ⟨true, he, ?_⟩
      refine pif_f rfl ?_
      simp only [ew]
      exact ⟨⟨by omega, by omega, k17, e1, e2, j1, j2, z17⟩, by omega⟩
    · refine pif_f rfl ?_
      simp only [ew]
      exact ⟨⟨by omega, by omega, k16, d1, d2, i1', i2', z16⟩, by omega⟩
  · refine ldV_of (g1.cell 0) (ldV_of (g1.cell 1) (ldV_of (g1.cell 2) ?_))
    refine clm (st1 w15 _ (K := fun wb => Keep None w wb ∧ Both wb A m1 ∧ Both wb A' m2 ∧ Blk wb b16 [fc A, fr A, fl A] 34 ∧ Blk wb b29 [fc A', fr A', fl A'] 34 ∧ w14.heap.size ≤ wb.heap.size)
      k15 c1 c2 g1 g2 z15 (fun wb a1 a2 a3 a4 a5 a6 => ⟨a1, a2, a3, a4, a5, a6⟩)) fun e w16 ⟨he, k16, d1, d2, i1', i2', z16⟩ => ⟨true, he, ?_⟩
    refine gd_t rfl (ldV_of (i1'.cell 0) (ldV_of (i1'.cell 1) (ldV_of (i1'.cell 2) ?_)))
    refine gd_t rfl ?_
    refine clm (st1 w16 _ (K := fun wb => Keep None w wb ∧ Both wb A m1 ∧ Both wb A' m2 ∧ Blk wb b16 [fc A, fr A, fl A] 34 ∧ Blk wb b29 [fc A', fr A', fl A'] 34 ∧ w14.heap.size ≤ wb.heap.size)
      k16 d1 d2 i1' i2' z16 (fun wb a1 a2 a3 a4 a5 a6 => ⟨a1, a2, a3, a4, a5, a6⟩)) fun e w17 ⟨he, k17, e1, e2, j1, j2, z17⟩ => ⟨true, he, ?_⟩
    refine gd_t rfl (ldV_of (j1.cell 0) (ldV_of (j1.cell 1) (ldV_of (j1.cell 2) ?_)))
    refine gd_t rfl ?_
    refine clm (st1 w17 _ (K := fun wb => Keep None w wb)
      k17 e1 e2 j1 j2 z17 (fun wb a1 a2 a3 a4 a5 a6 => a1)) fun e w18 ⟨he, k18⟩ => ⟨true, he, ?_⟩
    exact ⟨rfl, k18⟩
end Go.Proofs.Ytkpoagdhekimpaa.Pace
