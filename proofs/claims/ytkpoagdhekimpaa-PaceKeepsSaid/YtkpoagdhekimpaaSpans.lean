/- PaceSpans: its walk. -/
import Derived.Test.YtkpoagdhekimpaaPlan2
import Derived.Test.YtkpoagdhekimpaaDoubles
set_option linter.unusedVariables false
set_option linter.unusedSimpArgs false
set_option maxRecDepth 100000
namespace Go.Proofs.Ytkpoagdhekimpaa.Pace
open Go Go.Proofs.Ytkpoagdhekimpaa.Vc Go.Proofs.Ytkpoagdhekimpaa.T

/-- the first n numbers -/
def lubs (n : Nat) : List Value := (List.range n).map fun i => I (lub (i + 1))
theorem lubs_succ (n : Nat) : lubs (n + 1) = lubs n ++ [I (lub (n + 1))] := by simp [lubs, List.range_succ]
theorem lubs_at {n i : Nat} (h : i < n) : (lubs n)[i]? = some (I (lub (i + 1))) := by simp [lubs, h]
theorem spans24 {N : Int} (h1 : N ≤ 1048577) (w : World) :
    Calls Try.prog 24 #[I N] w fun e w' => ∃ p n c, e = .returned (.slice p n c) ∧ Keep None w w' ∧ Vc.Own w' 3 1 p n c (lubs n) ∧ N ≤ n ∧ 1 ≤ n ∧ ∀ i, ob p i → w.heap.size ≤ i := by
  refine (V24_calls N w (fun v w' => ∃ p n c, v = .slice p n c ∧ Keep None w w' ∧ Vc.Own w' 3 1 p n c (lubs n) ∧ N ≤ n ∧ 1 ≤ n ∧ ∀ i, ob p i → w.heap.size ≤ i) ?_).mono fun e w' ⟨v, he, p, n, c, hv, hk⟩ => ⟨p, n, c, by rw [he, hv], hk⟩
  unfold V24
  refine alc_at fun b3 w1 hb3 hC k1 => ?_
  have l1 : lub 1 = 1 := by rw [lub_end (by omega) (by decide)]; decide
  refine lp_of (fun s W => ∃ (n j : Nat), s.1.2.1 = n ∧ n + 1 = 2 * 2 ^ j ∧ s.2.1 = ((2 ^ j : Nat) : Int) ∧ Keep None w W ∧ Vc.Own W 3 1 s.1.1 s.1.2.1 s.1.2.2 (lubs n) ∧ ∀ i, ob s.1.1 i → w.heap.size ≤ i) (fun s _ => (N - s.1.2.1).toNat)
    ⟨1, 0, rfl, rfl, rfl, k1, ?_, fun i ⟨a, h, h'⟩ => by cases h; simp only [] at h'; omega⟩ ?_
  · refine Or.inr ⟨b3, _, rfl, hC, Nat.le_refl _, by simp only [maxLen]; omega, rfl, ?_⟩
    show _ = lubs 1
    rw [lubs_succ, l1]; rfl
  rintro ⟨⟨p, n', c⟩, v', ⟨⟩⟩ W ⟨n, j, e1, hn, e2, kW, hO, hf⟩
  simp only [] at e1 e2 hO hf ⊢
  subst e1 e2
  have hp : 0 < 2 ^ j := Nat.two_pow_pos j
  refine pif_of (fun hlt => ?_) fun hge => ⟨p, n', c, rfl, kW, hO, by simp at hge; omega, by omega, hf⟩
  have hlt : (n' : Int) < N := by simpa using hlt
  refine lp_of (fun s V => ∃ i : Nat, s.2.1 = i ∧ i ≤ n' ∧ s.1.2.1 = n' + i ∧ Keep None w V ∧ Vc.Own V 3 1 s.1.1 s.1.2.1 s.1.2.2 (lubs (n' + i)) ∧ ∀ i, ob s.1.1 i → w.heap.size ≤ i) (fun s _ => (n' - s.2.1).toNat)
    ⟨0, rfl, Nat.zero_le _, rfl, kW, hO, hf⟩ ?_
  clear hO hf kW
  rintro ⟨⟨p, n, c⟩, v', ⟨⟩⟩ W ⟨i, e1, hi, e2, kW, hO, hf⟩
  simp only [] at e1 e2 hO hf ⊢
  subst e1 e2
  have app : ∀ (x : Int) (K : Option Addr → Nat → Nat → World → Prop), x = lub (n' + i + 1) → (∀ (p' : Option Addr) (c' : Nat) (W' : World), Keep None w W' → Vc.Own W' 3 1 p' (n' + i + 1) c' (lubs (n' + i + 1)) → (∀ i, ob p' i → w.heap.size ≤ i) → K p' (n' + i + 1) c' W') →
      alc W [I x] 3 fun b w4 => ∃ (x22 : Option Addr) (x22n x22c : Nat), ∃ w5 : World, (Builtin.append_ #[31, 31] 31 #[.slice p (n' + i) c, .slice (some (⟨b, 0, none⟩ : Addr)) 1 1]).run Try.prog w4 = .ok (.slice x22 x22n x22c) w5 ∧ K x22 x22n x22c w5 := by
    intro x K hx hK
    refine alc_at fun b w4 hb h4 k4 => ?_
    have z4 := k4.size
    have zW := kW.size
    refine app_of2 (e := 3) (sz := 1) (z := I 0) (B := 8) Try.underlying31 (by kernel_rfl) rfl (by omega) (hO.keep0 k4) h4.news1 (fun u hu => ?_) (by simp only [maxLen]; omega) (by omega) fun p' c' w5 hO5 hd => ?_
    · simp only [List.mem_singleton] at hu; subst hu; rfl
    rw [hx, ← lubs_succ] at hO5
    rcases hd with ⟨x1, _, _, x2⟩ | ⟨x1, x2⟩
    · exact hK _ _ _ ((kW.then0 k4).trans x2 fun i hi h => by have := hf i h; omega) hO5 fun i hi => by rw [x1] at hi; exact hf i hi
    · exact hK _ _ _ ((kW.then0 k4).then0 x2) hO5 fun i hi => by have := x1 i hi; omega
  refine pif_of (fun hlt => ?_) fun hge => ?_
  · have hi2 : i < n' := by simpa using hlt
    refine hO.ix (by omega) (by omega) fun b hb => ?_
    subst hb
    rw [Nat.mul_one, Int.toNat_natCast]
    refine ldI_of (x := (lub (i + 1) : Int)) (by rw [hO.cell _ (by omega)]; exact lubs_at (by omega)) ?_
    have hl := lub_twice (k := j + 1) (i := i + 1) (by omega) (by rw [Nat.pow_succ]; omega)
    rw [show 2 ^ (j + 1) - 1 + (i + 1) = n' + i + 1 by rw [Nat.pow_succ]; omega] at hl
    refine app _ _ (by rw [hl]) fun p' c' W' q1 q2 q3 => ?_
    have ew : IntKind.wrap .i64 ((i : Int) + 1) = ((i + 1 : Nat) : Int) := by rw [IntKind.wrap_i64]; omega
    rw [ew]
    exact ⟨⟨i + 1, rfl, hi2, rfl, q1, q2, q3⟩, by omega⟩
  · have hge : i = n' := by simp at hge; omega
    subst hge
    have ew : IntKind.wrap .i64 (2 * ((2 ^ j : Nat) : Int)) = ((2 ^ (j + 1) : Nat) : Int) := by
      rw [show 2 ^ (j + 1) = 2 * 2 ^ j by rw [Nat.pow_succ, Nat.mul_comm]]
      generalize 2 ^ j = q at *
      rw [IntKind.wrap_i64]; omega
    rw [ew]
    have hl := lub_first (k := j + 1)
    rw [show 2 * (2 ^ (j + 1) - 1) + 1 = i + i + 1 by rw [Nat.pow_succ]; omega] at hl
    refine app _ _ (by rw [hl]) fun p' c' W' q1 q2 q3 => ?_
    exact ⟨⟨i + i + 1, j + 1, rfl, by rw [Nat.pow_succ]; omega, rfl, q1, q2, q3⟩, by omega⟩

theorem formed_all {b f g : Int} {d : Nat} {p : Int} (h : formed b f g d p = true) : decide (b ≥ 1) = true ∧ decide (b ≤ 1048576) = true ∧ decide (f ≥ 1) = true ∧ decide (f ≤ 1048576) = true ∧ decide (g ≥ 1) = true ∧ decide (g ≤ 1048576) = true ∧
    ((FloatKind.format .f64).order d 4602678819172646912 == some .gt || (FloatKind.format .f64).order d 4602678819172646912 == some .eq) = true ∧ ((FloatKind.format .f64).order d 4607182418800017408 == some .lt || (FloatKind.format .f64).order d 4607182418800017408 == some .eq) = true ∧ decide (p ≥ 1) = true ∧ decide (p ≤ 3) = true := by
  unfold formed okN geHalf leOne at h
  simp only [Bool.and_eq_true] at h
  obtain ⟨⟨⟨⟨⟨a1, a2⟩, a3, a4⟩, a5, a6⟩, a7, a8⟩, a9, a10⟩ := h
  exact ⟨a1, a2, a3, a4, a5, a6, a7, a8, a9, a10⟩
theorem formed_of {b f g : Int} {d : Nat} {p : Int} (h : decide (b ≥ 1) = true ∧ decide (b ≤ 1048576) = true ∧ decide (f ≥ 1) = true ∧ decide (f ≤ 1048576) = true ∧ decide (g ≥ 1) = true ∧ decide (g ≤ 1048576) = true ∧
    ((FloatKind.format .f64).order d 4602678819172646912 == some .gt || (FloatKind.format .f64).order d 4602678819172646912 == some .eq) = true ∧ ((FloatKind.format .f64).order d 4607182418800017408 == some .lt || (FloatKind.format .f64).order d 4607182418800017408 == some .eq) = true ∧ decide (p ≥ 1) = true ∧ decide (p ≤ 3) = true) : formed b f g d p = true := by
  obtain ⟨a1, a2, a3, a4, a5, a6, a7, a8, a9, a10⟩ := h
  unfold formed okN geHalf leOne
  simp only [Bool.and_eq_true]
  exact ⟨⟨⟨⟨⟨a1, a2⟩, a3, a4⟩, a5, a6⟩, a7, a8⟩, a9, a10⟩

def T10 (r : Bool) (b2 : Nat) (v3 : Int) (x15 : Option Addr) (x15n x15c : Nat) (x16 : Int) (w12 : World) (R : Value → World → Prop) : Prop :=
  ldI .i64 w12 ((⟨b2, 0, none⟩ : Addr).add 0) fun x48 =>
  ldI .i64 w12 ((⟨b2, 0, none⟩ : Addr).add 1) fun x49 =>
  ldI .i64 w12 ((⟨b2, 0, none⟩ : Addr).add 2) fun x50 =>
  ldF .f64 w12 ((⟨b2, 0, none⟩ : Addr).add 3) fun x51 =>
  ldI .i64 w12 ((⟨b2, 0, none⟩ : Addr).add 4) fun x52 =>
  ldI .i64 w12 ((⟨b2, 0, none⟩ : Addr).add 5) fun x53 =>
  cl Try.prog 13 [.agg #[.int .i64 x48, .int .i64 x49, .int .i64 x50, .float .f64 x51, .int .i64 x52, .int .i64 x53]] w12 fun e55 w13 => ∃ x54 : Bool, e55 = Ending.returned (.bool x54) ∧
  pif (!(x54 == r)) (
    R (.bool false) w13) (
    pif (!r) (
      R (.bool (cond (x16 == 1) ((x15n : Int) == 0) false)) w13) (
      pif (decide (v3 < 0)) (
        R (.bool (cond (x16 == 2) ((x15n : Int) == 0) false)) w13) (
        pif (x16 != 0) (
          R (.bool false) w13) (
          cl Try.prog 24 [.int .i64 (IntKind.wrap .i64 ((x15n : Int) + 1))] w13 fun e65 w14 => ∃ (x64 : Option Addr) (x64n x64c : Nat), e65 = Ending.returned (.slice x64 x64n x64c) ∧
          lp (σ := Int × Int × Int × Int × Unit) (fun s75 w15 k74 => match s75 with
            | (v70, v71, v72, v73, _) =>
            pif (decide (v73 < (x15n : Int))) (
              jn (σ := Int × Int × Int × Unit) (fun k80 =>
                ldI .i64 (World.drew w15) ((⟨b2, 0, none⟩ : Addr).add 0) fun x82 =>
                ixA x64 x64n v73 1 fun p83 =>
                ldI .i64 (World.drew w15) p83 fun x84 =>
                ldI .i64 (World.drew w15) ((⟨b2, 0, none⟩ : Addr).add 1) fun x86 =>
                ldI .i64 (World.drew w15) ((⟨b2, 0, none⟩ : Addr).add 2) fun x87 =>
                ixA x15 x15n v73 2 fun p89 =>
                ldI .i64 (World.drew w15) (p89.add 0) fun x90 =>
                gd (α := Addr) (!(cond (x90 != (IntKind.wrap .i64 (v70 + (IntKind.wrap .i64 (x82 * x84))))) true (decide ((IntKind.wrap .i64 (v70 + (IntKind.wrap .i64 (x82 * x84)))) > v3)))) (fun k91 =>
                  ixA x15 x15n v73 2 fun p92 =>
                  k91 p92 (World.drew w15)) ⟨0, 0, none⟩ (World.drew w15) fun x93 w17 =>
                gd (α := Bool) (!(cond (x90 != (IntKind.wrap .i64 (v70 + (IntKind.wrap .i64 (x82 * x84))))) true (decide ((IntKind.wrap .i64 (v70 + (IntKind.wrap .i64 (x82 * x84)))) > v3)))) (fun k94 =>
                  ldB w17 (x93.add 1) fun x95 =>
                  k94 x95 w17) false w17 fun x96 w18 =>
                pif (cond (cond (x90 != (IntKind.wrap .i64 (v70 + (IntKind.wrap .i64 (x82 * x84))))) true (decide ((IntKind.wrap .i64 (v70 + (IntKind.wrap .i64 (x82 * x84)))) > v3))) true (!(x96 == (decide ((IntKind.wrap .i64 ((IntKind.wrap .i64 (v70 + (IntKind.wrap .i64 (x82 * x84)))) - v71)) ≥ (IntKind.wrap .i64 (x86 + (IntKind.wrap .i64 (x87 * v72))))))))) (
                  R (.bool false) w18) (
                  pif (decide ((IntKind.wrap .i64 ((IntKind.wrap .i64 (v70 + (IntKind.wrap .i64 (x82 * x84)))) - v71)) ≥ (IntKind.wrap .i64 (x86 + (IntKind.wrap .i64 (x87 * v72)))))) (
                    k80 ((IntKind.wrap .i64 (v70 + (IntKind.wrap .i64 (x82 * x84)))), (IntKind.wrap .i64 (v70 + (IntKind.wrap .i64 (x82 * x84)))), (IntKind.wrap .i64 (v72 + 1)), ()) w18) (
                    k80 ((IntKind.wrap .i64 (v70 + (IntKind.wrap .i64 (x82 * x84)))), v71, v72, ()) w18))) fun s81 w16 => match s81 with
              | (v77, v78, v79, _) =>
              k74 (v77, v78, v79, (IntKind.wrap .i64 (v73 + 1)), ()) w16) (
              ldI .i64 (World.drew w15) ((⟨b2, 0, none⟩ : Addr).add 0) fun x102 =>
              ixA x64 x64n (x15n : Int) 1 fun p103 =>
              ldI .i64 (World.drew w15) p103 fun x104 =>
              R (.bool (decide ((IntKind.wrap .i64 (v70 + (IntKind.wrap .i64 (x102 * x104)))) > v3))) (World.drew w15))) (0, 0, 0, 0, ()) w14))))

def Yes (w : World) (v : Value) (w' : World) : Prop := v = .bool true ∧ Keep None w w'
theorem t10_bad {b f g : Int} {d : Nat} {p q : Int} {w W : World} {b2 : Nat} {v3 : Int} {r : Bool} {x16 : Int} {x15c : Nat} (hf : formed b f g d p = false) (hr : r = false) (hk : Keep None w W) (hC : Blk W b2 [I b, I f, I g, F d, I p, I q] 24) (he : x16 = 1) :
    T10 r b2 v3 none 0 x15c x16 W (Yes w) := by
  subst hr he
  unfold T10
  refine ld6 hC ?_
  refine cl_of ok13 (formed13 b f g d p q W) fun e w3 ⟨he, k3⟩ => ⟨_, he, ?_⟩
  rw [hf]
  exact pif_f rfl (pif_t rfl ⟨rfl, hk.then0 k3⟩)
theorem t10_neg {b f g : Int} {d : Nat} {p q : Int} {w W : World} {b2 : Nat} {v3 : Int} {r : Bool} {x16 : Int} {x15c : Nat} (hf : formed b f g d p = true) (hr : r = true) (hk : Keep None w W) (hC : Blk W b2 [I b, I f, I g, F d, I p, I q] 24) (he : x16 = 2) (hn : v3 < 0) :
    T10 r b2 v3 none 0 x15c x16 W (Yes w) := by
  subst hr he
  unfold T10
  refine ld6 hC ?_
  refine cl_of ok13 (formed13 b f g d p q W) fun e w3 ⟨he, k3⟩ => ⟨_, he, ?_⟩
  rw [hf]
  exact pif_f rfl (pif_f rfl (pif_t (decide_eq_true hn) ⟨rfl, hk.then0 k3⟩))
theorem t10_ok {b f g : Int} {d : Nat} {p q : Int} {w W : World} {b2 : Nat} {N : Int} {r : Bool} {x16 : Int} {op : Option Addr} {k oc : Nat} (hf : formed b f g d p = true) (hr : r = true) (hk : Keep None w W) (hC : Blk W b2 [I b, I f, I g, F d, I p, I q] 24) (he : x16 = 0) (hn : 0 ≤ N) (hn2 : N ≤ 20000)
    (hK : IsK b f g N k) (hO : Vc.Own W 50 2 op k oc (bcells (beats b f g k))) :
    T10 r b2 N op k oc x16 W (Yes w) := by
  subst hr he
  unfold T10
  obtain ⟨rb1, rb2, rf1, rf2, rg1, rg2⟩ := formed_range hf
  refine ld6 hC ?_
  refine cl_of ok13 (formed13 b f g d p q W) fun e w3 ⟨he, k3⟩ => ⟨_, he, ?_⟩
  rw [hf]
  refine pif_f rfl (pif_f rfl (pif_f (decide_eq_false (by omega)) (pif_f rfl ?_)))
  have hkb : (k : Int) ≤ 20000 := by have := pst_ge (f := f) (g := g) rb1 k; have := hK.1; omega
  have ew : IntKind.wrap .i64 ((k : Int) + 1) = (k : Int) + 1 := by rw [IntKind.wrap_i64]; omega
  rw [ew]
  refine cl_of ok24 (spans24 (by omega) w3) fun e w4 ⟨sp, sn, sc, he, k4, hS, hlen, _, _⟩ => ⟨_, _, _, he, ?_⟩
  have hC4 := (hC.keep0 k3).keep0 k4
  have hO4 := (hO.keep0 k3).keep0 k4
  have k04 := (hk.then0 k3).then0 k4
  refine lp_of (fun s V => ∃ i : Nat, s.2.2.2.1 = i ∧ i ≤ k ∧ s.1 = (pst b f g i).1 ∧ s.2.1 = (pst b f g i).2.1 ∧ s.2.2.1 = (pst b f g i).2.2.1 ∧ Keep None w4 V) (fun s _ => (k - s.2.2.2.1).toNat)
    ⟨0, rfl, Nat.zero_le _, rfl, rfl, rfl, Keep.refl _ _⟩ ?_
  rintro ⟨v70, v71, v72, v73, ⟨⟩⟩ V ⟨i, e1, hi, e2, e3, e4, kV⟩
  simp only [] at e1 e2 e3 e4 ⊢
  subst e1 e2 e3 e4
  obtain ⟨lb1, lb2⟩ := lub_bounds (i + 1) (by omega)
  have hmul : b * (lub (i + 1) : Int) ≤ 1048576 * 1048577 := Int.mul_le_mul rb2 (by omega) (by omega) (by omega)
  have hmul1 : b * 1 ≤ b * (lub (i + 1) : Int) := Int.mul_le_mul_of_nonneg_left (by omega) (by omega)
  have hpn := pst_n b f g i
  obtain ⟨q1, q2, q3, q4⟩ := pst_last (f := f) (g := g) rb1 i
  have hK1 := hK.1
  have hmono := pst_mono (f := f) (g := g) rb1 hi
  have x1 : IntKind.wrap .i64 (b * (lub (i + 1) : Int)) = b * (lub (i + 1) : Int) := by rw [IntKind.wrap_i64]; omega
  have x2 : IntKind.wrap .i64 ((pst b f g i).1 + b * (lub (i + 1) : Int)) = (pst b f g (i + 1)).1 := by rw [IntKind.wrap_i64]; omega
  have kd : Keep None w4 V.drew := kV.drew
  have hCd := hC4.keep0 kd
  have hSd := hS.keep0 kd
  have rdl : ∀ {j : Nat} {K : Int → Prop}, j < sn → K (lub (j + 1)) → ixA sp sn (j : Int) 1 fun p83 => ldI .i64 V.drew p83 K := fun hj hK => hSd.ix (by omega) (by omega) fun b hb => by
    subst hb
    rw [Nat.mul_one, Int.toNat_natCast]
    exact ldI_of (by rw [hSd.cell _ (by omega)]; exact lubs_at hj) hK
  refine pif_of (fun hlt => ?_) fun hge => ?_
  · have hlt : i < k := by simpa using hlt
    refine jn_of ?_
    simp only [add_mk, Nat.zero_add, Nat.add_zero]
    refine ldI_of (hCd.cell 0) (rdl (by omega) ?_)
    rw [x1, x2]
    refine ldI_of (hCd.cell 1) (ldI_of (hCd.cell 2) ?_)
    have rd := rd_of_own (hO4.keep0 kd)
    refine rd.ix (beats_at b f g hlt) fun bb o c1 c2 => ?_
    rw [add_mk, Nat.add_zero]
    refine ldI_of c1 ?_
    have hm1 := pst_mono (f := f) (g := g) rb1 (show i + 1 ≤ k by omega)
    have eb : (!(cond ((pst b f g (i + 1)).1 != (pst b f g (i + 1)).1) true (decide ((pst b f g (i + 1)).1 > N)))) = true := by
      rw [decide_eq_false (by omega)]; simp
    refine gd_t eb (rd.ix (beats_at b f g hlt) fun bb2 o2 c3 c4 => gd_t eb ?_)
    rw [add_mk]
    refine ldB_of c4 ?_
    have hj : g * (pst b f g i).2.2.1 ≤ 1048576 * 1048576 := Int.mul_le_mul rg2 (by omega) (by omega) (by omega)
    have hj0 : 0 ≤ g * (pst b f g i).2.2.1 := Int.mul_nonneg (by omega) (by omega)
    have y1 : IntKind.wrap .i64 ((pst b f g (i + 1)).1 - (pst b f g i).2.1) = (pst b f g (i + 1)).1 - (pst b f g i).2.1 := by rw [IntKind.wrap_i64]; omega
    have y2 : IntKind.wrap .i64 (g * (pst b f g i).2.2.1) = g * (pst b f g i).2.2.1 := by rw [IntKind.wrap_i64]; omega
    rw [y1, y2]
    have y3 : IntKind.wrap .i64 (f + g * (pst b f g i).2.2.1) = f + g * (pst b f g i).2.2.1 := by rw [IntKind.wrap_i64]; omega
    rw [y3]
    obtain ⟨cc, hc⟩ : ∃ cc, cc = !decide ((pst b f g (i + 1)).1 - (pst b f g i).2.1 < f + (pst b f g i).2.2.1 * g) := ⟨_, rfl⟩
    have hc2 : decide ((pst b f g (i + 1)).1 - (pst b f g i).2.1 ≥ f + g * (pst b f g i).2.2.1) = cc := by
      rw [hc, Int.mul_comm g]
      by_cases h : (pst b f g (i + 1)).1 - (pst b f g i).2.1 < f + (pst b f g i).2.2.1 * g
      · rw [decide_eq_true h, decide_eq_false (by omega)]; rfl
      · rw [decide_eq_false h, decide_eq_true (by omega)]; rfl
    rw [hc2, ← hc]
    refine pif_f ?_ ?_
    · rw [decide_eq_false (by omega)]; simp
    have z1 : IntKind.wrap .i64 ((i : Int) + 1) = ((i + 1 : Nat) : Int) := by rw [IntKind.wrap_i64]; omega
    have z2 : IntKind.wrap .i64 ((pst b f g i).2.2.1 + 1) = (pst b f g i).2.2.1 + 1 := by rw [IntKind.wrap_i64]; omega
    have w1 := pst_cl hc
    have w2 := pst_ct hc
    rw [z1, z2]
    refine pif_of (fun ht => ?_) fun ht => ?_
    · rw [ht] at w1 w2
      exact ⟨⟨i + 1, rfl, hlt, rfl, w1.symm, w2.symm, kd⟩, by omega⟩
    · rw [ht] at w1 w2
      exact ⟨⟨i + 1, rfl, hlt, rfl, w1.symm, w2.symm, kd⟩, by omega⟩
  · have hge : i = k := by simp at hge; omega
    subst hge
    simp only [add_mk, Nat.zero_add, Nat.add_zero]
    refine ldI_of (hCd.cell 0) (rdl (by omega) ?_)
    rw [x1, x2, decide_eq_true (show (pst b f g (i + 1)).1 > N by have := hK.2; omega)]
    exact ⟨rfl, k04.then0 kd⟩

theorem law10 (b f g : Int) (d : Nat) (p q N : Int) (w : World) (hN : -9223372036854775808 ≤ N ∧ N ≤ 9223372036854775807) : Calls Try.prog 10 #[.agg #[I b, I f, I g, F d, I p, I q], I N] w fun e w' => e = .returned (.bool true) ∧ RowKit.Below w.heap.size w w' := by
  refine (V10_calls b f g d p q N w (Yes w) ?_).mono fun e w' ⟨v, he, hv, hk⟩ => ⟨by rw [he, hv], hk.below0⟩
  unfold V10
  refine alc_at fun b2 w1 hb2 hC k1 => ?_
  refine ⟨fun s w2 => w2 = w1 ∧ s.1 ≤ 20000, ?_, ?_⟩
  · refine pif_of (fun h => ⟨rfl, ?_⟩) fun h => ⟨rfl, by simp at h; exact h⟩
    have h : N > 20000 := by simpa using h
    show Int.tmod N 20000 ≤ 20000
    rw [Int.tmod_eq_emod_of_nonneg (by omega)]; omega
  rintro ⟨M, ⟨⟩⟩ w2 ⟨rfl, hM⟩
  simp only [] at hM ⊢
  refine ld6 hC ?_
  have go : ∀ (x15 : Option Addr) (x15n x15c : Nat) (x16 : Int) (W : World), Keep None w2 W → (∀ r : Bool, r = formed b f g d p → T10 r b2 M x15 x15n x15c x16 W (Yes w)) →
    (  ldI .i64 W ((⟨b2, 0, none⟩ : Addr).add 0) fun x19 =>
      gd (α := Int) (decide (x19 ≥ 1)) (fun k20 =>
        ldI .i64 W ((⟨b2, 0, none⟩ : Addr).add 0) fun x21 =>
        k20 x21 W) 0 W fun x22 w4 =>
      gd (α := Int) (cond (decide (x19 ≥ 1)) (decide (x22 ≤ 1048576)) false) (fun k23 =>
        ldI .i64 w4 ((⟨b2, 0, none⟩ : Addr).add 1) fun x24 =>
        k23 x24 w4) 0 w4 fun x25 w5 =>
      gd (α := Int) (cond (cond (decide (x19 ≥ 1)) (decide (x22 ≤ 1048576)) false) (decide (x25 ≥ 1)) false) (fun k26 =>
        ldI .i64 w5 ((⟨b2, 0, none⟩ : Addr).add 1) fun x27 =>
        k26 x27 w5) 0 w5 fun x28 w6 =>
      gd (α := Int) (cond (cond (cond (decide (x19 ≥ 1)) (decide (x22 ≤ 1048576)) false) (decide (x25 ≥ 1)) false) (decide (x28 ≤ 1048576)) false) (fun k29 =>
        ldI .i64 w6 ((⟨b2, 0, none⟩ : Addr).add 2) fun x30 =>
        k29 x30 w6) 0 w6 fun x31 w7 =>
      gd (α := Int) (cond (cond (cond (cond (decide (x19 ≥ 1)) (decide (x22 ≤ 1048576)) false) (decide (x25 ≥ 1)) false) (decide (x28 ≤ 1048576)) false) (decide (x31 ≥ 1)) false) (fun k32 =>
        ldI .i64 w7 ((⟨b2, 0, none⟩ : Addr).add 2) fun x33 =>
        k32 x33 w7) 0 w7 fun x34 w8 =>
      gd (α := Nat) (cond (cond (cond (cond (cond (decide (x19 ≥ 1)) (decide (x22 ≤ 1048576)) false) (decide (x25 ≥ 1)) false) (decide (x28 ≤ 1048576)) false) (decide (x31 ≥ 1)) false) (decide (x34 ≤ 1048576)) false) (fun k35 =>
        ldF .f64 w8 ((⟨b2, 0, none⟩ : Addr).add 3) fun x36 =>
        k35 x36 w8) 0 w8 fun x37 w9 =>
      gd (α := Nat) (cond (cond (cond (cond (cond (cond (decide (x19 ≥ 1)) (decide (x22 ≤ 1048576)) false) (decide (x25 ≥ 1)) false) (decide (x28 ≤ 1048576)) false) (decide (x31 ≥ 1)) false) (decide (x34 ≤ 1048576)) false) ((FloatKind.format .f64).order x37 4602678819172646912 == some .gt || (FloatKind.format .f64).order x37 4602678819172646912 == some .eq) false) (fun k38 =>
        ldF .f64 w9 ((⟨b2, 0, none⟩ : Addr).add 3) fun x39 =>
        k38 x39 w9) 0 w9 fun x40 w10 =>
      gd (α := Int) (cond (cond (cond (cond (cond (cond (cond (decide (x19 ≥ 1)) (decide (x22 ≤ 1048576)) false) (decide (x25 ≥ 1)) false) (decide (x28 ≤ 1048576)) false) (decide (x31 ≥ 1)) false) (decide (x34 ≤ 1048576)) false) ((FloatKind.format .f64).order x37 4602678819172646912 == some .gt || (FloatKind.format .f64).order x37 4602678819172646912 == some .eq) false) ((FloatKind.format .f64).order x40 4607182418800017408 == some .lt || (FloatKind.format .f64).order x40 4607182418800017408 == some .eq) false) (fun k41 =>
        ldI .i64 w10 ((⟨b2, 0, none⟩ : Addr).add 4) fun x42 =>
        k41 x42 w10) 0 w10 fun x43 w11 =>
      gd (α := Int) (cond (cond (cond (cond (cond (cond (cond (cond (decide (x19 ≥ 1)) (decide (x22 ≤ 1048576)) false) (decide (x25 ≥ 1)) false) (decide (x28 ≤ 1048576)) false) (decide (x31 ≥ 1)) false) (decide (x34 ≤ 1048576)) false) ((FloatKind.format .f64).order x37 4602678819172646912 == some .gt || (FloatKind.format .f64).order x37 4602678819172646912 == some .eq) false) ((FloatKind.format .f64).order x40 4607182418800017408 == some .lt || (FloatKind.format .f64).order x40 4607182418800017408 == some .eq) false) (decide (x43 ≥ 1)) false) (fun k44 =>
        ldI .i64 w11 ((⟨b2, 0, none⟩ : Addr).add 4) fun x45 =>
        k44 x45 w11) 0 w11 fun x46 w12 =>
    T10 (cond (cond (cond (cond (cond (cond (cond (cond (cond (decide (x19 ≥ 1)) (decide (x22 ≤ 1048576)) false) (decide (x25 ≥ 1)) false) (decide (x28 ≤ 1048576)) false) (decide (x31 ≥ 1)) false) (decide (x34 ≤ 1048576)) false) ((FloatKind.format .f64).order x37 4602678819172646912 == some .gt || (FloatKind.format .f64).order x37 4602678819172646912 == some .eq) false) ((FloatKind.format .f64).order x40 4607182418800017408 == some .lt || (FloatKind.format .f64).order x40 4607182418800017408 == some .eq) false) (decide (x43 ≥ 1)) false) (decide (x46 ≤ 3)) false) b2 M x15 x15n x15c x16 w12 (Yes w)) := by
    intro x15 x15n x15c x16 W kW hT
    have hW := hC.keep0 kW
    simp only [add_mk, Nat.zero_add, Nat.add_zero]
    refine ldI_of (hW.cell 0) ?_
    have ff : ∀ {c : Bool}, (formed b f g d p = true → c = true) → c = false → formed b f g d p = false := fun h1 h2 => by
      rcases Bool.eq_false_or_eq_true (formed b f g d p) with h | h
      · rw [h1 h] at h2; cases h2
      · exact h
    refine gd_of (fun h0 => ldI_of (hW.cell 0) ?_) (fun h0 => ?_)
    rotate_left
    · have hF := ff (fun hf => by obtain ⟨a1, a2, a3, a4, a5, a6, a7, a8, a9, a10⟩ := formed_all hf; simp only [a1, a2, a3, a4, a5, a6, a7, a8, a9, a10, cond_true]) h0
      rw [h0]
      repeat (refine gd_f rfl ?_)
      exact hT _ (by rw [hF]; rfl)
    refine gd_of (fun h1 => ldI_of (hW.cell 1) ?_) (fun h1 => ?_)
    rotate_left
    · have hF := ff (fun hf => by obtain ⟨a1, a2, a3, a4, a5, a6, a7, a8, a9, a10⟩ := formed_all hf; simp only [a1, a2, a3, a4, a5, a6, a7, a8, a9, a10, cond_true]) h1
      rw [h1]
      repeat (refine gd_f rfl ?_)
      exact hT _ (by rw [hF]; rfl)
    refine gd_of (fun h2 => ldI_of (hW.cell 1) ?_) (fun h2 => ?_)
    rotate_left
    · have hF := ff (fun hf => by obtain ⟨a1, a2, a3, a4, a5, a6, a7, a8, a9, a10⟩ := formed_all hf; simp only [a1, a2, a3, a4, a5, a6, a7, a8, a9, a10, cond_true]) h2
      rw [h2]
      repeat (refine gd_f rfl ?_)
      exact hT _ (by rw [hF]; rfl)
    refine gd_of (fun h3 => ldI_of (hW.cell 2) ?_) (fun h3 => ?_)
    rotate_left
    · have hF := ff (fun hf => by obtain ⟨a1, a2, a3, a4, a5, a6, a7, a8, a9, a10⟩ := formed_all hf; simp only [a1, a2, a3, a4, a5, a6, a7, a8, a9, a10, cond_true]) h3
      rw [h3]
      repeat (refine gd_f rfl ?_)
      exact hT _ (by rw [hF]; rfl)
    refine gd_of (fun h4 => ldI_of (hW.cell 2) ?_) (fun h4 => ?_)
    rotate_left
    · have hF := ff (fun hf => by obtain ⟨a1, a2, a3, a4, a5, a6, a7, a8, a9, a10⟩ := formed_all hf; simp only [a1, a2, a3, a4, a5, a6, a7, a8, a9, a10, cond_true]) h4
      rw [h4]
      repeat (refine gd_f rfl ?_)
      exact hT _ (by rw [hF]; rfl)
    refine gd_of (fun h5 => ldF_of (hW.cell 3) ?_) (fun h5 => ?_)
    rotate_left
    · have hF := ff (fun hf => by obtain ⟨a1, a2, a3, a4, a5, a6, a7, a8, a9, a10⟩ := formed_all hf; simp only [a1, a2, a3, a4, a5, a6, a7, a8, a9, a10, cond_true]) h5
      rw [h5]
      repeat (refine gd_f rfl ?_)
      exact hT _ (by rw [hF]; rfl)
    refine gd_of (fun h6 => ldF_of (hW.cell 3) ?_) (fun h6 => ?_)
    rotate_left
    · have hF := ff (fun hf => by obtain ⟨a1, a2, a3, a4, a5, a6, a7, a8, a9, a10⟩ := formed_all hf; simp only [a1, a2, a3, a4, a5, a6, a7, a8, a9, a10, cond_true]) h6
      rw [h6]
      repeat (refine gd_f rfl ?_)
      exact hT _ (by rw [hF]; rfl)
    refine gd_of (fun h7 => ldI_of (hW.cell 4) ?_) (fun h7 => ?_)
    rotate_left
    · have hF := ff (fun hf => by obtain ⟨a1, a2, a3, a4, a5, a6, a7, a8, a9, a10⟩ := formed_all hf; simp only [a1, a2, a3, a4, a5, a6, a7, a8, a9, a10, cond_true]) h7
      rw [h7]
      repeat (refine gd_f rfl ?_)
      exact hT _ (by rw [hF]; rfl)
    refine gd_of (fun h8 => ldI_of (hW.cell 4) ?_) (fun h8 => ?_)
    rotate_left
    · have hF := ff (fun hf => by obtain ⟨a1, a2, a3, a4, a5, a6, a7, a8, a9, a10⟩ := formed_all hf; simp only [a1, a2, a3, a4, a5, a6, a7, a8, a9, a10, cond_true]) h8
      rw [h8]
      repeat (refine gd_f rfl ?_)
      exact hT _ (by rw [hF]; rfl)
    refine hT _ ?_
    rcases Bool.eq_false_or_eq_true (formed b f g d p) with hf | hf
    · obtain ⟨a1, a2, a3, a4, a5, a6, a7, a8, a9, a10⟩ := formed_all hf
      rw [hf]; simp only [a1, a2, a3, a4, a5, a6, a7, a8, a9, a10, cond_true]
    · rw [hf]
      refine Bool.eq_false_iff.2 fun hc => ?_
      simp only [Bool.cond_false_right, Bool.and_eq_true] at hc
      obtain ⟨⟨⟨⟨⟨⟨⟨⟨⟨a1, a2⟩, a3⟩, a4⟩, a5⟩, a6⟩, a7⟩, a8⟩, a9⟩, a10⟩ := hc
      have := formed_of ⟨a1, a2, a3, a4, a5, a6, a7, a8, a9, a10⟩
      rw [hf] at this; cases this
  rcases Bool.eq_false_or_eq_true (formed b f g d p) with hf | hf
  · by_cases hn : M < 0
    · refine cl_of ok21 (plan_range hf (Or.inl hn) w2) fun e w3 ⟨he, k3⟩ => ⟨_, _, _, _, he, ?_⟩
      exact go none 0 0 2 w3 k3 fun r hr => t10_neg (p := p) (q := q) hf (by rw [hr, hf]) (k1.then0 k3) (hC.keep0 k3) rfl hn
    · refine cl_of ok21 (plan21 hf (N := M) (by omega) (by omega) w2) fun e w3 ⟨v, he, k, op, oc, hK, hv, k3, hO, hfr⟩ => ?_
      subst hv
      refine ⟨_, _, _, _, he, ?_⟩
      exact go op k oc 0 w3 k3 fun r hr => t10_ok (p := p) (q := q) hf (by rw [hr, hf]) (k1.then0 k3) (hC.keep0 k3) rfl (by omega) hM hK hO
  · refine cl_of ok21 (plan21_bad hf w2) fun e w3 ⟨he, k3⟩ => ⟨_, _, _, _, he, ?_⟩
    exact go none 0 0 1 w3 k3 fun r hr => t10_bad (p := p) (q := q) hf (by rw [hr, hf]) (k1.then0 k3) (hC.keep0 k3) rfl
end Go.Proofs.Ytkpoagdhekimpaa.Pace
