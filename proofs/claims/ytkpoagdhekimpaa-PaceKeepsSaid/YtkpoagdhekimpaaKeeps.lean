/- PaceKeeps: its walk. -/
import Derived.Test.YtkpoagdhekimpaaBegin
import Derived.Test.YtkpoagdhekimpaaMakes2
import Derived.Test.YtkpoagdhekimpaaApB3
set_option linter.unusedVariables false
set_option linter.unusedSimpArgs false
set_option linter.unusedSectionVars false
set_option maxRecDepth 100000
namespace Go.Proofs.Ytkpoagdhekimpaa.Pace
open Go Go.Proofs.Ytkpoagdhekimpaa.Vc Go.Proofs.Ytkpoagdhekimpaa.T

/-- a plan's answer, whatever the config -/
def PlanOf (b f g : Int) (d : Nat) (p q N : Int) (l : List (Int × Bool)) (code : Int) : Prop := ∀ w : World, Calls Try.prog 21 #[.agg #[I b, I f, I g, F d, I p, I q], I N] w fun e w' =>
  ∃ x c, e = .returned (.tuple #[.slice x l.length c, I code]) ∧ Keep None w w' ∧ Vc.Own w' 50 2 x l.length c (bcells l) ∧ ∀ i, ob x i → w.heap.size ≤ i
theorem planOf (b f g : Int) (d : Nat) (p q : Int) {N : Int} (h0 : 0 ≤ N) (h1 : N ≤ 3000) : ∃ l code, l.length ≤ 4000 ∧ code = (cond (formed b f g d p) 0 1) ∧ PlanOf b f g d p q N l code := by
  rcases Bool.eq_false_or_eq_true (formed b f g d p) with hf | hf
  · obtain ⟨rb1, _⟩ := formed_range hf
    obtain ⟨k, hk⟩ := isK_some (f := f) (g := g) rb1 h0
    have hlb : (k : Int) ≤ 3000 := by have := pst_ge (f := f) (g := g) rb1 k; have := hk.1; omega
    refine ⟨beats b f g k, 0, by rw [beats_len]; omega, by rw [hf]; rfl, fun w => ?_⟩
    refine (plan21 hf (N := N) h0 (by omega) w).mono fun e w' ⟨v, he, k', x, c, hK, hv, k1, hO, hfr⟩ => ?_
    obtain rfl := isK_one rb1 hk hK
    rw [beats_len]
    exact ⟨x, c, by rw [he, hv], k1, hO, hfr⟩
  · exact ⟨[], 1, by simp, by rw [hf]; rfl, fun w => (plan21_bad hf w).mono fun e w' ⟨he, k1⟩ => ⟨none, 0, he, k1, Vc.Own.nil _ _ _, fun i ⟨a, h, _⟩ => by cases h⟩⟩

/-- a copy by appending to nothing -/
theorem copy_app {w : World} {x : Option Addr} {c : Nat} {l : List (Int × Bool)} (hl : l.length ≤ 4000) (hO : Vc.Own w 50 2 x l.length c (bcells l)) {K : Option Addr → Nat → Nat → World → Prop}
    (hk : ∀ x' c' w', Vc.Own w' 50 2 x' l.length c' (bcells l) → (∀ i, ob x' i → w.heap.size ≤ i) → Keep None w w' → K x' l.length c' w') :
    alc w [] 50 fun b30 w6 => ∃ (x31 : Option Addr) (x31n x31c : Nat), ∃ w7 : World, (Builtin.append_ #[43, 43] 43 #[.slice (some (⟨b30, 0, none⟩ : Addr)) 0 0, .slice x l.length c]).run Try.prog w6 = .ok (.slice x31 x31n x31c) w7 ∧ K x31 x31n x31c w7 := by
  refine alc_at fun b w1 hb hB k1 => ?_
  have z1 := k1.size
  have hO1 := hO.keep0 k1
  have hE : Vc.Own w1 50 2 (some ⟨b, 0, none⟩) 0 0 [] := Or.inr ⟨b, [], rfl, hB, Nat.le_refl _, Nat.zero_le _, rfl, rfl⟩
  refine app_of2 (e := 50) (sz := 2) (z := .agg #[I 0, .bool false]) (B := 16) Try.underlying43 (by kernel_rfl) rfl (by omega) hE hO1.news (fun u hu => ?_) (by simp only [maxLen]; omega) (by omega) fun p' c' w' hO' hd => ?_
  · obtain ⟨y, _, hu⟩ := List.mem_flatMap.1 hu
    simp only [List.mem_cons, List.not_mem_nil, or_false] at hu
    rcases hu with rfl | rfl <;> rfl
  · rw [List.nil_append] at hO'
    rw [Nat.zero_add] at hO' ⊢
    refine hk p' c' w' hO' ?_ ?_
    · rcases hd with ⟨e1, _, _, _⟩ | ⟨e1, _⟩
      · rintro i ⟨a, ha, rfl⟩; rw [e1] at ha; cases ha; simp only []; omega
      · intro i hi; have := e1 i hi; omega
    · rcases hd with ⟨_, _, _, k⟩ | ⟨_, k⟩
      · exact k1.trans k fun i hi ⟨a, ha, hb'⟩ => by cases ha; simp only [] at hb'; omega
      · exact k1.then0 k

theorem keep_none_of {w w1 w2 : World} {S : Nat → Prop} (h : Keep None w w1) (h' : Keep S w1 w2) (hS : ∀ i, S i → w.heap.size ≤ i) : Keep None w w2 :=
  h.trans h' fun i hi hs => by have := hS i hs; omega

/-- owners by the time of making -/
def own6 (a b c d e f g h : Nat) (i : Nat) : Int :=
  if i < a then -3 else if i < b then 0 else if i < c then 1 else if i < d then -3 else if i < e then 3 else if i < f then -3 else if i < g then 2 else if i < h then -3 else -1

section
variable {a b c d e f g h i : Nat} (o1 : a ≤ b) (o2 : b ≤ c) (o3 : c ≤ d) (o4 : d ≤ e) (o5 : e ≤ f) (o6 : f ≤ g) (o7 : g ≤ h)
include o1 o2 o3 o4 o5 o6 o7
theorem own6_0 (h1 : a ≤ i) (h2 : i < b) : own6 a b c d e f g h i = 0 := by unfold own6; rw [if_neg (by omega), if_pos h2]
theorem own6_1 (h1 : b ≤ i) (h2 : i < c) : own6 a b c d e f g h i = 1 := by unfold own6; rw [if_neg (by omega), if_neg (by omega), if_pos h2]
theorem own6_3 (h1 : d ≤ i) (h2 : i < e) : own6 a b c d e f g h i = 3 := by unfold own6; rw [if_neg (by omega), if_neg (by omega), if_neg (by omega), if_neg (by omega), if_pos h2]
theorem own6_2 (h1 : f ≤ i) (h2 : i < g) : own6 a b c d e f g h i = 2 := by unfold own6; rw [if_neg (by omega), if_neg (by omega), if_neg (by omega), if_neg (by omega), if_neg (by omega), if_neg (by omega), if_pos h2]
theorem own6_4 (h1 : h ≤ i) : own6 a b c d e f g h i = -1 := by unfold own6; rw [if_neg (by omega), if_neg (by omega), if_neg (by omega), if_neg (by omega), if_neg (by omega), if_neg (by omega), if_neg (by omega), if_neg (by omega)]
end
theorem law12 (b f g : Int) (d : Nat) (p q : Int) (b' f' g' : Int) (d' : Nat) (p' q' : Int) (N : Int) (w : World) :
    Calls Try.prog 12 #[.agg #[I b, I f, I g, F d, I p, I q], .agg #[I b', I f', I g', F d', I p', I q'], I N] w fun e w' => e = .returned (.bool true) ∧ RowKit.Below w.heap.size w w' := by
  refine (V12_calls b f g d p q b' f' g' d' p' q' N w (Yes w) ?_).mono fun e w' ⟨v, he, hv, hk⟩ => ⟨by rw [he, hv], hk.below0⟩
  unfold V12
  refine alc_at fun b2 w1 hb2 hC k1 => ?_
  refine alc_at fun b3 w2 hb3 hD k2 => ?_
  have hC := hC.keep0 k2
  have z1 := k1.size
  have z2 := k2.size
  have lC := hC.lt
  have lD := hD.lt
  have k02 := k1.then0 k2
  refine ⟨fun s w3 => w3 = w2 ∧ 0 ≤ s.1 ∧ s.1 ≤ 3000, ?_, ?_⟩
  · refine pif_of (fun h => ⟨rfl, by decide, by decide⟩) fun h => ⟨rfl, ?_⟩
    simp at h; exact ⟨by show 0 ≤ N; omega, by show N ≤ 3000; omega⟩
  rintro ⟨n, ⟨⟩⟩ w3 ⟨rfl, hn0, hn1⟩
  simp only [] at hn0 hn1 ⊢
  obtain ⟨l, code, hl, hcode, hP⟩ := planOf b f g d p q hn0 hn1
  obtain ⟨l', code', hl', hcode', hP'⟩ := planOf b' f' g' d' p' q' hn0 hn1
  refine ld6 hC ?_
  refine cl_of ok21 (hP w3) fun e w4 ⟨x1, c1, he, k4, hO1, hf1⟩ => ⟨_, _, _, _, he, ?_⟩
  have z4 := k4.size
  have hC4 := hC.keep0 k4
  refine ld6 hC4 ?_
  refine cl_of ok21 (hP w4) fun e w5 ⟨x2, c2, he, k5, hO2, hf2⟩ => ⟨_, _, _, _, he, ?_⟩
  have z5 := k5.size
  have lt1 := hO1.lt
  have lt2 := hO2.lt
  refine copy_app hl (hO1.keep0 k5) fun xw cw w7 hOw hfw k7 => ?_
  have z7 := k7.size
  have ltw := hOw.lt
  refine ld6 (((hD.keep0 k4).keep0 k5).keep0 k7) ?_
  refine cl_of ok21 (hP' w7) fun e w8 ⟨x4, c4, he, k8, hO4, hf4⟩ => ⟨_, _, _, _, he, ?_⟩
  have z8 := k8.size
  have lt4 := hO4.lt
  refine copy_app hl' hO4 fun xt ct w10 hOt hft k10 => ?_
  have z10 := k10.size
  have ltt := hOt.lt
  have k410 : Keep None w4 w10 := ((k5.then0 k7).then0 k8).then0 k10
  have k510 : Keep None w5 w10 := (k7.then0 k8).then0 k10
  have k710 : Keep None w7 w10 := k8.then0 k10
  have hC10 := hC4.keep0 k410
  refine ld6 hC10 ?_
  refine cl_of ok18 (make18 b f g d p q w10) fun e w11 ⟨v, he, k11, hv⟩ => ?_
  have z11 := k11.size
  -- the rest, behind the Pace's calls
  have rest : ∀ w22, Keep None w10 w22 →
      ldI .i64 w22 ((⟨b2, 0, none⟩ : Addr).add 0) fun x98 =>
      ldI .i64 w22 ((⟨b2, 0, none⟩ : Addr).add 1) fun x99 =>
      ldI .i64 w22 ((⟨b2, 0, none⟩ : Addr).add 2) fun x100 =>
      ldF .f64 w22 ((⟨b2, 0, none⟩ : Addr).add 3) fun x101 =>
      ldI .i64 w22 ((⟨b2, 0, none⟩ : Addr).add 4) fun x102 =>
      ldI .i64 w22 ((⟨b2, 0, none⟩ : Addr).add 5) fun x103 =>
      cl Try.prog 21 [.agg #[.int .i64 x98, .int .i64 x99, .int .i64 x100, .float .f64 x101, .int .i64 x102, .int .i64 x103], .int .i64 n] w22 fun e106 w27 => ∃ (x104 : Option Addr) (x104n x104c : Nat), ∃ x105 : Int, e106 = Ending.returned (.tuple #[.slice x104 x104n x104c, .int .i64 x105]) ∧
      cl Try.prog 23 [.slice x1 l.length c1, .slice xw l.length cw] w27 fun e109 w28 => ∃ x108 : Bool, e109 = Ending.returned (.bool x108) ∧
      gd (α := Bool) (!(!x108)) (fun k110 =>
        cl Try.prog 23 [.slice x2 l.length c2, .slice xw l.length cw] w28 fun e112 w29 => ∃ x111 : Bool, e112 = Ending.returned (.bool x111) ∧
        k110 x111 w29) false w28 fun x113 w30 =>
      gd (α := Bool) (!(cond (!x108) true (!x113))) (fun k114 =>
        cl Try.prog 23 [.slice x104 x104n x104c, .slice xw l.length cw] w30 fun e116 w31 => ∃ x115 : Bool, e116 = Ending.returned (.bool x115) ∧
        k114 x115 w31) false w30 fun x117 w32 =>
      gd (α := Bool) (!(cond (cond (!x108) true (!x113)) true (!x117))) (fun k118 =>
        cl Try.prog 23 [.slice x4 l'.length c4, .slice xt l'.length ct] w32 fun e120 w33 => ∃ x119 : Bool, e120 = Ending.returned (.bool x119) ∧
        k118 x119 w33) false w32 fun x121 w34 =>
      pif (cond (cond (cond (!x108) true (!x113)) true (!x117)) true (!x121)) (
        Yes w (.bool false) w34) (
        alc w34 [.slice x1 l.length c1, .slice x2 l.length c2, .slice x104 x104n x104c, .slice x4 l'.length c4] 43 fun b124 w35 =>
        cl Try.prog 25 [.slice (some (⟨b124, 0, none⟩ : Addr)) 4 4] w35 fun e126 w36 => ∃ x125 : Bool, e126 = Ending.returned (.bool x125) ∧
        pif (!x125) (
          Yes w (.bool false) w36) (
          ldI .i64 w36 ((⟨b2, 0, none⟩ : Addr).add 0) fun x129 =>
          ldI .i64 w36 ((⟨b2, 0, none⟩ : Addr).add 1) fun x130 =>
          ldI .i64 w36 ((⟨b2, 0, none⟩ : Addr).add 2) fun x131 =>
          ldF .f64 w36 ((⟨b2, 0, none⟩ : Addr).add 3) fun x132 =>
          ldI .i64 w36 ((⟨b2, 0, none⟩ : Addr).add 4) fun x133 =>
          ldI .i64 w36 ((⟨b2, 0, none⟩ : Addr).add 5) fun x134 =>
          cl Try.prog 21 [.agg #[.int .i64 x129, .int .i64 x130, .int .i64 x131, .float .f64 x132, .int .i64 x133, .int .i64 x134], .int .i64 n] w36 fun e137 w37 => ∃ (x135 : Option Addr) (x135n x135c : Nat), ∃ x136 : Int, e137 = Ending.returned (.tuple #[.slice x135 x135n x135c, .int .i64 x136]) ∧
          gd (α := Bool) (x136 == code) (fun k139 =>
            cl Try.prog 23 [.slice x135 x135n x135c, .slice xw l.length cw] w37 fun e141 w38 => ∃ x140 : Bool, e141 = Ending.returned (.bool x140) ∧
            k139 x140 w38) false w37 fun x142 w39 =>
          gd (α := (Int × Int × Int × Nat × Int × Int × Unit)) (cond (x136 == code) x142 false) (fun k143 =>
            ldI .i64 w39 ((⟨b2, 0, none⟩ : Addr).add 0) fun x144 =>
            ldI .i64 w39 ((⟨b2, 0, none⟩ : Addr).add 1) fun x145 =>
            ldI .i64 w39 ((⟨b2, 0, none⟩ : Addr).add 2) fun x146 =>
            ldF .f64 w39 ((⟨b2, 0, none⟩ : Addr).add 3) fun x147 =>
            ldI .i64 w39 ((⟨b2, 0, none⟩ : Addr).add 4) fun x148 =>
            ldI .i64 w39 ((⟨b2, 0, none⟩ : Addr).add 5) fun x149 =>
            k143 (x144, x145, x146, x147, x148, x149, ()) w39) (0, 0, 0, 0, 0, 0, ()) w39 fun x150 w40 =>
          gd (α := Bool) (cond (x136 == code) x142 false) (fun k151 =>
            cl Try.prog 13 [.agg #[.int .i64 x150.1, .int .i64 x150.2.1, .int .i64 x150.2.2.1, .float .f64 x150.2.2.2.1, .int .i64 x150.2.2.2.2.1, .int .i64 x150.2.2.2.2.2.1]] w40 fun e153 w41 => ∃ x152 : Bool, e153 = Ending.returned (.bool x152) ∧
            k151 x152 w41) false w40 fun x154 w42 =>
          gd (α := Int) (cond (cond (x136 == code) x142 false) ((code == 0) == x154) false) (fun k155 =>
            cl Try.prog 15 [.int .i64 7] w42 fun e157 w43 => ∃ x156 : Int, e157 = Ending.returned (.int .i64 x156) ∧
            k155 x156 w43) 0 w42 fun x158 w44 =>
          Yes w (.bool (cond (cond (cond (x136 == code) x142 false) ((code == 0) == x154) false) (x158 == 4) false)) w44)) := by
    intro w22 k22
    have z22 := k22.size
    have hC22 := hC10.keep0 k22
    refine ld6 hC22 ?_
    refine cl_of ok21 (hP w22) fun e w27 ⟨x3, c3, he, k27, hO3, hf3⟩ => ⟨_, _, _, _, he, ?_⟩
    have z27 := k27.size
    have lt3 := hO3.lt
    have k1027 := k22.then0 k27
    have A1 := (hO1.keep0 k410).keep0 k1027
    have A2 := (hO2.keep0 k510).keep0 k1027
    have Aw := (hOw.keep0 k710).keep0 k1027
    have A4 := (hO4.keep0 k10).keep0 k1027
    have At := hOt.keep0 k1027
    refine cl_of ok23 (same23 (rd_of_own A1) (rd_of_own Aw) (by omega)) fun e w28 ⟨he, k28⟩ => ⟨_, he, ?_⟩
    refine gd_t rfl (cl_of ok23 (same23 (rd_of_own (A2.keep0 k28)) (rd_of_own (Aw.keep0 k28)) (by omega)) fun e w29 ⟨he, k29⟩ => ⟨_, he, ?_⟩)
    have k29' := k28.then0 k29
    refine gd_t rfl (cl_of ok23 (same23 (rd_of_own (hO3.keep0 k29')) (rd_of_own (Aw.keep0 k29')) (by omega)) fun e w31 ⟨he, k31⟩ => ⟨_, he, ?_⟩)
    have k31' := k29'.then0 k31
    refine gd_t rfl (cl_of ok23 (same23 (rd_of_own (A4.keep0 k31')) (rd_of_own (At.keep0 k31')) (by omega)) fun e w34 ⟨he, k34⟩ => ⟨_, he, ?_⟩)
    have k34' := k31'.then0 k34
    refine pif_f rfl ?_
    refine alc_at fun b124 w35 hb124 hB k35 => ?_
    have k35' := k34'.then0 k35
    have z34 := k34'.size
    have z35 := k35'.size
    have lB := hB.lt
    have hLs : Apart.Ls w35 (-1) (some ⟨b124, 0, none⟩) 4 4 [(x1, l.length, c1), (x2, l.length, c2), (x3, l.length, c3), (x4, l'.length, c4)] (fun _ _ => True)
        (own6 w3.heap.size w4.heap.size w5.heap.size w7.heap.size w8.heap.size w22.heap.size w27.heap.size w34.heap.size) := by
      refine ⟨Or.inr ⟨b124, _, rfl, hB, Nat.le_refl _, by decide, rfl, rfl⟩, fun k x hx => ?_, ?_, fun k x hx i hi => ?_⟩
      · have hk := (List.getElem?_eq_some_iff.1 hx).1
        simp only [List.length_cons, List.length_nil] at hk
        have hk : k = 0 ∨ k = 1 ∨ k = 2 ∨ k = 3 := by omega
        rcases hk with rfl | rfl | rfl | rfl <;> (simp only [List.getElem?_cons_zero, List.getElem?_cons_succ, Option.some.injEq] at hx; subst hx)
        · exact ⟨l, A1.keep0 k35', trivial⟩
        · exact ⟨l, A2.keep0 k35', trivial⟩
        · exact ⟨l, hO3.keep0 k35', trivial⟩
        · exact ⟨l', A4.keep0 k35', trivial⟩
      · rintro i ⟨a, ha, rfl⟩
        cases ha
        exact own6_4 (by omega) (by omega) (by omega) (by omega) (by omega) (by omega) (by omega) (by show w34.heap.size ≤ b124; omega)
      · have hk := (List.getElem?_eq_some_iff.1 hx).1
        simp only [List.length_cons, List.length_nil] at hk
        have hk : k = 0 ∨ k = 1 ∨ k = 2 ∨ k = 3 := by omega
        rcases hk with rfl | rfl | rfl | rfl <;> (simp only [List.getElem?_cons_zero, List.getElem?_cons_succ, Option.some.injEq] at hx; subst hx; simp only [] at hi)
        · exact own6_0 (by omega) (by omega) (by omega) (by omega) (by omega) (by omega) (by omega) (hf1 i hi) (lt1 i hi)
        · exact own6_1 (by omega) (by omega) (by omega) (by omega) (by omega) (by omega) (by omega) (hf2 i hi) (lt2 i hi)
        · exact own6_2 (by omega) (by omega) (by omega) (by omega) (by omega) (by omega) (by omega) (hf3 i hi) (lt3 i hi)
        · exact own6_3 (by omega) (by omega) (by omega) (by omega) (by omega) (by omega) (by omega) (hf4 i hi) (lt4 i hi)
    refine cl_of ok25 (Apart.apart hLs (by omega) fun k x hx => ?_) fun e w36 ⟨he, k36⟩ => ⟨_, he, pif_f rfl ?_⟩
    · have hk := (List.getElem?_eq_some_iff.1 hx).1
      simp only [List.length_cons, List.length_nil] at hk
      have hk : k = 0 ∨ k = 1 ∨ k = 2 ∨ k = 3 := by omega
      rcases hk with rfl | rfl | rfl | rfl <;> (simp only [List.getElem?_cons_zero, List.getElem?_cons_succ, Option.some.injEq] at hx; subst hx; simp only []; omega)
    have hS : ∀ i, Apart.Lists (own6 w3.heap.size w4.heap.size w5.heap.size w7.heap.size w8.heap.size w22.heap.size w27.heap.size w34.heap.size) i → w3.heap.size ≤ i ∧ ¬ (w5.heap.size ≤ i ∧ i < w7.heap.size) := by
      intro i hi
      simp only [Apart.Lists, own6] at hi
      constructor
      · by_cases h : i < w3.heap.size
        · rw [if_pos h] at hi; omega
        · omega
      · rintro ⟨h1, h2⟩
        rw [if_neg (by omega), if_neg (by omega), if_neg (by omega), if_pos h2] at hi
        omega
    have kw35 : Keep None w w35 := ((((k02.then0 k4).then0 k410).then0 k22).then0 k27).then0 k35'
    have kw36 : Keep None w w36 := keep_none_of kw35 k36 fun i hi => by have := (hS i hi).1; omega
    have hC36 := ((hC22.keep0 k27).keep0 k35').keep k36 fun hi => by have := (hS _ hi).1; omega
    have Aw36 := (Aw.keep0 k35').keep k36 fun i hi hs => (hS i hs).2 ⟨hfw i hi, ltw i hi⟩
    refine ld6 hC36 ?_
    refine cl_of ok21 (hP w36) fun e w37 ⟨x5, c5, he, k37, hO5, hf5⟩ => ⟨_, _, _, _, he, ?_⟩
    have ecc : (code == code) = true := by simp
    refine gd_t ecc (cl_of ok23 (same23 (rd_of_own hO5) (rd_of_own (Aw36.keep0 k37)) (by omega)) fun e w38 ⟨he, k38⟩ => ⟨_, he, ?_⟩)
    have k38' := k37.then0 k38
    have et : cond (code == code) true false = true := by rw [ecc]; rfl
    refine gd_t et (ld6 (hC36.keep0 k38') ?_)
    refine gd_t et (cl_of ok13 (formed13 b f g d p q w38) fun e w41 ⟨he, k41⟩ => ⟨_, he, ?_⟩)
    have e2 : cond (cond (code == code) true false) ((code == 0) == formed b f g d p) false = true := by
      rw [et, hcode]
      cases formed b f g d p <;> rfl
    refine gd_t e2 (cl_of ok15 (luby15 7 w41 (by omega)) fun e w43 ⟨he, hw⟩ => ⟨_, he, ?_⟩)
    subst hw
    have hl7 : lub 7 = 4 := by rw [lub_end (by omega) (by decide)]; decide
    show Yes w (.bool (cond _ (((lub 7 : Nat) : Int) == 4) false)) _
    rw [hl7, e2]
    exact ⟨rfl, (kw36.then0 k38').then0 k41⟩
  -- the Pace
  rcases hv with ⟨hf, rfl⟩ | ⟨hf, A, hA0, hA, rfl, hR⟩
  · refine ⟨_, _, _, _, he, ?_⟩
    refine alc_at fun b57 w12 hb57 h57 k12 => ?_
    simp only [add_mk, Nat.zero_add, Nat.add_zero]
    refine st_of h57 (by simp) rfl fun w13 h57 k13 _ => ?_
    refine st_of h57 (by simp) rfl fun w14 h57 k14 _ => ?_
    refine st_of h57 (by simp) rfl fun w15 h57 k15 _ => ?_
    have k1115 : Keep None w11 w15 := ((k12.then1 k13 (by omega)).then1 k14 (by omega)).then1 k15 (by omega)
    rw [hf] at hcode
    subst hcode
    refine pif_f rfl ?_
    refine gd_f rfl (gd_f rfl (gd_f rfl (gd_f rfl (gd_f rfl (gd_f rfl (pif_f rfl ?_))))))
    refine jn_of ?_
    refine pif_f rfl ?_
    exact rest _ (k11.then0 k1115)
  · refine ⟨_, _, _, _, he, ?_⟩
    refine alc_at fun b57 w12 hb57 h57 k12 => ?_
    simp only [add_mk, Nat.zero_add, Nat.add_zero]
    refine st_of h57 (by simp) rfl fun w13 h57 k13 _ => ?_
    refine st_of h57 (by simp) rfl fun w14 h57 k14 _ => ?_
    refine st_of h57 (by simp) rfl fun w15 h57 k15 _ => ?_
    have k1115 : Keep None w11 w15 := ((k12.then1 k13 (by omega)).then1 k14 (by omega)).then1 k15 (by omega)
    have z15 := k1115.size
    rw [hf] at hcode
    subst hcode
    refine pif_f rfl ?_
    refine gd_t rfl (ldV_of (h57.cell 0) ?_)
    refine gd_t rfl ⟨rfl, ?_⟩
    refine gd_t rfl (ldV_of (h57.cell 1) ?_)
    refine gd_t rfl ⟨rfl, ?_⟩
    refine gd_t rfl (ldV_of (h57.cell 2) ?_)
    refine gd_t rfl ⟨rfl, ?_⟩
    refine pif_f rfl ?_
    refine jn_of ?_
    refine pif_t rfl ?_
    have hA' := hA
    obtain ⟨o1, o2, o3, o4, o5, o6⟩ := hA
    have hR := hR.keep k1115 (fun h => h) (fun h => h) (fun h => h) (fun h => h) (fun h => h) fun h => h
    simp only [add_mk, Nat.zero_add, Nat.add_zero] at rest
    refine lp_of (fun s w3 => 0 ≤ s.1 ∧ s.1 ≤ n ∧ Keep None w10 w3 ∧ (∃ n r l k j, PRep w3 A b f g n r l k j ∧ k < 9223372036854775808) ∧ Blk w3 b57 [fc A, fr A, fl A] 34) (fun s _ => (n - s.1).toNat)
      ⟨by simp, by simpa using hn0, k11.then0 k1115, ⟨_, _, _, _, _, hR, by omega⟩, h57⟩ ?_
    rintro ⟨i, ⟨⟩⟩ w23 ⟨i0, i1, k23, ⟨pn, pr, pl, pk, pj, hR, hpk⟩, h57⟩
    simp only [] at i0 i1 ⊢
    refine pif_of (fun hlt => ?_) fun hge => rest _ k23
    have hlt : i < n := by simpa using hlt
    have hbw : w11.heap.size ≤ b57 := by omega
    refine ldV_of (h57.cell 0) (clF_of (cl_of ok28 (conflict28 hA' hR) fun e w24 ⟨he, k24, hR⟩ => ⟨he, ?_⟩))
    have h57 := h57.keep1 k24 (by omega)
    refine ldV_of (h57.cell 1) (clF_of (cl_of ok29 (restart29 hA' hR hpk) fun e w25 ⟨he, k25, hR⟩ => ⟨_, he, ?_⟩))
    have h57 := h57.keep k25 (fun h => by rcases h with h | h <;> omega)
    refine ldV_of (h57.cell 2) (clF_of (cl_of ok30 (clear30 hA' hR) fun e w26 ⟨he, k26, hR⟩ => ⟨_, he, ?_⟩))
    have h57 := h57.keep k26 (fun h => by rcases h with h | h <;> omega)
    have e1 : IntKind.wrap .i64 (i + 1) = i + 1 := by rw [IntKind.wrap_i64]; omega
    rw [e1]
    refine ⟨⟨by omega, by omega, ?_, ⟨_, _, _, _, _, hR, ?_⟩, h57⟩, by omega⟩
    · exact keep_none_of (keep_none_of (keep_none_of k23 k24 fun i h => by have : i = A.c := h; omega) k25 fun i h => by rcases h with h | h <;> omega) k26 fun i h => by rcases h with h | h <;> omega
    · cases due b (wr (pn + 1)) pr pk with
      | true => exact wr_lt _
      | false => exact hpk
end Go.Proofs.Ytkpoagdhekimpaa.Pace
