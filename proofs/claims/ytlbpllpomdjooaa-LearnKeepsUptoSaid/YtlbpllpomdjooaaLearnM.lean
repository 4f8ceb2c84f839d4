/- The document's Learn. -/
import Derived.Test.YtlbpllpomdjooaaLearnL
set_option linter.unusedVariables false
set_option linter.unusedSimpArgs false
set_option maxRecDepth 100000
namespace Go.Proofs.Ytlbpllpomdjooaa.Learn
open Go Go.Proofs.Ytlbpllpomdjooaa.Vc Go.Proofs.Ytlbpllpomdjooaa.T
open Go.Proofs.Ytlbpllpomdjooaa.Apart (RdL own_rdl wrap_nat getE own_len copy same take_snoc Sl sv Gro)
open Go.Proofs.Ytlbpllpomdjooaa.Lits (Td Srt)

/-- the reasons' lists have no more elements than room -/
def Rc (w : World) (p : Option Addr) (es : List En) : Prop := ∀ (i : Nat) (x : En), es[i]? = some x → ∃ a q rn rc, p = some a ∧ w.cell? ((a.add (i * 3)).add 2) = some (.slice q rn rc) ∧ rn ≤ rc
theorem Rc.keep0 {w w' : World} {p : Option Addr} {es : List En} (h : Rc w p es) (hk : Keep None w w') : Rc w' p es := fun i x hx => by
  obtain ⟨a, q, rn, rc, e, hc, hl⟩ := h i x hx
  exact ⟨a, q, rn, rc, e, hk.cell hc fun h => h, hl⟩
section
variable {w w' : World} {p q : Option Addr} {n m c d : Nat} {es : List En} {cs : List Int}
/-- .. an entry at its place, its reason's room told -/
theorem RdE.ixc (h : RdE w p n es) (hR : Rc w p es) {i : Nat} {x : En} (hx : es[i]? = some x) {K : Addr → Prop}
    (hk : ∀ a q rn rc, w.cell? (a.add 0) = some (I x.lit) → w.cell? (a.add 1) = some (I x.lev) → w.cell? (a.add 2) = some (.slice q rn rc) → RdL w q rn x.rs → rn ≤ rc → K a) : ixA p n (i : Int) 3 K := by
  have hl := h.len
  have hi := (List.getElem?_eq_some_iff.1 hx).1
  obtain ⟨a, q, rn, rc, rfl, c0, c1, c2, hr⟩ := h.cell i x hx
  obtain ⟨a', q', rn', rc', e, c2', hle⟩ := hR i x hx
  injection e with e
  subst e
  rw [c2] at c2'
  simp only [Option.some.injEq, Value.slice.injEq] at c2'
  obtain ⟨rfl, rfl, rfl⟩ := c2'
  refine ⟨by omega, by omega, ?_⟩
  show K _
  rw [Int.toNat_natCast]
  exact hk _ q rn rc c0 c1 c2 hr hle
theorem level50 (hF : Fm es) (h : RdE w p n es) (hn : n ≤ 1048576) (l : Int) : Calls Try.prog 50 #[.slice p n c, I l] w fun e w' => e = .returned (I (lvl es l)) ∧ Keep None w w' := by
  refine ans_of (V50_calls p n c l w (Ans w _) ?_)
  unfold V50
  refine cl_of ok36 (place36 h (by omega) l) fun e w1 ⟨v, he, hv, k1⟩ => ⟨_, he, ?_⟩
  rcases hv with ⟨rfl, hno⟩ | ⟨i, x, rfl, hx, hl, _⟩
  · refine pif_t rfl ⟨?_, k1⟩
    rw [lvl_none hno]
  · refine pif_f (decide_eq_false (by omega)) ((h.keep0 k1).ix hx fun a ⟨_, _, _, _, c1, _⟩ => ldI_of c1 ⟨?_, k1⟩)
    rw [lvl_of hF hx hl]
/-- the place of a false literal's entry -/
def plc (es : List En) (l : Int) : Nat := es.findIdx fun x => decide (x.lit = neg l)
theorem plc_of (hF : Fm es) {i : Nat} {x : En} {l : Int} (hx : es[i]? = some x) (hl : x.lit = neg l) : plc es l = i := by
  have hi := (List.getElem?_eq_some_iff.1 hx).1
  have hlt : plc es l < es.length := by
    unfold plc
    rw [List.findIdx_lt_length]
    exact ⟨x, List.mem_of_getElem? hx, by simpa using hl⟩
  have hp := List.findIdx_getElem (w := hlt)
  have hp : (es[plc es l]'hlt).lit = neg l := of_decide_eq_true hp
  exact lit_one hF (List.getElem?_eq_getElem hlt) hx (hp.trans hl.symm)
theorem place_of (hF : Fm es) (h : RdE w p n es) (hn : n ≤ 1048576) {l : Int} (hm : ∃ y ∈ es, y.lit = neg l) : Calls Try.prog 36 #[.slice p n c, I l] w fun e w' => e = .returned (I (plc es l : Nat)) ∧ Keep None w w' :=
  (place36 h (by omega) l).mono fun e w' ⟨v, he, hv, k⟩ => by
    rcases hv with ⟨rfl, hno⟩ | ⟨i, x, rfl, hx, hl, _⟩
    · obtain ⟨y, hy, e⟩ := hm
      exact absurd e (hno y hy)
    · rw [plc_of hF hx hl]; exact ⟨he, k⟩
/-- how many of the clause are of the level; the last of them -/
def Ls (es : List En) (top : Int) (L : List Int) (k : Nat) (o : Int) : Prop :=
  k = (L.filter fun l => decide (lvl es l = top)).length ∧ ((k = 0 ∧ o = 0) ∨ (o ∈ L ∧ lvl es o = top ∧ ∀ l ∈ L, lvl es l = top → plc es l ≤ plc es o))
theorem last51 (hF : Fm es) (hE : RdE w p n es) (hn : n ≤ 1048576) {L : List Int} (hC : RdL w q m L) (hm : m ≤ 2097153) (hL : ∀ l ∈ L, fl l = true ∧ ∃ y ∈ es, y.lit = neg l) (top : Int) :
    Calls Try.prog 51 #[.slice p n c, .slice q m d, I top] w fun e w' => ∃ k o, e = .returned (.tuple #[I (k : Nat), I o]) ∧ Ls es top L k o ∧ Keep None w w' := by
  refine (V51_calls p n c q m d top w (fun v w' => ∃ (k : Nat) (o : Int), v = .tuple #[I (k : Nat), I o] ∧ Ls es top L k o ∧ Keep None w w') ?_).mono fun e w' ⟨v, he, k, o, hv, hk⟩ => ⟨k, o, by rw [he, hv], hk⟩
  unfold V51
  have hcl := hC.len
  refine lp_of (fun s W => ∃ (i k : Nat), s.2.2.1 = (i : Int) ∧ i ≤ m ∧ s.1 = (k : Int) ∧ k ≤ i ∧ Ls es top (L.take i) k s.2.1 ∧ Keep None w W) (fun s _ => (m - s.2.2.1).toNat)
    ⟨0, 0, rfl, Nat.zero_le _, rfl, Nat.le_refl _, ⟨rfl, Or.inl ⟨rfl, rfl⟩⟩, Keep.refl _ _⟩ ?_
  rintro ⟨v5, o, v7, ⟨⟩⟩ W ⟨i, k, rfl, hi, rfl, hki, hLs, kW⟩
  simp only [] at hLs ⊢
  refine pif_of (fun hlt => ?_) fun hge => ?_
  · have hlt : i < m := by simpa using hlt
    refine jn_of ?_
    rw [wrap_nat i (by omega), wrap_nat k (by omega)]
    have hE' := hE.keep0 kW
    refine (hC.keep0 kW).ix hlt fun a x hx ha => ldI_of ha (cl_of ok50 (level50 hF hE' hn x) fun e W1 ⟨he, k1⟩ => ⟨_, he, ?_⟩)
    have kW1 := kW.then0 k1
    obtain ⟨hxf, hxe⟩ := hL x (List.mem_of_getElem? hx)
    have hx0 : x ≠ 0 := (fl_iff.1 hxf).1
    have tk : ∀ l, l ∈ L.take (i + 1) ↔ l ∈ L.take i ∨ l = x := fun l => by rw [take_snoc hx, List.mem_append, List.mem_singleton]
    obtain ⟨hk, ho⟩ := hLs
    refine pif_of (fun ht => ?_) fun ht => ?_
    · have ht : lvl es x = top := by simpa using ht
      have fk : ((L.take (i + 1)).filter fun l => decide (lvl es l = top)).length = k + 1 := by
        rw [take_snoc hx, List.filter_append, List.length_append, ← hk, List.filter_cons_of_pos (by simpa using ht)]; rfl
      have fin : ∀ (V : World) (o' : Int), Keep None w V → o' ∈ L.take (i + 1) → lvl es o' = top → (∀ l ∈ L.take (i + 1), lvl es l = top → plc es l ≤ plc es o') →
          (∃ (i' k' : Nat), ((i + 1 : Nat) : Int) = (i' : Int) ∧ i' ≤ m ∧ ((k + 1 : Nat) : Int) = (k' : Int) ∧ k' ≤ i' ∧ Ls es top (L.take i') k' o' ∧ Keep None w V) ∧ ((m : Int) - ((i + 1 : Nat) : Int)).toNat < ((m : Int) - (i : Int)).toNat :=
        fun V o' kV h1 h2 h3 => ⟨⟨i + 1, k + 1, rfl, hlt, rfl, by omega, ⟨fk.symm, Or.inr ⟨h1, h2, h3⟩⟩, kV⟩, by omega⟩
      have hxin : x ∈ L.take (i + 1) := (tk x).2 (Or.inr rfl)
      have take : ∀ V : World, Keep None w V → (∀ l ∈ L.take i, lvl es l = top → plc es l ≤ plc es x) → ixA q m (i : Int) 1 fun p37 => ldI .i64 V p37 fun x38 =>
          (∃ (i' k' : Nat), ((i + 1 : Nat) : Int) = (i' : Int) ∧ i' ≤ m ∧ ((k + 1 : Nat) : Int) = (k' : Int) ∧ k' ≤ i' ∧ Ls es top (L.take i') k' x38 ∧ Keep None w V) ∧ ((m : Int) - ((i + 1 : Nat) : Int)).toNat < ((m : Int) - (i : Int)).toNat := fun V kV h => by
        refine (hC.keep0 kV).ix hlt fun a y hy ha => ldI_of ha ?_
        rw [hx] at hy; injection hy with hy; subst hy
        refine fin V x kV hxin ht fun l hl hlt => ?_
        rcases (tk l).1 hl with hl | rfl
        · exact h l hl hlt
        · exact Nat.le_refl _
      rcases ho with ⟨hk0, rfl⟩ | ⟨ho1, ho2, ho3⟩
      · refine gd_f rfl (gd_f rfl (gd_f rfl (gd_f rfl (pif_t rfl ?_))))
        refine take W1 kW1 fun l hl hlt => ?_
        have : (L.take i).filter (fun l => decide (lvl es l = top)) = [] := List.eq_nil_of_length_eq_zero (by omega)
        have hm : l ∈ (L.take i).filter (fun l => decide (lvl es l = top)) := List.mem_filter.2 ⟨hl, by simpa using hlt⟩
        rw [this] at hm; cases hm
      · obtain ⟨hof, hoe⟩ := hL o ((List.take_sublist _ _).subset ho1)
        have e0 : (!(o == 0)) = true := by have := (fl_iff.1 hof).1; simpa using this
        refine gd_t e0 ((hC.keep0 kW1).ix hlt fun a y hy ha => gd_t e0 (ldI_of ha ?_))
        rw [hx] at hy; injection hy with hy; subst hy
        refine gd_t e0 (cl_of ok36 (place_of hF (hE.keep0 kW1) hn hxe) fun e W2 ⟨he, k2⟩ => ⟨_, he, ?_⟩)
        have kW2 := kW1.then0 k2
        refine gd_t e0 (cl_of ok36 (place_of hF (hE.keep0 kW2) hn hoe) fun e W3 ⟨he, k3⟩ => ⟨_, he, ?_⟩)
        have kW3 := kW2.then0 k3
        have e1 : (o == 0) = false := by have := (fl_iff.1 hof).1; simpa using this
        rw [e1]
        by_cases hgt : plc es x > plc es o
        · refine pif_t (decide_eq_true (by omega)) ?_
          exact take W3 kW3 fun l hl hlt => by have := ho3 l hl hlt; omega
        · refine pif_f (decide_eq_false (by omega)) ?_
          refine fin W3 o kW3 ((tk o).2 (Or.inl ho1)) ho2 fun l hl hlt => ?_
          rcases (tk l).1 hl with hl | rfl
          · exact ho3 l hl hlt
          · omega
    · have ht : ¬ lvl es x = top := by simpa using ht
      have fk : ((L.take (i + 1)).filter fun l => decide (lvl es l = top)).length = k := by
        rw [take_snoc hx, List.filter_append, List.length_append, ← hk, List.filter_cons_of_neg (by simpa using ht)]; rfl
      refine ⟨⟨i + 1, k, rfl, hlt, rfl, by omega, ⟨fk.symm, ho.imp id fun ⟨h1, h2, h3⟩ => ⟨(tk o).2 (Or.inl h1), h2, fun l hl hlt => ?_⟩⟩, kW1⟩, by omega⟩
      rcases (tk l).1 hl with hl | rfl
      · exact h3 l hl hlt
      · exact absurd hlt ht
  · have hge : i = m := by simp at hge; omega
    subst hge
    rw [← hcl, List.take_length] at hLs
    exact ⟨k, o, rfl, hLs, kW⟩
theorem srt_nd {L : List Int} (h : Srt L) : L.Nodup := h.imp fun hab e => by rw [e] at hab; omega
theorem learn21 (hE : RdE w p n es) (hR : Rc w p es) (hn : n ≤ 1048576) (hc : n ≤ c) (hr : ∀ x ∈ es, x.rs.length ≤ 1048576) (hC : RdL w q m cs) (hm : m ≤ 1048576) (hd : m ≤ d) :
    Calls Try.prog 21 #[.slice p n c, .slice q m d] w fun e w' => ∃ v, e = .returned v ∧ Learnt es cs w v w' := by
  refine V21_calls p n c q m d w (Learnt es cs w) ?_
  unfold V21
  have hcl := hC.len
  have hel := hE.len
  refine cl_of ok45 (asked45 hE hn hc hr hC hm) fun e w1 ⟨u, he, hu, k1⟩ => ⟨_, he, ?_⟩
  by_cases hu0 : u = 0
  case neg =>
    exact pif_t (by simpa using hu0) ⟨u, 0, none, 0, 0, [], rfl, ⟨hu, Or.inl ⟨hu0, rfl, rfl⟩⟩, Own.nil _ _ _, (fun i ⟨a, h, _⟩ => by cases h), k1⟩
  subst hu0
  have hu' := hu
  obtain ⟨hFals, hF, hall⟩ : Fals es cs ∧ Fm es ∧ cs.all fl = true := by
    rcases hu with ⟨h, _⟩ | ⟨h, _⟩ | ⟨_, h⟩
    · cases h
    · cases h
    · exact h
  have hrun := lev_run hF (by omega)
  have hok : ∀ l ∈ cs, fl l = true ∧ ∃ y ∈ es, y.lit = neg l := fun l hl => ⟨List.all_eq_true.1 hall l hl, hFals l hl⟩
  have lv0 : ∀ l, (∃ y ∈ es, y.lit = neg l) → 0 ≤ lvl es l := fun l ⟨y, hy, e⟩ => by
    obtain ⟨i, hi⟩ := List.mem_iff_getElem?.1 hy
    rw [lvl_of hF hi e]; exact (hrun i y hi).1
  refine pif_f rfl ?_
  refine cl_of ok49 (Lits.tidyR m w1 q d cs (hC.keep0 k1) (by omega) hd) fun e w2 ⟨v, L0, he, hT0, g0, gc0, hv, hO0, hf0, k2⟩ => ⟨_, _, _, he.trans (congrArg Ending.returned hv), ?_⟩
  have k02 := k1.then0 k2
  have hL0 : ∀ l, l ∈ L0 ↔ l ∈ cs := fun l => by rw [hT0.mem]; exact ⟨fun h => h.1, fun h => ⟨h, (hok l h).1⟩⟩
  have hT0l := hT0.len
  refine lp_of (fun s W => ∃ i : Nat, s.2.1 = (i : Int) ∧ i ≤ L0.length ∧ Mx es (· ∈ L0.take i) s.1 ∧ Keep None w2 W) (fun s _ => (L0.length - s.2.1).toNat)
    ⟨0, rfl, Nat.zero_le _, Mx.nil (fun l (h : l ∈ L0.take 0) => by cases h), Keep.refl _ _⟩ ?_
  rintro ⟨top, i', ⟨⟩⟩ W ⟨i, rfl, hi, hMx, kW⟩
  simp only [] at hMx ⊢
  have hR0 : ∀ {V : World}, Keep None w2 V → RdL V g0 L0.length L0 := fun k => (own_rdl hO0).keep0 k
  have hEk : ∀ {V : World}, Keep None w2 V → RdE V p n es := fun k => hE.keep0 (k02.then0 k)
  refine pif_of (fun hlt => ?_) fun hge => ?_
  · have hlt : i < L0.length := by simpa using hlt
    refine jn_of ?_
    rw [wrap_nat i (by omega)]
    refine (hR0 kW).ix hlt fun a l hl ha => ldI_of ha (cl_of ok50 (level50 hF (hEk kW) hn l) fun e W1 ⟨he, k1'⟩ => ⟨_, he, ?_⟩)
    have kW1 := kW.then0 k1'
    have hlo := hok l ((hL0 l).1 (List.mem_of_getElem? hl))
    have hMx' := hMx.add (M' := (· ∈ L0.take (i + 1))) (fun x => by rw [take_snoc hl, List.mem_append, List.mem_singleton]) (lv0 l hlo.2)
    refine pif_of (fun hg => ?_) fun hg => ?_
    · have hg : lvl es l > top := by simpa using hg
      rw [if_pos hg] at hMx'
      refine (hR0 kW1).ix hlt fun a y hy ha => ldI_of ha (cl_of ok50 (level50 hF (hEk kW1) hn y) fun e W2 ⟨he, k2'⟩ => ⟨_, he, ?_⟩)
      rw [hl] at hy; injection hy with hy; subst hy
      exact ⟨⟨i + 1, rfl, hlt, hMx', kW1.then0 k2'⟩, by omega⟩
    · have hg : ¬ lvl es l > top := by simpa using hg
      rw [if_neg hg] at hMx'
      exact ⟨⟨i + 1, rfl, hlt, hMx', kW1⟩, by omega⟩
  have hge : i = L0.length := by simp at hge; omega
  subst hge
  rw [List.take_length] at hMx
  have hMc : Mx es (· ∈ cs) top := hMx.same fun l => (hL0 l).symm
  by_cases ht0 : top = 0
  · subst ht0
    exact pif_t rfl ⟨0, -1, none, 0, 0, [], rfl, ⟨hu', Or.inr ⟨rfl, 0, hMc, Or.inl ⟨rfl, rfl, rfl⟩⟩⟩, Own.nil _ _ _, (fun i ⟨a, h, _⟩ => by cases h), k02.then0 kW⟩
  have htop : 0 < top := by have := hMx.2.1; omega
  refine pif_f (by simpa using ht0) ?_
  refine cl_of ok51 (last51 hF (hEk kW) hn (hR0 kW) hT0l (fun l hl => hok l ((hL0 l).1 hl)) top) fun e W1 ⟨k, o, he, hLs, kl⟩ => ⟨_, _, he, ?_⟩
  have kW1 := kW.then0 kl
  have hRk : ∀ {V : World}, Keep None w2 V → Rc V p es := fun k => hR.keep0 (k02.then0 k)
  refine lp_of (fun s X => ∃ (L : List Int) (S : Int → Prop) (k : Nat), s.1.2.1 = L.length ∧ L.length ≤ s.1.2.2 ∧ RdL X s.1.1 s.1.2.1 L ∧ Srt L ∧ (∀ l, l ∈ L ↔ S l) ∧ (∀ l, S l → fl l = true ∧ ∃ y ∈ es, y.lit = neg l) ∧ (∀ l, S l → lvl es l ≤ top) ∧
      s.2.1 = (k : Int) ∧ 1 ≤ k ∧ Ls es top L k s.2.2.1 ∧ (∀ o F, Lrn es top S o F → Lrn es top (· ∈ cs) o F) ∧ Keep None w2 X) (fun s _ => plc es s.2.2.1)
    ⟨L0, (· ∈ cs), k, rfl, hO0.le.1, hR0 kW1, hT0.srt, hL0, hok, hMc.1, rfl, ?_, hLs, fun o F h => h, kW1⟩ ?_
  · rcases hMc.2.2 with h | ⟨l, hl, e⟩
    · omega
    · have hm : l ∈ L0.filter fun l => decide (lvl es l = top) := List.mem_filter.2 ⟨(hL0 l).2 hl, by simpa using e⟩
      have := List.length_pos_of_mem hm
      rw [← hLs.1] at this
      omega
  clear hLs kl kW1 kW hMx
  rintro ⟨⟨g, gn, gc⟩, k', o, ⟨⟩⟩ X ⟨L, S, k, rfl, hgc, hRL, hSr, hLS, hS, hSl, rfl, hk1, hLs, hLr, kX⟩
  simp only [] at hRL hLs hgc ⊢
  have hSf : ∀ x ∈ L, Lits.fl x = true := fun x hx => (hS x ((hLS x).1 hx)).1
  have hLl := Lits.srt_len hSr hSf
  obtain ⟨hk, ho⟩ := hLs
  rcases ho with ⟨hk0, _⟩ | ⟨hoL, hot, hom⟩
  · omega
  obtain ⟨hof, y, hy, hyl⟩ := hS o ((hLS o).1 hoL)
  obtain ⟨i, hx⟩ := List.mem_iff_getElem?.1 hy
  have hpo := plc_of hF hx hyl
  have hoy : neg y.lit = o := by rw [hyl, neg_neg hof]
  have hlev : y.lev = top := by rw [← lvl_of hF hx hyl]; exact hot
  have hGt : Gt es top S i y := ⟨hx, hlev, by rw [hoy]; exact (hLS o).1 hoL, fun j z hj hz hzt hzS => by
    have hzl : z.lit = neg (neg z.lit) := (neg_neg (hF j z hz).1).symm
    have := hom _ ((hLS _).2 hzS) (by rw [lvl_of hF hz hzl]; exact hzt)
    rw [plc_of hF hz hzl, hpo] at this
    omega⟩
  have hnd := srt_nd hSr
  have alone : k = 1 ↔ Alone es top S y := by
    unfold Alone
    rw [hk, hoy]
    have hnd2 : (L.filter fun l => decide (lvl es l = top)).Nodup := hnd.sublist (List.filter_sublist ..)
    have hmem : ∀ l, l ∈ (L.filter fun l => decide (lvl es l = top)) ↔ S l ∧ lvl es l = top := fun l => by rw [List.mem_filter, hLS, decide_eq_true_eq]
    generalize L.filter (fun l => decide (lvl es l = top)) = G at *
    constructor
    · intro hG l hl hlt
      obtain ⟨g', rfl⟩ := List.length_eq_one_iff.1 hG
      have a := (hmem l).2 ⟨hl, hlt⟩
      have b := (hmem o).2 ⟨(hLS o).1 hoL, hot⟩
      simp at a b
      rw [a, b]
    · intro hall
      match G, hnd2, hmem with
      | [], _, hmem => have := (hmem o).2 ⟨(hLS o).1 hoL, hot⟩; cases this
      | [g'], _, _ => rfl
      | a :: b :: t, hnd2, hmem =>
        have ha := (hmem a).1 (by simp)
        have hb := (hmem b).1 (by simp)
        rw [hall a ha.1 ha.2, hall b hb.1 hb.2] at hnd2
        simp at hnd2
  refine pif_of (fun hgt => ?_) fun hle => ?_
  · have hgt : 1 < k := by simp at hgt; omega
    have hAl : ¬ Alone es top S y := fun h => by have := alone.2 h; omega
    refine cl_of ok36 (place_of hF (hEk kX) hn ⟨y, hy, hyl⟩) fun e X1 ⟨he, k1'⟩ => ⟨_, he, ?_⟩
    rw [hpo]
    have kd := k1'.drew
    have kX1 := kX.then0 kd
    refine RdE.ixc (hEk kX1) (hRk kX1) hx fun a rq rn rc c0 c1 c2 hrq hrc => ldC_of c2 ?_
    have hrl := hrq.len
    have hrn := hr y hy
    refine cl_of ok53 (Lits.withoutR o (hRL.keep0 kd) (by omega) hgc) fun e X2 ⟨v, La, he, hTa, ga, gca, hv, hOa, hfa, k2'⟩ => ⟨_, _, _, he.trans (congrArg Ending.returned hv), ?_⟩
    refine ⟨ldC_of (k2'.cell c2 fun h => h) rfl, ?_⟩
    refine cl_of ok53 (Lits.withoutR (neg o) (hrq.keep0 k2') (by omega) hrc) fun e X3 ⟨v, Lb, he, hTb, gb, gcb, hv, hOb, hfb, k3'⟩ => ⟨_, _, _, he.trans (congrArg Ending.returned hv), ?_⟩
    have la := hTa.len
    have lb := hTb.len
    refine cl_of ok52 (Lits.joinR (own_rdl (hOa.keep0 k3')) (own_rdl hOb) (by omega) hOa.le.1 (by omega) hOb.le.1) fun e X4 ⟨v, Lc, he, hTc, gc', gcc, hv, hOc, hfc, k4'⟩ => ⟨_, _, _, he.trans (congrArg Ending.returned hv), ?_⟩
    have kX4 : Keep None w2 X4 := ((kX1.then0 k2').then0 k3').then0 k4'
    have hmc : ∀ l, l ∈ Lc ↔ nxt S y l := fun l => by
      rw [hTc.mem, hTa.mem, hTb.mem, hLS]
      unfold nxt
      rw [hoy]
      have e1 : neg o = y.lit := hyl.symm
      rw [e1]
      constructor
      · rintro ⟨h | h, hf⟩
        · exact Or.inl h.1
        · exact Or.inr h.1
      · rintro (h | h)
        · exact ⟨Or.inl ⟨h, (hS l h.1).1⟩, (hS l h.1).1⟩
        · have := (rs_ok hF y hy l h.1 h.2).1
          exact ⟨Or.inr ⟨h, this⟩, this⟩
    have hS' : ∀ l, nxt S y l → fl l = true ∧ ∃ z ∈ es, z.lit = neg l := fun l hl => by
      rcases hl with h | h
      · exact hS l h.1
      · exact rs_ok hF y hy l h.1 h.2
    refine cl_of ok51 (last51 hF (hEk kX4) hn (own_rdl hOc) hTc.len (fun l hl => hS' l ((hmc l).1 hl)) top) fun e X5 ⟨k2, o2, he, hLs2, k5'⟩ => ⟨_, _, he, ?_⟩
    have hk2 : 1 ≤ k2 := by
      have h2 : ∃ l, S l ∧ lvl es l = top ∧ l ≠ o := Classical.byContradiction fun hno => hAl fun l hl hlt => by
        rw [hoy]
        exact Classical.byContradiction fun hne => hno ⟨l, hl, hlt, hne⟩
      obtain ⟨l, hl, hlt, hne⟩ := h2
      have hm : l ∈ Lc.filter fun l => decide (lvl es l = top) := List.mem_filter.2 ⟨(hmc l).2 (Or.inl ⟨hl, by rw [hoy]; exact hne⟩), by simpa using hlt⟩
      have := List.length_pos_of_mem hm
      rw [← hLs2.1] at this
      omega
    refine ⟨⟨Lc, nxt S y, k2, rfl, hOc.le.1, (own_rdl hOc).keep0 k5', hTc.srt, hmc, hS', fun l hl => ?_, rfl, hk2, hLs2, fun o F h => hLr o F (Lrn.step hGt hAl h), kX4.then0 k5'⟩, ?_⟩
    · rcases hl with h | h
      · exact hSl l h.1
      · obtain ⟨j, z, hj, hz, hzl⟩ := rs_ahead hF hx h.1 h.2
        rw [lvl_of hF hz hzl, ← hlev]
        exact (hrun i y hx).2.2 j z (by omega) hz
    · show plc es o2 < i
      rcases hLs2.2 with ⟨h, _⟩ | ⟨h1, h2, _⟩
      · omega
      · rcases (hmc o2).1 h1 with ⟨hs, hne⟩ | ⟨hs, hne⟩
        · have hle := hom o2 ((hLS o2).2 hs) h2
          rw [hpo] at hle
          obtain ⟨_, z, hz, hzl⟩ := hS o2 hs
          obtain ⟨j, hj⟩ := List.mem_iff_getElem?.1 hz
          rw [plc_of hF hj hzl] at hle ⊢
          have : j ≠ i := fun e => by
            subst e
            rw [hx] at hj; injection hj with hj; subst hj
            rw [hoy] at hne
            exact hne (by rw [← neg_neg (hS o2 hs).1, ← hzl, hoy])
          omega
        · obtain ⟨j, z, hj, hz, hzl⟩ := rs_ahead hF hx hs hne
          rw [plc_of hF hz hzl]; exact hj
  · have hle : k = 1 := by simp at hle; omega
    have hL := hLr _ _ (Lrn.done hGt (alone.1 hle))
    rw [hoy] at hL
    refine alc_at fun b60 X1 hb60 hB60 k1' => ?_
    have kX1 := kX.then0 k1'
    have szX := kX.size
    have sz02 := k02.size
    have sz1 := k1'.size
    have hG0 : Gro X X1 (some ⟨b60, 0, none⟩) 1 1 [o] := ⟨Or.inr ⟨b60, _, rfl, hB60, Nat.le_refl _, by simp only [maxLen]; omega, rfl, rfl⟩, fun j ⟨a, h, h'⟩ => by cases h; simp only [] at h'; omega, k1'⟩
    refine lp_of (fun s Y => ∃ (i : Nat), s.2.2.1 = (i : Int) ∧ i ≤ L.length ∧ s.1.2.1 ≤ i + 1 ∧ Gro X Y s.1.1 s.1.2.1 s.1.2.2 (o :: (L.take i).filter fun l => decide (l ≠ o ∧ 0 < lvl es l)) ∧ Mx es (· ∈ (L.take i).filter fun l => decide (l ≠ o ∧ 0 < lvl es l)) s.2.1) (fun s _ => (L.length - s.2.2.1).toNat)
      ⟨0, rfl, Nat.zero_le _, Nat.le_refl _, hG0, Mx.nil (fun l (h : l ∈ (L.take 0).filter _) => by simp at h)⟩ ?_
    rintro ⟨⟨r, rn, rc⟩, bk, j', ⟨⟩⟩ Y ⟨j, rfl, hj, hrn, hG, hMb⟩
    simp only [] at hrn hG hMb ⊢
    refine pif_of (fun hlt => ?_) fun hge => ?_
    · have hlt : j < L.length := by simpa using hlt
      refine jn_of ?_
      rw [wrap_nat j (by omega)]
      have kY := hG.keep
      refine (hRL.keep0 kY).ix hlt fun a l hl ha => ldI_of ha (cl_of ok50 (level50 hF (hEk (kX.then0 kY)) hn l) fun e Y1 ⟨he, k1''⟩ => ⟨_, he, ?_⟩)
      have kY1 := kY.then0 k1''
      have hlS := (hLS l).1 (List.mem_of_getElem? hl)
      refine (hRL.keep0 kY1).ix hlt fun a l' hl' ha => ldI_of ha ?_
      rw [hl] at hl'; injection hl' with hl'; subst hl'
      have hGk := hG.keep0 k1''
      by_cases hin : l ≠ o ∧ 0 < lvl es l
      · have sn : (L.take (j + 1)).filter (fun l => decide (l ≠ o ∧ 0 < lvl es l)) = (L.take j).filter (fun l => decide (l ≠ o ∧ 0 < lvl es l)) ++ [l] := by
          rw [take_snoc hl, List.filter_append, List.filter_cons_of_pos (by simpa using hin)]; rfl
        have e0 : (l != o) = true := by simpa using hin.1
        refine pif_t (by rw [e0, decide_eq_true hin.2]; rfl) ?_
        refine (hRL.keep0 kY1).ix hlt fun a l' hl' ha => ldI_of ha ?_
        rw [hl] at hl'; injection hl' with hl'; subst hl'
        refine hGk.app (by omega) fun p' c' Y2 hG' => ?_
        have hMb' := hMb.add (M' := (· ∈ (L.take (j + 1)).filter (fun l => decide (l ≠ o ∧ 0 < lvl es l)))) (fun x => by rw [sn, List.mem_append, List.mem_singleton]) (by omega)
        rw [List.cons_append, ← sn] at hG'
        refine pif_of (fun hg => ?_) fun hg => ?_
        · have hg : lvl es l > bk := by simpa using hg
          rw [if_pos hg] at hMb'
          exact ⟨⟨j + 1, rfl, hlt, by show rn + 1 ≤ _; omega, hG', hMb'⟩, by omega⟩
        · have hg : ¬ lvl es l > bk := by simpa using hg
          rw [if_neg hg] at hMb'
          exact ⟨⟨j + 1, rfl, hlt, by show rn + 1 ≤ _; omega, hG', hMb'⟩, by omega⟩
      · have sn : (L.take (j + 1)).filter (fun l => decide (l ≠ o ∧ 0 < lvl es l)) = (L.take j).filter (fun l => decide (l ≠ o ∧ 0 < lvl es l)) := by
          rw [take_snoc hl, List.filter_append, List.filter_cons_of_neg (by simpa using hin)]; simp
        have e0 : (cond (l != o) (decide (lvl es l > 0)) false) = false := by
          by_cases h : l = o
          · simp [h]
          · have : ¬ 0 < lvl es l := fun h' => hin ⟨h, h'⟩
            have e1 : (l != o) = true := by simpa using h
            rw [e1, decide_eq_false this]; rfl
        refine pif_f e0 ⟨⟨j + 1, rfl, hlt, by show rn ≤ _; omega, by rw [sn]; exact hGk, by rw [sn]; exact hMb⟩, by omega⟩
    · have hge : j = L.length := by simp at hge; omega
      subst hge
      rw [List.take_length] at hG hMb
      refine ⟨0, bk, r, rn, rc, _, rfl, ⟨hu', Or.inr ⟨rfl, top, hMc, Or.inr ⟨htop, o, S, _, hL, ⟨hSr.sublist (List.filter_sublist ..), fun l => ?_⟩, rfl, hMb⟩⟩⟩, hG.own, fun j hj => ?_, (k02.then0 kX).then0 hG.keep⟩
      · rw [List.mem_filter, hLS, decide_eq_true_eq]
        exact ⟨fun h => ⟨⟨h.1, h.2⟩, (hS l h.1).1⟩, fun h => h.1⟩
      · have := hG.new j hj; omega
end
end Go.Proofs.Ytlbpllpomdjooaa.Learn
