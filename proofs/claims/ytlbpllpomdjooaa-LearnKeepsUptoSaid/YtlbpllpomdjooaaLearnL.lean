/- The program's Learn. -/
import Derived.Test.YtlbpllpomdjooaaLearnK
import Derived.Test.YtlbpllpomdjooaaVcW
import Derived.Test.YtlbpllpomdjooaaTL20
set_option linter.unusedVariables false
set_option linter.unusedSimpArgs false
set_option maxRecDepth 100000
namespace Go.Proofs.Ytlbpllpomdjooaa.Learn
open Go Go.Proofs.Ytlbpllpomdjooaa.Vc Go.Proofs.Ytlbpllpomdjooaa.T
open Go.Proofs.Ytlbpllpomdjooaa.Apart (RdL own_rdl wrap_nat getE own_len copy same take_snoc Sl sv)
open Go.Proofs.Ytlbpllpomdjooaa.Lits (Td Srt)

def keys (f : List (Int × Int)) : List Int := f.map fun p : Int × Int => p.1
structure In (f : List (Int × Int)) (S : Int → Prop) : Prop where
  nd : (keys f).Nodup
  mem : ∀ l, l ∈ keys f ↔ S l
  one : ∀ p ∈ f, p.2 = 1
theorem mget_in (l : Int) : ∀ {f : List (Int × Int)}, (∀ p ∈ f, p.2 = 1) → mget l f = if l ∈ keys f then 1 else 0 := by
  intro f
  induction f with
  | nil => intro _; rfl
  | cons p f ih =>
    intro h
    unfold mget
    by_cases hp : p.1 = l
    · rw [if_pos hp, h p (by simp), if_pos (by simp [keys, hp])]
    · rw [if_neg hp, ih fun q hq => h q (by simp [hq])]
      have : l ∈ keys (p :: f) ↔ l ∈ keys f := by
        simp only [keys, List.map_cons, List.mem_cons]
        exact ⟨fun h => h.elim (fun e => absurd e.symm hp) id, Or.inr⟩
      simp only [this]
theorem mput_mem {k v : Int} {p : Int × Int} : ∀ {f : List (Int × Int)}, p ∈ mput k v f → p ∈ f ∨ p = (k, v) := by
  intro f
  induction f with
  | nil => intro h; simp [mput] at h; exact Or.inr h
  | cons q f ih =>
    intro h
    unfold mput at h
    split at h
    · rcases List.mem_cons.1 h with h | h
      · exact Or.inr h
      · exact Or.inl (by simp [h])
    · rcases List.mem_cons.1 h with h | h
      · exact Or.inl (by simp [h])
      · exact (ih h).imp (fun h => by simp [h]) id
theorem mhas_keys (k : Int) : ∀ f : List (Int × Int), mhas k f = true ↔ k ∈ keys f := by
  intro f
  induction f with
  | nil => simp [mhas, keys]
  | cons p f ih =>
    simp only [mhas, Bool.or_eq_true, decide_eq_true_eq, ih, keys, List.map_cons, List.mem_cons]
    exact ⟨fun h => h.imp Eq.symm id, fun h => h.imp Eq.symm id⟩
theorem In.get {f : List (Int × Int)} {S : Int → Prop} (h : In f S) (l : Int) : (S l ∧ mget l f = 1) ∨ (¬ S l ∧ mget l f = 0) := by
  rw [mget_in l h.one]
  by_cases hl : S l
  · exact Or.inl ⟨hl, if_pos ((h.mem l).2 hl)⟩
  · exact Or.inr ⟨hl, if_neg fun hh => hl ((h.mem l).1 hh)⟩
theorem In.put {f : List (Int × Int)} {S : Int → Prop} (h : In f S) (l : Int) : In (mput l 1 f) (fun x => S x ∨ x = l) := by
  have hk : keys (mput l 1 f) = addS (keys f) l := mput_keys l 1 f
  refine ⟨?_, fun x => ?_, fun p hp => ?_⟩
  · rw [hk]
    unfold addS
    split
    · exact h.nd
    · rename_i hno
      rw [List.nodup_append]
      exact ⟨h.nd, by simp, fun a ha b hb => by simp at hb; subst hb; exact fun e => hno (e ▸ ha)⟩
  · rw [hk]
    unfold addS
    split
    · rename_i hin
      rw [h.mem]
      exact ⟨Or.inl, fun hh => hh.elim id fun e => by rw [e]; exact (h.mem l).1 hin⟩
    · rw [List.mem_append, List.mem_singleton, h.mem]
  · rcases mput_mem hp with hp | rfl
    · exact h.one p hp
    · rfl
theorem keys_del {k : Int} : ∀ {f : List (Int × Int)}, (keys f).Nodup → (keys (mdel k f)).Nodup ∧ (∀ l, l ∈ keys (mdel k f) ↔ l ∈ keys f ∧ l ≠ k) := by
  intro f
  induction f with
  | nil => intro _; exact ⟨List.nodup_nil, fun l => ⟨fun h => by simp [keys, mdel] at h, fun h => by simp [keys] at h⟩⟩
  | cons p f ih =>
    intro hn
    have hn' : p.1 ∉ keys f ∧ (keys f).Nodup := by simpa [keys] using hn
    unfold mdel
    split
    · rename_i hp
      refine ⟨hn'.2, fun l => ⟨fun h => ⟨by simp only [keys, List.map_cons, List.mem_cons]; exact Or.inr h, fun e => hn'.1 (by rw [hp, ← e]; exact h)⟩, fun ⟨h, hne⟩ => ?_⟩⟩
      simp only [keys, List.map_cons, List.mem_cons] at h
      exact h.elim (fun e => absurd (e.trans hp) hne) id
    · rename_i hp
      obtain ⟨h1, h2⟩ := ih hn'.2
      have e : keys (p :: mdel k f) = p.1 :: keys (mdel k f) := rfl
      have e2 : keys (p :: f) = p.1 :: keys f := rfl
      rw [e, e2]
      refine ⟨List.nodup_cons.2 ⟨fun h => hn'.1 ((h2 _).1 h).1, h1⟩, fun l => ?_⟩
      rw [List.mem_cons, List.mem_cons, h2]
      exact ⟨fun h => h.elim (fun e => ⟨Or.inl e, by rw [e]; exact hp⟩) fun h => ⟨Or.inr h.1, h.2⟩, fun ⟨h, hne⟩ => h.elim Or.inl fun h => Or.inr ⟨h, hne⟩⟩
theorem mdel_sub {k : Int} {p : Int × Int} : ∀ {f : List (Int × Int)}, p ∈ mdel k f → p ∈ f := by
  intro f
  induction f with
  | nil => intro h; cases h
  | cons q f ih =>
    intro h
    unfold mdel at h
    split at h
    · simp [h]
    · rcases List.mem_cons.1 h with h | h
      · simp [h]
      · simp [ih h]
theorem In.del {f : List (Int × Int)} {S : Int → Prop} (h : In f S) (l : Int) : In (mdel l f) (fun x => S x ∧ x ≠ l) :=
  ⟨(keys_del h.nd).1, fun x => by rw [(keys_del h.nd).2, h.mem], fun p hp => h.one p (mdel_sub hp)⟩
theorem In.iff {f : List (Int × Int)} {S S' : Int → Prop} (h : In f S) (hs : ∀ l, S' l ↔ S l) : In f S' := ⟨h.nd, fun l => by rw [h.mem, hs], h.one⟩
theorem In.len {f : List (Int × Int)} {S : Int → Prop} (h : In f S) (hf : ∀ l, S l → fl l = true) : f.length ≤ 2097153 := by
  have := pigeon (-1048576) 2097153 (keys f) h.nd fun x hx => by
    have := fl_iff.1 (hf x ((h.mem x).1 hx))
    omega
  simpa [keys] using this
/-- how many are of the level -/
def cnt (es : List En) (top : Int) (f : List (Int × Int)) : Nat := (f.filter fun p : Int × Int => decide (lvl es p.1 = top)).length
section
variable {es : List En} {top : Int} {f : List (Int × Int)} {S : Int → Prop}
theorem cnt_put (h : In f S) {l : Int} (hl : ¬ S l) : cnt es top (mput l 1 f) = cnt es top f + if lvl es l = top then 1 else 0 := by
  have hm : mhas l f = false := by
    rw [← Bool.not_eq_true, mhas_keys]; exact fun hh => hl ((h.mem l).1 hh)
  rw [mput_no hm]
  unfold cnt
  rw [List.filter_append, List.length_append]
  congr 1
  by_cases e : lvl es l = top
  · rw [if_pos e, List.filter_cons_of_pos (by simpa using e)]; rfl
  · rw [if_neg e, List.filter_cons_of_neg (by simpa using e)]; rfl
theorem cnt_del {l : Int} : ∀ {f : List (Int × Int)}, l ∈ keys f → cnt es top (mdel l f) + (if lvl es l = top then 1 else 0) = cnt es top f := by
  intro f
  induction f with
  | nil => intro h; simp [keys] at h
  | cons p f ih =>
    intro h
    unfold mdel
    by_cases hp : p.1 = l
    · rw [if_pos hp]
      unfold cnt
      by_cases e : lvl es l = top
      · rw [if_pos e, List.filter_cons_of_pos (by simpa [hp] using e)]; rfl
      · rw [if_neg e, List.filter_cons_of_neg (by simpa [hp] using e)]; rfl
    · rw [if_neg hp]
      have h' : l ∈ keys f := by
        simp only [keys, List.map_cons, List.mem_cons] at h
        exact h.elim (fun e => absurd e.symm hp) id
      have ih := ih h'
      unfold cnt at ih ⊢
      by_cases e : lvl es p.1 = top
      · rw [List.filter_cons_of_pos (by simpa using e), List.filter_cons_of_pos (by simpa using e), List.length_cons, List.length_cons]; omega
      · rw [List.filter_cons_of_neg (by simpa using e), List.filter_cons_of_neg (by simpa using e)]; exact ih
theorem cnt_pos (h : In f S) (hc : 1 ≤ cnt es top f) : ∃ l, S l ∧ lvl es l = top := by
  unfold cnt at hc
  obtain ⟨p, hp⟩ := getE (show 0 < (f.filter fun p : Int × Int => decide (lvl es p.1 = top)).length by omega)
  have hm := List.mem_filter.1 (List.mem_of_getElem? hp)
  exact ⟨p.1, (h.mem _).1 (List.mem_map.2 ⟨p, hm.1, rfl⟩), by simpa using hm.2⟩
theorem cnt_one (h : In f S) {l0 : Int} (h0 : S l0) (h1 : lvl es l0 = top) : cnt es top f = 1 ↔ ∀ l, S l → lvl es l = top → l = l0 := by
  have hnd : ((f.filter fun p : Int × Int => decide (lvl es p.1 = top)).map fun p : Int × Int => p.1).Nodup := h.nd.sublist ((List.filter_sublist ..).map _)
  have hmem : ∀ l, S l → lvl es l = top → l ∈ (f.filter fun p : Int × Int => decide (lvl es p.1 = top)).map fun p : Int × Int => p.1 := fun l hl ht => by
    obtain ⟨p, hp, rfl⟩ := List.mem_map.1 ((h.mem l).2 hl)
    exact List.mem_map.2 ⟨p, List.mem_filter.2 ⟨hp, by simpa using ht⟩, rfl⟩
  have hback : ∀ l ∈ (f.filter fun p : Int × Int => decide (lvl es p.1 = top)).map fun p : Int × Int => p.1, S l ∧ lvl es l = top := fun l hl => by
    obtain ⟨p, hp, rfl⟩ := List.mem_map.1 hl
    have := List.mem_filter.1 hp
    exact ⟨(h.mem _).1 (List.mem_map.2 ⟨p, this.1, rfl⟩), by simpa using this.2⟩
  have hGl : ((f.filter fun p : Int × Int => decide (lvl es p.1 = top)).map fun p : Int × Int => p.1).length = cnt es top f := by simp [cnt]
  rw [← hGl]
  clear hGl
  generalize (f.filter fun p : Int × Int => decide (lvl es p.1 = top)).map (fun p : Int × Int => p.1) = G at *
  constructor
  · intro hG l hl ht
    obtain ⟨g, rfl⟩ := List.length_eq_one_iff.1 hG
    have a := hmem l hl ht
    have b := hmem l0 h0 h1
    simp at a b
    rw [a, b]
  · intro hall
    match G, hnd, hback, hmem l0 h0 h1 with
    | [g], _, _, _ => rfl
    | a :: b :: t, hnd, hback, _ =>
      have e1 := hall a (hback a (by simp)).1 (hback a (by simp)).2
      have e2 := hall b (hback b (by simp)).1 (hback b (by simp)).2
      rw [e1, e2] at hnd
      simp at hnd
theorem cnt_perm {g : List (Int × Int)} (h : f.Perm g) : cnt es top f = cnt es top g := (h.filter _).length_eq
theorem cnt_cons (p : Int × Int) (g : List (Int × Int)) : cnt es top (p :: g) = cnt es top g + if lvl es p.1 = top then 1 else 0 := by
  unfold cnt
  by_cases e : lvl es p.1 = top
  · rw [if_pos e, List.filter_cons_of_pos (by simpa using e)]; rfl
  · rw [if_neg e, List.filter_cons_of_neg (by simpa using e)]; rfl
end
/-- what Learn answers -/
def Learnt (es : List En) (cs : List Int) (w : World) (v : Value) (w' : World) : Prop := ∃ (u back : Int) (g : Option Addr) (gn gc : Nat) (cl : List Int), v = .tuple #[.slice g gn gc, I back, I u] ∧ LSpec es cs u back cl ∧ Own w' 3 1 g gn gc (cl.map I) ∧ (∀ j, ob g j → w.heap.size ≤ j) ∧ Keep None w w'
section
variable {w w' : World} {p q : Option Addr} {n m c d : Nat} {es : List En} {cs : List Int}
/-- the closure's surroundings -/
structure Sr (w : World) (es : List En) (b2 b7 ra : Nat) (p : Option Addr) (n c : Nat) (fa : List (Int × Int)) : Prop where
  rd : RdE w p n es
  tr : Blk w b2 [.slice p n c] 22
  am : Blk w b7 [.map (some ra)] 52
  mp : Mp w ra fa
  pm : Pm fa es
theorem Sr.keep0 {b2 b7 ra : Nat} {fa : List (Int × Int)} (h : Sr w es b2 b7 ra p n c fa) (hk : Keep None w w') : Sr w' es b2 b7 ra p n c fa :=
  ⟨h.rd.keep0 hk, h.tr.keep0 hk, h.am.keep0 hk, h.mp.keep0 hk, h.pm⟩
theorem level47 {b2 b7 ra : Nat} {fa : List (Int × Int)} (hF : Fm es) (hn : n ≤ 1048576) (h : Sr w es b2 b7 ra p n c fa) {l : Int} (hl : fl l = true) (hm : ∃ y ∈ es, y.lit = neg l) {R : Ending → World → Prop}
    (hR : ∀ w', Keep None w w' → R (.returned (I (lvl es l))) w') :
    clF Try.prog (.func (.func 47) #[] #[.pointer (some (⟨b2, 0, none⟩ : Addr)), .pointer (some (⟨b7, 0, none⟩ : Addr))]) [I l] w R := by
  refine clF_of ⟨ok47, ?_⟩
  refine ((V47_calls l ⟨b2, 0, none⟩ ⟨b7, 0, none⟩ w (fun v w' => v = I (lvl es l) ∧ Keep None w w') ?_).mono fun e w' ⟨v, he, hv, hk⟩ => by rw [he, hv]; exact hR w' hk)
  unfold V47
  obtain ⟨y, hy, hyl⟩ := hm
  obtain ⟨i, hi⟩ := List.mem_iff_getElem?.1 hy
  have hat := at_of hF h.pm hi
  rw [hyl, neg_neg hl] at hat
  refine ldC_of (h.tr.cell 0) (ldM_of (h.am.cell 0) (lk_of u52 Try.underlying3 z3 h.mp ?_))
  have hlt := (List.getElem?_eq_some_iff.1 hi).1
  have hl := h.rd.len
  have e1 : IntKind.wrap .i64 ((i : Int) + 1 - 1) = (i : Int) := by rw [IntKind.wrap_i64]; omega
  rw [hat, e1]
  refine h.rd.ix hi fun a ⟨_, _, _, _, c1, _⟩ => ldI_of c1 ⟨?_, Keep.refl _ _⟩
  rw [lvl_of hF hi hyl]
theorem learn20 (hE : RdE w p n es) (hn : n ≤ 1048576) (hr : ∀ x ∈ es, x.rs.length ≤ 1048576) (hC : RdL w q m cs) (hm : m ≤ 1048576) :
    Calls Try.prog 20 #[.slice p n c, .slice q m d] w fun e w' => ∃ v, e = .returned v ∧ Learnt es cs w v w' := by
  refine V20_calls p n c q m d w (Learnt es cs w) ?_
  unfold V20
  have hcl := hC.len
  have hel := hE.len
  refine alc_at fun b2 w1 hb2 hB2 k1 => ?_
  refine ldC_of (hB2.cell 0) ?_
  refine cl_of ok40 (places40 (hE.keep0 k1) (by omega)) fun e w2 ⟨ra, fa, he, hra, hM, hP, k2⟩ => ⟨_, he, ?_⟩
  refine alc_at fun b7 w3 hb7 hB7 k3 => ?_
  simp only [add_mk, Nat.add_zero, Nat.zero_add]
  refine st_of hB7 (by simp) rfl fun w4 hB7 k4 e4 => ?_
  simp only [List.set_cons_zero] at hB7
  have k34 : Keep None w2 w4 := k3.then1 k4 (by omega)
  have hB2 := (hB2.keep0 k2).keep0 k34
  have hM := hM.keep0 k34
  have k04 := (k1.then0 k2).then0 k34
  refine ldC_of (hB2.cell 0) (ldM_of (hB7.cell 0) ?_)
  refine cl_of ok43 (asked43 (hE.keep0 k04) hn hr (hC.keep0 k04) hm hM hP) fun e w5 ⟨u, he, hu, k5⟩ => ⟨_, he, ?_⟩
  have k05 := k04.then0 k5
  by_cases hu0 : u = 0
  case neg =>
    exact pif_t (by simpa using hu0) ⟨u, 0, none, 0, 0, [], rfl, ⟨hu, Or.inl ⟨hu0, rfl, rfl⟩⟩, Own.nil _ _ _, (fun i ⟨a, h, _⟩ => by cases h), k05⟩
  subst hu0
  have hu' := hu
  obtain ⟨hFals, hF, hall⟩ : Fals es cs ∧ Fm es ∧ cs.all fl = true := by
    rcases hu with ⟨h, _⟩ | ⟨h, _⟩ | ⟨_, h⟩
    · cases h
    · cases h
    · exact h
  have hrun := lev_run hF (by omega)
  refine pif_f rfl ?_
  have hSr : Sr w5 es b2 b7 ra p n c fa := ⟨hE.keep0 k05, hB2.keep0 k5, hB7.keep0 k5, hM.keep0 k5, hP⟩
  have hok : ∀ l ∈ cs, fl l = true ∧ ∃ y ∈ es, y.lit = neg l := fun l hl => ⟨List.all_eq_true.1 hall l hl, hFals l hl⟩
  have lv0 : ∀ l, (∃ y ∈ es, y.lit = neg l) → 0 ≤ lvl es l := fun l ⟨y, hy, e⟩ => by
    obtain ⟨i, hi⟩ := List.mem_iff_getElem?.1 hy
    rw [lvl_of hF hi e]; exact (hrun i y hi).1
  refine mkmapS_of fun r w6 hrw hM6 k6 => ?_
  refine lp_of (fun s W => ∃ (i : Nat) (f : List (Int × Int)), s.2.1 = (i : Int) ∧ i ≤ m ∧ Mx es (· ∈ cs.take i) s.1 ∧ In f (· ∈ cs.take i) ∧ Ms W r f ∧ Keep None w5 W) (fun s _ => (m - s.2.1).toNat)
    ⟨0, [], rfl, Nat.zero_le _, Mx.nil (fun l (h : l ∈ cs.take 0) => by cases h), ⟨List.nodup_nil, fun l => by simp [keys], fun p h => by cases h⟩, hM6, k6⟩ ?_
  rintro ⟨top, i', ⟨⟩⟩ W ⟨i, f, rfl, hi, hMx, hIn, hMs, kW⟩
  simp only [] at hMx ⊢
  refine pif_of (fun hlt => ?_) fun hge => ?_
  · have hlt : i < m := by simpa using hlt
    rw [wrap_nat i (by omega)]
    refine (hC.keep0 (k05.then0 kW)).ix hlt fun a l hl ha => ldI_of ha ?_
    have hlo := hok l (List.mem_of_getElem? hl)
    refine level47 hF hn (hSr.keep0 kW) hlo.1 hlo.2 fun W1 k1' => ⟨_, rfl, ?_⟩
    refine upS_of u52 Try.underlying3 (hMs.keep0 k1') fun W2 hMs2 k2' z2 => ⟨⟨i + 1, mput l 1 f, rfl, hlt, ?_, ?_, hMs2, (kW.then0 k1').trans k2' fun j hj h => by have : j = r := h; omega⟩, by omega⟩
    · exact hMx.add (fun x => by rw [take_snoc hl, List.mem_append, List.mem_singleton]) (lv0 l hlo.2)
    · exact (hIn.put l).iff fun x => by rw [take_snoc hl, List.mem_append, List.mem_singleton]
  have hge : i = m := by simp at hge; omega
  subst hge
  rw [← hcl, List.take_length] at hMx hIn
  by_cases ht0 : top = 0
  · subst ht0
    exact pif_t rfl ⟨0, -1, none, 0, 0, [], rfl, ⟨hu', Or.inr ⟨rfl, 0, hMx, Or.inl ⟨rfl, rfl, rfl⟩⟩⟩, Own.nil _ _ _, (fun i ⟨a, h, _⟩ => by cases h), k05.then0 kW⟩
  have htop : 0 < top := by have := hMx.2.1; omega
  refine pif_f (by simpa using ht0) ?_
  have hwr : w5.heap.size ≤ r := by omega
  refine range_of u52 hMs fun q37 w10 hq37 hIt k10 => ?_
  have sz10 := kW.size
  have hq5 : w5.heap.size ≤ q37 := by omega
  -- how many are of the greatest level
  refine lp_of (fun s V => ∃ (k : Nat) (todo : List (Int × Int)), s.1 = (k : Int) ∧ It V q37 r f todo ∧ k + cnt es top todo = cnt es top f ∧ (∀ p ∈ todo, p ∈ f) ∧ Keep None w5 V ∧ w10.heap.size ≤ V.heap.size) (fun s V => leftM V r q37)
    ⟨0, f, rfl, hIt, by omega, fun p h => h, kW.then0 k10, Nat.le_refl _⟩ ?_
  rintro ⟨v38, ⟨⟩⟩ V ⟨k, todo, rfl, hItV, hk, hsub, kV, szV⟩
  simp only []
  have flen := hIn.len fun l hl => (hok l hl).1
  have klt : k ≤ f.length := by
    have : cnt es top f ≤ f.length := List.length_filter_le ..
    omega
  refine next_of hItV hItV.ne (fun h0 => ?_) fun p0 todo' V' hp0 hperm hIt' kq sq hent => ?_
  case _ =>
    -- on to the steps back
    subst h0
    have hkc : k = cnt es top f := by simpa [cnt] using hk
    subst hkc
    refine pif_f rfl (ldC_of ((hSr.keep0 kV).tr.cell 0) ?_)
    have hcpos : 1 ≤ cnt es top f := by
      rcases hMx.2.2 with h | ⟨l, hl, e⟩
      · omega
      · have h1 : cnt es top (mdel l f) + (if lvl es l = top then 1 else 0) = cnt es top f := cnt_del ((hIn.mem l).2 hl)
        rw [if_pos e] at h1; omega
    have eN : IntKind.wrap .i64 ((n : Int) - 1) = (n : Int) - 1 := by rw [IntKind.wrap_i64]; omega
    rw [eN]
    refine lp_of (fun s X => ∃ (f : List (Int × Int)) (S : Int → Prop), s.1 = (cnt es top f : Nat) ∧ -1 ≤ s.2.1 ∧ s.2.1 < n ∧ In f S ∧ (∀ l, S l → fl l = true ∧ ∃ y ∈ es, y.lit = neg l) ∧ (∀ l, S l → lvl es l ≤ top) ∧ 1 ≤ cnt es top f ∧
        (∀ (j : Nat) (y : En), s.2.1 < (j : Int) → es[j]? = some y → y.lev = top → ¬ S (neg y.lit)) ∧ (∀ o F, Lrn es top S o F → Lrn es top (· ∈ cs) o F) ∧ Ms X r f ∧ Keep None w5 X) (fun s _ => (s.2.1 + 1).toNat)
      ⟨f, (· ∈ cs), rfl, by show -1 ≤ (n : Int) - 1; omega, by show (n : Int) - 1 < n; omega, hIn, hok, hMx.1, hcpos, fun j y hj hy => ?_, fun o F h => h, hItV.ms, kV⟩ ?_
    · have := (List.getElem?_eq_some_iff.1 hy).1
      have : (n : Int) - 1 < j := hj
      omega
    clear hIn hMs hk hIt hItV hsub klt flen hcpos kV kW k10 hq37 sz10 szV hrw
    rintro ⟨v54, v55, ⟨⟩⟩ X ⟨f, S, rfl, hi0, hin, hIn, hS, hSl, hcpos, hbeh, hLr, hMs, kX⟩
    simp only [] at hi0 hin hbeh ⊢
    obtain ⟨i, rfl⟩ : ∃ i : Nat, v55 = (i : Int) := by
      obtain ⟨l, hl, e⟩ := cnt_pos hIn hcpos
      obtain ⟨hfl, y, hy, hyl⟩ := hS l hl
      obtain ⟨j, hj⟩ := List.mem_iff_getElem?.1 hy
      rw [lvl_of hF hj hyl] at e
      have hny : neg y.lit = l := by rw [hyl, neg_neg hfl]
      have : ¬ v55 < (j : Int) := fun h => hbeh j y h hj e (by rw [hny]; exact hl)
      exact ⟨v55.toNat, by omega⟩
    obtain ⟨x, hx⟩ := getE (show i < es.length by omega)
    have hxf := (hF i x hx).1
    have hxm := List.mem_of_getElem? hx
    have eI : IntKind.wrap .i64 ((i : Int) - 1) = (i : Int) - 1 := by rw [IntKind.wrap_i64]; omega
    refine jn_of ?_
    have hSX := hSr.keep0 kX
    refine ldC_of (hSX.tr.cell 0) (hSX.rd.ix hx fun a0 ⟨_, _, _, c0, c1, c2, hq0⟩ => ldI_of c0 (lk_of u52 Try.underlying3 z3 hMs.mp ?_))
    have goOn : (x.lev = top → ¬ S (neg x.lit)) → (∃ (g : List (Int × Int)) (S : Int → Prop), ((cnt es top f : Nat) : Int) = (cnt es top g : Nat) ∧ -1 ≤ (i : Int) - 1 ∧ (i : Int) - 1 < n ∧ In g S ∧ (∀ l, S l → fl l = true ∧ ∃ y ∈ es, y.lit = neg l) ∧ (∀ l, S l → lvl es l ≤ top) ∧ 1 ≤ cnt es top g ∧
        (∀ (j : Nat) (y : En), (i : Int) - 1 < (j : Int) → es[j]? = some y → y.lev = top → ¬ S (neg y.lit)) ∧ (∀ o F, Lrn es top S o F → Lrn es top (· ∈ cs) o F) ∧ Ms X r g ∧ Keep None w5 X) ∧ ((i : Int) - 1 + 1).toNat < ((i : Int) + 1).toNat := by
      intro hno
      refine ⟨⟨f, S, rfl, by omega, by omega, hIn, hS, hSl, hcpos, fun j y hj hy hyt => ?_, hLr, hMs, kX⟩, by omega⟩
      by_cases hji : (i : Int) < j
      · exact hbeh j y hji hy hyt
      · obtain rfl : j = i := by omega
        rw [hx] at hy; injection hy with hy; subst hy
        exact hno hyt
    rcases hIn.get (neg x.lit) with ⟨hSx, e1⟩ | ⟨hSx, e1⟩
    case inr =>
      rw [show mget (IntKind.wrap .i64 (0 - x.lit)) f = 0 from e1]
      refine gd_f rfl (gd_f rfl (gd_f rfl (pif_t rfl ?_)))
      rw [eI]
      exact goOn fun _ => hSx
    rw [show mget (IntKind.wrap .i64 (0 - x.lit)) f = 1 from e1]
    refine gd_t rfl (ldC_of (hSX.tr.cell 0) (gd_t rfl (hSX.rd.ix hx fun a1 ⟨_, _, _, _, d1, _⟩ => gd_t rfl (ldI_of d1 ?_))))
    by_cases hlev : x.lev = top
    case neg =>
      refine pif_t (by simpa using hlev) ?_
      rw [eI]
      exact goOn fun h => absurd h hlev
    refine pif_f (by simp [hlev]) ?_
    have hGt : Gt es top S i x := ⟨hx, hlev, hSx, fun j y hj hy hyt => hbeh j y (by omega) hy hyt⟩
    have hlx : lvl es (neg x.lit) = top := by rw [lvl_of hF hx (neg_neg hxf).symm]; exact hlev
    have h1 := cnt_one hIn hSx hlx
    have flen := hIn.len fun l hl => (hS l hl).1
    by_cases hc1 : cnt es top f = 1
    · -- one alone is left
      refine pif_t (by simp [hc1]) ?_
      have hAl : Alone es top S x := h1.1 hc1
      have hL := hLr _ _ (Lrn.done hGt hAl)
      refine range_of u52 hMs fun q79 w21 hq79 hIt k21 => ?_
      have szX := kX.size
      have hrX := hMs.lt
      refine lp_of (fun s V => ∃ (todo : List (Int × Int)) (os : List Int), It V q79 r f todo ∧ s.2.1.2.1 = os.length ∧ os.length + todo.length ≤ f.length ∧ Own V 3 1 s.2.1.1 s.2.1.2.1 s.2.1.2.2 (os.map I) ∧ (∀ j, ob s.2.1.1 j → q79 < j) ∧ Keep None w5 V ∧ q79 < V.heap.size ∧
          (keys todo).Nodup ∧ (∀ l, l ∈ os ↔ (S l ∧ l ∉ keys todo) ∧ l ≠ neg x.lit ∧ 0 < lvl es l) ∧ (∀ p ∈ todo, p ∈ f) ∧ Mx es (· ∈ os) s.1) (fun s V => leftM V r q79)
        ⟨f, [], hIt, rfl, by simp, Own.nil _ _ _, (fun i ⟨a, h, _⟩ => by cases h), kX.then0 k21, by have := hIt.lt; omega, hIn.nd, (fun l => ⟨(fun h => by cases h), fun h => absurd ((hIn.mem l).2 h.1.1) h.1.2⟩), (fun p h => h), Mx.nil (fun l (h : l ∈ ([] : List Int)) => by cases h)⟩ ?_
      rintro ⟨bk, ⟨v81, v81n, v81c⟩, ⟨⟩⟩ V ⟨todo, os, hItV, hosn, hlen, hO, hfr, kV, hqV, hnd, hos, hsub, hMxo⟩
      simp only [] at hosn hO hfr hMxo ⊢
      refine next_of hItV hItV.ne (fun h0 => ?_) fun p0 todo' V' hp0 hperm hIt' kq sq hent => ?_
      · -- all are gone through
        subst h0
        refine pif_f rfl (alc_at fun b102 w30 hb102 hB102 k30 => ?_)
        have hO30 := hO.keep0 k30
        refine cl_of ok48 (Lits.tidyP (own_rdl hO30) (by omega)) fun e w31 ⟨v, L, he, hT, g, gc, hv, hOg, hgf, k31⟩ => ⟨_, _, _, he.trans (congrArg Ending.returned hv), ?_⟩
        have hTl := hT.len
        have hB31 := hB102.keep0 k31
        have hOne : Own w31 3 1 (some ⟨b102, 0, none⟩) 1 1 [I (neg x.lit)] := Or.inr ⟨b102, _, rfl, hB31, Nat.le_refl _, by simp only [maxLen]; omega, rfl, rfl⟩
        refine app_of (e := 3) (sz := 1) (z := I 0) (B := 8) Try.underlying25 (by kernel_rfl) rfl (by omega) hOne hOg.news (fun u hu => ?_) (by simp only [maxLen]; omega) (by omega) fun p' c' w32 hO32 kk hpp => ?_
        · obtain ⟨y, _, rfl⟩ := List.mem_map.1 hu; rfl
        have szV := kV.size
        have sz30 := k30.size
        have sz31 := k31.size
        have kE : Keep None w5 w32 := ((kV.then0 k30).then0 k31).trans kk fun j hj ⟨a, h, h'⟩ => by cases h; simp only [] at h'; omega
        have sz5 := k05.size
        refine ⟨0, bk, p', 1 + L.length, c', neg x.lit :: L, rfl, ⟨hu', Or.inr ⟨rfl, top, hMx, Or.inr ⟨htop, neg x.lit, S, L, hL, ⟨hT.srt, fun l => ?_⟩, rfl, ?_⟩⟩⟩, hO32, fun j hj => ?_, k05.then0 kE⟩
        · rw [hT.mem, hos]
          simp only [keys, List.map_nil, List.not_mem_nil, not_false_eq_true, and_true]
        · refine hMxo.same fun l => ?_
          rw [hT.mem]
          exact ⟨fun h => h.1, fun h => ⟨h, (hS l ((hos l).1 h).1.1).1⟩⟩
        · rcases hpp j hj with ⟨a, h, h'⟩ | h
          · cases h; simp only [] at h'; omega
          · omega
      · refine pif_t rfl ⟨_, _, _, hent, ?_⟩
        have hp0S : S p0.1 := (hIn.mem _).1 (List.mem_map.2 ⟨p0, hsub p0 hp0, rfl⟩)
        obtain ⟨hpf, hpe⟩ := hS _ hp0S
        have kV' : Keep None w5 V' := kV.trans kq fun j hj h => by have : j = q79 := h; omega
        have hnd' : p0.1 ∉ keys todo' ∧ (keys todo').Nodup := by
          have := (hperm.map fun p : Int × Int => p.1).nodup_iff.1 hnd
          simpa [keys] using this
        have hkp : ∀ l, l ∈ keys todo ↔ l = p0.1 ∨ l ∈ keys todo' := fun l => by
          have := (hperm.map fun p : Int × Int => p.1).mem_iff (a := l)
          simpa [keys] using this
        have hlen' : todo.length = todo'.length + 1 := by have := hperm.length_eq; simpa using this
        have hsub' : ∀ p ∈ todo', p ∈ f := fun p hp => hsub p (hperm.mem_iff.2 (by simp [hp]))
        have hO' : Own V' 3 1 v81 v81n v81c (os.map I) := hO.keep kq fun j hj h => by have := hfr j hj; have : j = q79 := h; omega
        have hqV' : q79 < V'.heap.size := by omega
        have lft : ∀ {Y : World}, It Y q79 r f todo' → leftM Y r q79 < leftM V r q79 := fun h => by rw [h.left, hItV.left]; omega
        have skip : ∀ {Y : World}, Keep None V' Y → (p0.1 = neg x.lit ∨ ¬ 0 < lvl es p0.1) → (∃ (todo : List (Int × Int)) (os' : List Int), It Y q79 r f todo ∧ v81n = os'.length ∧ os'.length + todo.length ≤ f.length ∧ Own Y 3 1 v81 v81n v81c (os'.map I) ∧ (∀ j, ob v81 j → q79 < j) ∧ Keep None w5 Y ∧ q79 < Y.heap.size ∧
            (keys todo).Nodup ∧ (∀ l, l ∈ os' ↔ (S l ∧ l ∉ keys todo) ∧ l ≠ neg x.lit ∧ 0 < lvl es l) ∧ (∀ p ∈ todo, p ∈ f) ∧ Mx es (· ∈ os') bk) ∧ leftM Y r q79 < leftM V r q79 := by
          intro Y kY hno
          have hItY := hIt'.keep0 kY
          refine ⟨⟨todo', os, hItY, hosn, by omega, hO'.keep0 kY, hfr, kV'.then0 kY, by have := kY.size; omega, hnd'.2, fun l => ?_, hsub', hMxo⟩, lft hItY⟩
          rw [hos]
          refine ⟨fun ⟨⟨a, b⟩, h⟩ => ⟨⟨a, fun hh => b ((hkp l).2 (Or.inr hh))⟩, h⟩, fun ⟨⟨a, b⟩, h⟩ => ⟨⟨a, fun hh => ?_⟩, h⟩⟩
          rcases (hkp l).1 hh with rfl | hh
          · rcases hno with e | e
            · exact h.1 e
            · exact e h.2
          · exact b hh
        show gd (p0.1 != neg x.lit) _ _ _ _
        by_cases hpx : p0.1 = neg x.lit
        · have e0 : (p0.1 != neg x.lit) = false := by simp [hpx]
          refine gd_f e0 (pif_f (by show cond (p0.1 != neg x.lit) _ _ = _; rw [e0]; rfl) ?_)
          exact skip (Keep.refl _ _) (Or.inl hpx)
        have e0 : (p0.1 != neg x.lit) = true := by simpa using hpx
        refine gd_t e0 (level47 hF hn (hSr.keep0 kV') hpf hpe fun V2 k2' => ⟨_, rfl, ?_⟩)
        show pif (cond (p0.1 != neg x.lit) (decide (lvl es p0.1 > 0)) false) _ _
        rw [e0]
        by_cases hl0 : 0 < lvl es p0.1
        case neg =>
          refine pif_f (by simpa using hl0) ?_
          exact skip k2' (Or.inr hl0)
        refine pif_t (by simpa using hl0) ?_
        refine alc_at fun b96 V3 hb96 hB96 k3' => ?_
        have hO3 := (hO'.keep0 k2').keep0 k3'
        refine app_of2 (e := 3) (sz := 1) (z := I 0) (B := 8) Try.underlying25 (by kernel_rfl) rfl (by omega) hO3 hB96.news1 (fun u hu => ?_) (by simp only [maxLen]; omega) (by omega) fun p' c' V4 hO4 hd4 => ?_
        · simp only [List.mem_singleton] at hu; subst hu; rfl
        have sz2 := k2'.size
        have sz3 := k3'.size
        have hK4 : Keep (fun j => q79 < j) V3 V4 ∧ ∀ j, ob p' j → q79 < j := by
          rcases hd4 with ⟨x1, _, _, x2⟩ | ⟨x1, x2⟩
          · exact ⟨x2.mono fun i _ hi => hfr i hi, fun i hi => by rw [x1] at hi; exact hfr i hi⟩
          · exact ⟨x2.none, fun i hi => by have := x1 i hi; omega⟩
        have kV4 : Keep None w5 V4 := ((kV'.then0 k2').then0 k3').trans hK4.1 fun j hj h => by have : q79 < j := h; omega
        have hIt4 : It V4 q79 r f todo' := ((hIt'.keep0 k2').keep0 k3').keep hK4.1 (fun h => by have : q79 < q79 := h; omega) fun h => by have : q79 < r := h; omega
        refine level47 hF hn (hSr.keep0 kV4) hpf hpe fun V5 k5' => ⟨_, rfl, ?_⟩
        have hItY := hIt4.keep0 k5'
        have sz4 := hK4.1.size
        have sz5' := k5'.size
        refine ⟨⟨todo', os ++ [p0.1], hItY, by simp [hosn], by simp; omega, ?_, hK4.2, kV4.then0 k5', by omega, hnd'.2, fun l => ?_, hsub', ?_⟩, lft hItY⟩
        · rw [List.map_append]; exact hO4.keep0 k5'
        · rw [List.mem_append, List.mem_singleton, hos]
          constructor
          · rintro (⟨⟨a, b⟩, h⟩ | rfl)
            · exact ⟨⟨a, fun hh => b ((hkp l).2 (Or.inr hh))⟩, h⟩
            · exact ⟨⟨hp0S, hnd'.1⟩, hpx, hl0⟩
          · rintro ⟨⟨a, b⟩, h⟩
            by_cases e : l = p0.1
            · exact Or.inr e
            · exact Or.inl ⟨⟨a, fun hh => ((hkp l).1 hh).elim e b⟩, h⟩
        · exact hMxo.add (fun l => by rw [List.mem_append, List.mem_singleton]) (by omega)
    · -- a step back
      refine pif_f (by simp; omega) ?_
      have hAl : ¬ Alone es top S x := fun h => hc1 (h1.2 h)
      have hdk : (neg x.lit) ∈ keys f := (hIn.mem _).2 hSx
      have hcd : cnt es top (mdel (neg x.lit) f) + (if lvl es (neg x.lit) = top then 1 else 0) = cnt es top f := cnt_del hdk
      rw [if_pos hlx] at hcd
      have eC : IntKind.wrap .i64 (((cnt es top f : Nat) : Int) - 1) = ((cnt es top (mdel (neg x.lit) f) : Nat) : Int) := by
        have : cnt es top f ≤ f.length := List.length_filter_le ..
        rw [IntKind.wrap_i64]; omega
      rw [eC]
      refine del_of u52 Try.underlying3 hMs fun X1 hMs1 k1' z1' => ?_
      have hwrX : ∀ {j : Nat}, One r j → w5.heap.size ≤ j := fun h => by have : _ = r := h; omega
      have kX1 : Keep None w5 X1 := kX.trans k1' fun j hj h => by have := hwrX h; omega
      have hSX1 := hSr.keep0 kX1
      refine ldC_of (hSX1.tr.cell 0) (hSX1.rd.ix hx fun a2 ⟨rq, rn, rc, _, _, d2, hrq⟩ => ldC_of d2 ?_)
      have hrl := hrq.len
      have hrn := hr x hxm
      refine lp_of (fun s Y => ∃ (j : Nat) (g : List (Int × Int)), s.2.1 = (j : Int) ∧ j ≤ rn ∧ s.1 = (cnt es top g : Nat) ∧ In g (fun l => (S l ∧ l ≠ neg x.lit) ∨ (l ∈ x.rs.take j ∧ l ≠ x.lit)) ∧ 1 ≤ cnt es top g ∧ Ms Y r g ∧ Keep None w5 Y ∧ Keep (One r) X1 Y) (fun s _ => (rn - s.2.1).toNat)
        ⟨0, _, rfl, Nat.zero_le _, rfl, (hIn.del (neg x.lit)).iff fun l => by simp, by omega, hMs1, kX1, Keep.refl _ _⟩ ?_
      rintro ⟨v112, j', ⟨⟩⟩ Y ⟨j, g, rfl, hj, rfl, hIng, hcg, hMg, kY, kXY⟩
      simp only []
      have hSnx : ∀ {k : Nat} (l : Int), (S l ∧ l ≠ neg x.lit) ∨ (l ∈ x.rs.take k ∧ l ≠ x.lit) → fl l = true ∧ ∃ y ∈ es, y.lit = neg l := fun l h => by
        rcases h with h | h
        · exact hS l h.1
        · exact rs_ok hF x hxm l ((List.take_sublist _ _).subset h.1) h.2
      have glen := hIng.len fun l hl => (hSnx l hl).1
      have gcl : cnt es top g ≤ g.length := List.length_filter_le ..
      refine pif_of (fun hlt => ?_) fun hge => ?_
      · have hlt : j < rn := by simpa using hlt
        refine jn_of ?_
        rw [wrap_nat j (by omega)]
        have hSY := hSr.keep0 kY
        have hrqY : RdL Y rq rn x.rs := rdl_keepM hrq hMs1.mp kXY
        refine hrqY.ix hlt fun a3 l hl ha => ldI_of ha (ldC_of (hSY.tr.cell 0) (hSY.rd.ix hx fun a4 ⟨_, _, _, c4, _⟩ => ldI_of c4 ?_))
        have hlm := List.mem_of_getElem? hl
        have tk : ∀ l', l' ∈ x.rs.take (j + 1) ↔ l' ∈ x.rs.take j ∨ l' = l := fun l' => by rw [take_snoc hl, List.mem_append, List.mem_singleton]
        by_cases hlx : l = x.lit
        · have e0 : (l != x.lit) = false := by simp [hlx]
          refine gd_f e0 (pif_f (by rw [e0]; rfl) ⟨⟨j + 1, g, rfl, hlt, rfl, hIng.iff fun l' => ?_, hcg, hMg, kY, kXY⟩, by omega⟩)
          rw [tk]
          exact ⟨fun h => h.imp id fun ⟨a, b⟩ => ⟨a.elim id fun e => absurd (e.trans hlx) b, b⟩, fun h => h.imp id fun ⟨a, b⟩ => ⟨Or.inl a, b⟩⟩
        have e0 : (l != x.lit) = true := by simpa using hlx
        refine gd_t e0 (lk_of u52 Try.underlying3 z3 hMg.mp ?_)
        show pif (cond (l != x.lit) (mget l g == 0) false) _ _
        rw [e0]
        rcases hIng.get l with ⟨hin, e2⟩ | ⟨hin, e2⟩
        · rw [e2]
          refine pif_f rfl ⟨⟨j + 1, g, rfl, hlt, rfl, hIng.iff fun l' => ?_, hcg, hMg, kY, kXY⟩, by omega⟩
          rw [tk]
          refine ⟨fun h => ?_, fun h => h.imp id fun ⟨a, b⟩ => ⟨Or.inl a, b⟩⟩
          rcases h with h | ⟨a | rfl, b⟩
          · exact Or.inl h
          · exact Or.inr ⟨a, b⟩
          · exact hin
        · rw [e2]
          refine pif_t rfl (upS_of u52 Try.underlying3 hMg fun Y1 hMg1 k1'' z1'' => ?_)
          have kY1 : Keep None w5 Y1 := kY.trans k1'' fun j hj h => by have := hwrX h; omega
          obtain ⟨hlf, hle⟩ := rs_ok hF x hxm l hlm hlx
          refine level47 hF hn (hSr.keep0 kY1) hlf hle fun Y2 k2'' => ⟨_, rfl, ?_⟩
          have hcp := cnt_put (es := es) (top := top) hIng hin
          have nx : In (mput l 1 g) (fun l' => (S l' ∧ l' ≠ neg x.lit) ∨ (l' ∈ x.rs.take (j + 1) ∧ l' ≠ x.lit)) := (hIng.put l).iff fun l' => by
            rw [tk]
            constructor
            · rintro (h | ⟨a | rfl, b⟩)
              · exact Or.inl (Or.inl h)
              · exact Or.inl (Or.inr ⟨a, b⟩)
              · exact Or.inr rfl
            · rintro ((h | h) | rfl)
              · exact Or.inl h
              · exact Or.inr ⟨Or.inl h.1, h.2⟩
              · exact Or.inr ⟨Or.inr rfl, hlx⟩
          have kXY2 : Keep (One r) X1 Y2 := (kXY.trans k1'' fun _ _ h => h).then0 k2''
          refine pif_of (fun ht => ?_) fun ht => ?_
          · have ht : lvl es l = top := by simpa using ht
            rw [if_pos ht] at hcp
            have eK : IntKind.wrap .i64 (((cnt es top g : Nat) : Int) + 1) = ((cnt es top (mput l 1 g) : Nat) : Int) := by rw [IntKind.wrap_i64]; omega
            rw [eK]
            exact ⟨⟨j + 1, _, rfl, hlt, rfl, nx, by omega, hMg1.keep0 k2'', kY1.then0 k2'', kXY2⟩, by omega⟩
          · have ht : ¬ lvl es l = top := by simpa using ht
            rw [if_neg ht] at hcp
            have eK : ((cnt es top g : Nat) : Int) = ((cnt es top (mput l 1 g) : Nat) : Int) := by omega
            rw [eK]
            exact ⟨⟨j + 1, _, rfl, hlt, rfl, nx, by omega, hMg1.keep0 k2'', kY1.then0 k2'', kXY2⟩, by omega⟩
      · have hge : j = rn := by simp at hge; omega
        subst hge
        rw [eI]
        rw [← hrl, List.take_length] at hIng
        refine ⟨⟨g, nxt S x, rfl, by omega, by omega, hIng, fun l hl => ?_, fun l hl => ?_, hcg, fun j y hj' hy hyt hny => ?_, fun o F h => hLr o F (Lrn.step hGt hAl h), hMg, kY⟩, by omega⟩
        · rcases hl with h | h
          · exact hS l h.1
          · exact rs_ok hF x hxm l h.1 h.2
        · rcases hl with h | h
          · exact hSl l h.1
          · obtain ⟨k, y, hk, hy, hyl⟩ := rs_ahead hF hx h.1 h.2
            rw [lvl_of hF hy hyl, ← hlev]
            exact (hrun i x hx).2.2 k y (by omega) hy
        · rcases hny with ⟨h, hne⟩ | ⟨h, hne⟩
          · by_cases hji : (i : Int) < j
            · exact hbeh j y hji hy hyt h
            · obtain rfl : j = i := by omega
              rw [hx] at hy; injection hy with hy; subst hy
              exact hne rfl
          · obtain ⟨k, z, hk, hz, hzl⟩ := rs_ahead hF hx h hne
            rw [neg_neg (hF j y hy).1] at hzl
            have := lit_one hF hz hy hzl
            omega
  · -- one more entry
    refine pif_t rfl ⟨_, _, _, hent, ?_⟩
    have hp0S : p0.1 ∈ cs := (hIn.mem _).1 (List.mem_map.2 ⟨p0, hsub p0 hp0, rfl⟩)
    obtain ⟨hpf, hpe⟩ := hok _ hp0S
    have kV' : Keep None w5 V' := kV.trans kq fun j hj h => by have : j = q37 := h; omega
    refine level47 hF hn (hSr.keep0 kV') hpf hpe fun V2 k2' => ⟨_, rfl, ?_⟩
    have hItY := hIt'.keep0 k2'
    have hsub' : ∀ p ∈ todo', p ∈ f := fun p hp => hsub p (hperm.mem_iff.2 (by simp [hp]))
    have hcc := (cnt_perm (es := es) (top := top) hperm).trans (cnt_cons p0 todo')
    have hll : leftM V2 r q37 < leftM V r q37 := by
      rw [hItY.left, hItV.left]
      have := hperm.length_eq
      simp at this
      omega
    have sz2 := k2'.size
    refine pif_of (fun ht => ?_) fun ht => ?_
    · have ht : lvl es p0.1 = top := by simpa using ht
      rw [if_pos ht] at hcc
      rw [wrap_nat k (by omega)]
      exact ⟨⟨k + 1, todo', rfl, hItY, by omega, hsub', kV'.then0 k2', by omega⟩, hll⟩
    · have ht : ¬ lvl es p0.1 = top := by simpa using ht
      rw [if_neg ht] at hcc
      exact ⟨⟨k, todo', rfl, hItY, by omega, hsub', kV'.then0 k2', by omega⟩, hll⟩
end
end Go.Proofs.Ytlbpllpomdjooaa.Learn
