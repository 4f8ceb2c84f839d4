/- Shrink, the program's; LearnShrinks. -/
import Derived.Test.YtlbpllpomdjooaaLearnI
set_option linter.unusedVariables false
set_option linter.unusedSimpArgs false
set_option maxRecDepth 100000
namespace Go.Proofs.Ytlbpllpomdjooaa.Learn
open Go Go.Proofs.Ytlbpllpomdjooaa.Vc Go.Proofs.Ytlbpllpomdjooaa.T
open Go.Proofs.Ytlbpllpomdjooaa.Apart (RdL own_rdl wrap_nat getE own_len copy same take_snoc Sl sv Gro)

section
variable {w w1 w2 : World} {es : List En} {cl : List Int} {b0 b1 b2 b3 b4 r0 r1 r3 N : Nat} {p : Option Addr} {n c : Nat} {fa fs fs2 f : List (Int × Int)} {S : Nat → Prop}
theorem Ev.keepX (h : Ev w1 es cl b0 b1 b2 b3 b4 r0 r1 r3 p n c fa fs) (hk : Keep S w1 w2) (hS : ∀ i, S i → N ≤ i) (hN : b0 < N ∧ b1 < N ∧ b2 < N ∧ b3 < N ∧ b4 < N ∧ r1 < N ∧ r3 < N) (hrd : RdE w2 p n es) : Ev w2 es cl b0 b1 b2 b3 b4 r0 r1 r3 p n c fa fs := by
  have no : ∀ {i}, i < N → ¬ S i := fun h1 h2 => by have := hS _ h2; omega
  exact ⟨h.kn.keep hk (no hN.1), h.tr.keep hk (no hN.2.1), h.at'.keep hk (no hN.2.2.1), h.st.keep hk (no hN.2.2.2.1), h.fn.keep hk (no hN.2.2.2.2.1), hrd, h.am.keep hk (no hN.2.2.2.2.2.1), h.sm.keep hk (no hN.2.2.2.2.2.2), h.d1, h.d3, h.pm, h.sp⟩
theorem zz3 : (Try.prog.info? 3).map (·.zero) = some (some (.int .i64 0)) := z3
theorem Ev.put (h : Ev w1 es cl b0 b1 b2 b3 b4 r0 r1 r3 p n c fa fs) (hM : Mp w1 r0 f) (k : Keep (One r3) w1 w2) (hs2 : Mp w2 r3 fs2) (h13 : r1 ≠ r3) (hsp : ∀ o, mget o fs2 = 0 ↔ o ∉ cl) : Ev w2 es cl b0 b1 b2 b3 b4 r0 r1 r3 p n c fa fs2 ∧ Mp w2 r0 f :=
  ⟨⟨blk_keepM h.kn h.sm k, blk_keepM h.tr h.sm k, blk_keepM h.at' h.sm k, blk_keepM h.st h.sm k, blk_keepM h.fn h.sm k, rde_keepM h.rd h.sm k, h.am.keep k h13, hs2, h.d1, h.d3, h.pm, hsp⟩, hM.keep k fun e => h.d3 (Eq.symm e)⟩
end
/-- which of the clause's literals are done -/
def Sp (cs : List Int) (fs : List (Int × Int)) (i : Nat) : Prop := ∀ o, (mget o fs = 2 ∧ o ∈ cs.take i) ∨ (mget o fs = 1 ∧ o ∈ cs ∧ o ∉ cs.take i) ∨ (mget o fs = 0 ∧ o ∉ cs)
theorem take_sub {cs : List Int} {i : Nat} {o : Int} (h : o ∈ cs.take i) : o ∈ cs := (List.take_sublist i cs).subset h
theorem Sp.zero {cs : List Int} {fs : List (Int × Int)} {i : Nat} (h : Sp cs fs i) (o : Int) : mget o fs = 0 ↔ o ∉ cs := by
  rcases h o with ⟨e, hm⟩ | ⟨e, hm, _⟩ | ⟨e, hm⟩
  · rw [e]; exact ⟨fun h => absurd h (by decide), fun h => absurd (take_sub hm) h⟩
  · rw [e]; exact ⟨fun h => absurd h (by decide), fun h => absurd hm h⟩
  · rw [e]; exact ⟨fun _ => hm, fun _ => rfl⟩
theorem Sp.next {cs : List Int} {fs : List (Int × Int)} {i : Nat} {l : Int} (h : Sp cs fs i) (hl : cs[i]? = some l) : Sp cs (mput l 2 fs) (i + 1) := fun o => by
  rw [mget_mput, take_snoc hl]
  by_cases ho : o = l
  · rw [if_pos ho]; exact Or.inl ⟨rfl, by simp [ho]⟩
  · rw [if_neg ho]
    rcases h o with ⟨e, hm⟩ | ⟨e, hm, hn⟩ | ⟨e, hm⟩
    · exact Or.inl ⟨e, by simp [hm]⟩
    · exact Or.inr (Or.inl ⟨e, hm, by simp [hn, ho]⟩)
    · exact Or.inr (Or.inr ⟨e, hm⟩)
theorem Sp.skip {cs : List Int} {fs : List (Int × Int)} {i : Nat} {l : Int} (h : Sp cs fs i) (hl : cs[i]? = some l) (hin : l ∈ cs.take i) : Sp cs fs (i + 1) := fun o => by
  rw [take_snoc hl]
  rcases h o with ⟨e, hm⟩ | ⟨e, hm, hn⟩ | ⟨e, hm⟩
  · exact Or.inl ⟨e, by simp [hm]⟩
  · refine Or.inr (Or.inl ⟨e, hm, ?_⟩)
    rw [List.mem_append, List.mem_singleton]
    rintro (h | rfl)
    · exact hn h
    · exact hn hin
  · exact Or.inr (Or.inr ⟨e, hm⟩)
section
variable {w w' : World} {p q : Option Addr} {n m c d : Nat} {es : List En} {cs : List Int}
theorem shrink16 (hE : RdE w p n es) (hn : n ≤ 1048576) (hr : ∀ x ∈ es, x.rs.length ≤ 1048576) (hC : RdL w q m cs) (hm : m ≤ 1048576) :
    Calls Try.prog 16 #[.slice p n c, .slice q m d] w fun e w' => ∃ v, e = .returned v ∧ Shrunk es cs w v w' := by
  refine V16_calls p n c q m d w (Shrunk es cs w) ?_
  unfold V16
  have hcl := hC.len
  have hl := hE.len
  refine alc_at fun bT w1 hbT hT k1 => ?_
  simp only [add_mk, Nat.add_zero, Nat.zero_add]
  refine ldC_of (hT.cell 0) (cl_of ok40 (places40 (hE.keep0 k1) (by omega)) fun e w2 ⟨r1, fa, he, hr1, hM1, hP, k2⟩ => ⟨_, he, ?_⟩)
  have k02 := k1.then0 k2
  have z1 := k1.size
  have z2 := k2.size
  have lr1 := hM1.lt
  have lT := hT.lt
  refine alc_at fun bA w3 hbA hA k3 => ?_
  have lA := hA.lt
  have z3 := k3.size
  refine st_of hA (by simp) rfl fun w4 hA4 k4 _ => ?_
  have k24 : Keep None w2 w4 := k3.then1 k4 (by omega)
  simp only [List.set_cons_zero] at hA4
  have k04 := k02.then0 k24
  have hT4 := (hT.keep0 k2).keep0 k24
  have hM14 := hM1.keep0 k24
  refine ldC_of (hT4.cell 0) (ldM_of (hA4.cell 0) (cl_of ok43 (asked43 (hE.keep0 k04) hn hr (hC.keep0 k04) hm hM14 hP) fun e w5 ⟨u, he, hu, k5⟩ => ⟨u, he, ?_⟩))
  have k05 := k04.then0 k5
  by_cases hu0 : u ≠ 0
  · exact pif_t (by simpa using hu0) ⟨u, none, 0, 0, [], rfl, hu, Own.nil _ _ _, (fun j ⟨a, hh, _⟩ => by cases hh), fun h => absurd h hu0, fun _ => rfl, k05⟩
  obtain rfl : u = 0 := Classical.byContradiction hu0
  obtain ⟨hFa, hF, hs⟩ : Fals es cs ∧ Fm es ∧ cs.all fl = true := by
    rcases hu with ⟨h, _⟩ | ⟨h, _⟩ | ⟨_, h⟩
    · cases h
    · cases h
    · exact h
  refine pif_f rfl (mkmap_of fun r3 w6 hr3 hM3 k6 => alc_at fun bS w7 hbS hS7 k7 => ?_)
  have lr3 := hM3.lt
  have lS := hS7.lt
  have z4 := k24.size
  have z5 := k5.size
  have z6 := k6.size
  have z7 := k7.size
  refine st_of hS7 (by simp) rfl fun w8 hS8 k8 sz8 => ?_
  simp only [List.set_cons_zero] at hS8
  have k58 : Keep None w5 w8 := (k6.then0 k7).then1 k8 (by omega)
  have k08 := k05.then0 k58
  have hM38 := (hM3.keep0 k7).keep k8 (show r3 ≠ bS by omega)
  have hT8 := (hT4.keep0 k5).keep0 k58
  have hA8 := (hA4.keep0 k5).keep0 k58
  have hM18 := (hM14.keep0 k5).keep0 k58
  refine lp_of (fun s w' => ∃ (i : Nat) (fs : List (Int × Int)), s.1 = (i : Int) ∧ i ≤ m ∧ Keep (One r3) w8 w' ∧ Mp w' r3 fs ∧ ∀ o, (mget o fs = 1 ∧ o ∈ cs.take i) ∨ (mget o fs = 0 ∧ o ∉ cs.take i)) (fun s _ => (m - s.1).toNat)
    ⟨0, [], rfl, Nat.zero_le _, Keep.refl _ _, hM38, fun o => Or.inr ⟨rfl, by simp⟩⟩ ?_
  rintro ⟨i', ⟨⟩⟩ w9 ⟨i, fs, rfl, hi, k9, hM39, hfs⟩
  simp only []
  have z9 := k9.size
  have k09 : Keep None w w9 := k08.trans k9 fun j hj hh => by have : j = r3 := hh; omega
  have hT9 := blk_keepM hT8 hM38 k9
  have hA9 := blk_keepM hA8 hM38 k9
  have hS9 := blk_keepM hS8 hM38 k9
  have hM19 := hM18.keep k9 (show r1 ≠ r3 by omega)
  refine pif_of (fun hlt => ?_) fun hge => ?_
  · have hlt : i < m := by simpa using hlt
    rw [wrap_nat i (by omega)]
    refine (hC.keep0 k09).ix hlt fun a l hl1 ha => ldI_of ha (ldM_of (hS9.cell 0) (up_of u52 Try.underlying3 hM39 fun w10 hM10 k10 _ => ⟨⟨i + 1, _, rfl, hlt, k9.trans k10 fun j _ h => h, hM10, fun o => ?_⟩, by omega⟩))
    rw [mget_mput, take_snoc hl1]
    by_cases ho : o = l
    · rw [if_pos ho]; exact Or.inl ⟨rfl, by simp [ho]⟩
    · rw [if_neg ho]
      rcases hfs o with ⟨e, hmm⟩ | ⟨e, hnn⟩
      · exact Or.inl ⟨e, by simp [hmm]⟩
      · exact Or.inr ⟨e, by simp [hnn, ho]⟩
  have hge : i = m := by simp at hge; omega
  subst hge
  have hta : cs.take i = cs := by rw [← hcl, List.take_length]
  rw [hta] at hfs
  have hsp : Sp cs fs 0 := fun o => by
    rcases hfs o with ⟨e, hmm⟩ | ⟨e, hnn⟩
    · exact Or.inr (Or.inl ⟨e, hmm, by simp⟩)
    · exact Or.inr (Or.inr ⟨e, hnn⟩)
  refine mkmap_of fun r0 w10 hr0 hM0 k10 => alc_at fun bK w11 hbK hK11 k11 => ?_
  have lr0 := hM0.lt
  have lK := hK11.lt
  have z10 := k10.size
  have z11 := k11.size
  refine st_of hK11 (by simp) rfl fun w12 hK12 k12 sz12 => alc_at fun bF w13 hbF hF13 k13 => ?_
  simp only [List.set_cons_zero] at hK12
  have lF := hF13.lt
  have z13 := k13.size
  refine st_of hF13 (by simp) rfl fun w14 hF14 k14 sz14 => ?_
  simp only [List.set_cons_zero] at hF14
  have k912 : Keep None w9 w12 := (k10.then0 k11).then1 k12 (by omega)
  have k914 : Keep None w9 w14 := (k912.then0 k13).then1 k14 (by omega)
  have k014 := k09.then0 k914
  have hM014 : Mp w14 r0 [] := (((hM0.keep0 k11).keep k12 (show r0 ≠ bK by omega)).keep0 k13).keep k14 (show r0 ≠ bF by omega)
  have hEv : Ev w14 es cs bK bT bA bS bF r0 r1 r3 p n c fa fs :=
    ⟨(hK12.keep0 k13).keep k14 (show bK ≠ bF by omega), hT9.keep0 k914, hA9.keep0 k914, hS9.keep0 k914, hF14, hE.keep0 k014, hM19.keep0 k914, hM39.keep0 k914, by omega, by omega, hP, hsp.zero⟩
  have hN : bK < w14.heap.size ∧ bT < w14.heap.size ∧ bA < w14.heap.size ∧ bS < w14.heap.size ∧ bF < w14.heap.size ∧ r1 < w14.heap.size ∧ r3 < w14.heap.size := by omega
  have hr0N : r0 < w14.heap.size := hM014.lt
  have h13 : r1 ≠ r3 := by omega
  have old0 : w.heap.size ≤ r0 := by omega
  have old3 : w.heap.size ≤ r3 := by omega
  clear hK11 hK12 hF13 hF14 hT9 hA9 hS9 hM19 hM39 hT8 hA8 hM18 hM38 hS8 hS7 hM3 hT4 hA4 hM14 hA hM1 hT hM0
  obtain ⟨N, hNN⟩ : ∃ N, N = w14.heap.size := ⟨_, rfl⟩
  rw [← hNN] at hN hr0N
  have hwN : w.heap.size ≤ N := by have := k014.size; omega
  let Iv : Nat → (Option Addr × Nat × Nat) → World → Prop := fun k s w' => ∃ f fs, Keep None w w' ∧ N ≤ w'.heap.size ∧ Ev w' es cs bK bT bA bS bF r0 r1 r3 p n c fa fs ∧ Mp w' r0 f ∧ Kv es cs f n ∧ Sp cs fs k ∧ s.2.1 = (shr es cs k).length ∧ Own w' 3 1 s.1 (shr es cs k).length s.2.2 ((shr es cs k).map I) ∧ ∀ j, ob s.1 j → N ≤ j
  refine lp_of (fun s w' => ∃ k : Nat, s.2.1 = (k : Int) ∧ k ≤ i ∧ Iv k s.1 w') (fun s _ => (i - s.2.1).toNat)
    ⟨0, rfl, Nat.zero_le _, [], fs, k014, by omega, hEv, hM014, fun j y _ _ => Or.inl rfl, hsp, rfl, Own.nil _ _ _, fun j ⟨a, hh, _⟩ => by cases hh⟩ ?_
  rintro ⟨⟨g, gn, gc⟩, k', ⟨⟩⟩ w15 ⟨k, rfl, hk, f, fs, k15, hs15, hE15, hM15, hK15, hSp, hgn, hO, hob⟩
  simp only [] at hgn hO hob ⊢
  subst hgn
  have hshl := shr_len es cs k
  refine pif_of (fun hlt => ?_) fun hge => ?_
  · have hlt : k < i := by simpa using hlt
    rw [wrap_nat k (by omega)]
    obtain ⟨l, hl1⟩ := getE (show k < cs.length by omega)
    have hlm := List.mem_of_getElem? hl1
    have hfl : fl l = true := List.all_eq_true.1 hs l hlm
    obtain ⟨y, hym, hyl⟩ := hFa l hlm
    obtain ⟨a, hya⟩ := List.mem_iff_getElem?.1 hym
    have ha := (List.getElem?_eq_some_iff.1 hya).1
    have hny : neg y.lit = l := by rw [hyl, neg_neg hfl]
    refine ⟨fun t w' => Iv (k + 1) t.1 w', ?_, fun t w4 h4 => ⟨⟨k + 1, rfl, hlt, h4⟩, by omega⟩⟩
    refine (hC.keep0 k15).ix hlt fun ad l' hl' had => ldI_of had (ldM_of (hE15.st.cell 0) (lk_of u52 Try.underlying3 zz3 hE15.sm ?_))
    rw [hl1] at hl'
    injection hl' with hl'
    subst hl'
    by_cases hin : l ∈ cs.take k
    · have e2 : mget l fs = 2 := by
        rcases hSp l with ⟨e, _⟩ | ⟨_, _, h⟩ | ⟨_, h⟩
        · exact e
        · exact absurd hin h
        · exact absurd hlm h
      refine pif_t (by rw [e2]; rfl) ?_
      show Iv (k + 1) (g, (shr es cs k).length, gc) w15
      refine ⟨f, fs, k15, hs15, hE15, hM15, hK15, hSp.skip hl1 hin, ?_⟩
      rw [shr_no hl1 fun h => h.1 hin]
      exact ⟨rfl, hO, hob⟩
    · have e1 : mget l fs = 1 := by
        rcases hSp l with ⟨_, h⟩ | ⟨e, _⟩ | ⟨_, h⟩
        · exact absurd h hin
        · exact e
        · exact absurd hlm h
      refine pif_f (by rw [e1]; rfl) ?_
      refine ⟨fun t w' => ∃ f, Keep None w w' ∧ N ≤ w'.heap.size ∧ Ev w' es cs bK bT bA bS bF r0 r1 r3 p n c fa fs ∧ Mp w' r0 f ∧ Kv es cs f n ∧ t.1.2.1 = (shr es cs (k + 1)).length ∧ Own w' 3 1 t.1.1 (shr es cs (k + 1)).length t.1.2.2 ((shr es cs (k + 1)).map I) ∧ ∀ j, ob t.1.1 j → N ≤ j, ?_, ?_⟩
      · -- whether it stays
        have stay : ∀ {w16 : World} {f' : List (Int × Int)}, Kp es cs k l → Keep None w w16 → N ≤ w16.heap.size → Ev w16 es cs bK bT bA bS bF r0 r1 r3 p n c fa fs → Mp w16 r0 f' → Kv es cs f' n → Own w16 3 1 g (shr es cs k).length gc ((shr es cs k).map I) →
            alc w16 [.int .i64 l] 3 fun b78 w29 => ∃ (x79 : Option Addr) (x79n x79c : Nat), ∃ w30 : World, (Builtin.append_ #[25, 25] 25 #[.slice g (shr es cs k).length gc, .slice (some (⟨b78, 0, none⟩ : Addr)) 1 1]).run Try.prog w29 = .ok (.slice x79 x79n x79c) w30 ∧
            (∃ f, Keep None w w30 ∧ N ≤ w30.heap.size ∧ Ev w30 es cs bK bT bA bS bF r0 r1 r3 p n c fa fs ∧ Mp w30 r0 f ∧ Kv es cs f n ∧ x79n = (shr es cs (k + 1)).length ∧ Own w30 3 1 x79 (shr es cs (k + 1)).length x79c ((shr es cs (k + 1)).map I) ∧ ∀ j, ob x79 j → N ≤ j) := by
          intro w16 f' hkp k16 hs16 hE16 hM16 hK16 hO16
          refine app_one (t := 25) (B := 8) Try.underlying25 info3 rfl (by omega) rfl hO16 (by omega) fun p' c' w17 hO17 k17 hob17 => ?_
          have k017 : Keep None w w17 := k16.trans k17 fun j hj hh => by have := hob j hh; omega
          have z17 := k17.size
          rw [shr_yes hl1 hkp, List.length_append, List.map_append]
          refine ⟨f', k017, by omega, hE16.keepX k17 hob hN (hE.keep0 k017), hM16.keep k17 fun hh => by have := hob r0 hh; omega, hK16, rfl, hO17, fun j hj => ?_⟩
          rcases hob17 j hj with h | h
          · exact hob j h
          · omega
        have leave : ∀ {w16 : World} {f' : List (Int × Int)}, ¬ Kp es cs k l → Keep None w w16 → N ≤ w16.heap.size → Ev w16 es cs bK bT bA bS bF r0 r1 r3 p n c fa fs → Mp w16 r0 f' → Kv es cs f' n → Own w16 3 1 g (shr es cs k).length gc ((shr es cs k).map I) →
            (∃ f, Keep None w w16 ∧ N ≤ w16.heap.size ∧ Ev w16 es cs bK bT bA bS bF r0 r1 r3 p n c fa fs ∧ Mp w16 r0 f ∧ Kv es cs f n ∧ (shr es cs k).length = (shr es cs (k + 1)).length ∧ Own w16 3 1 g (shr es cs (k + 1)).length gc ((shr es cs (k + 1)).map I) ∧ ∀ j, ob g j → N ≤ j) := by
          intro w16 f' hkp k16 hs16 hE16 hM16 hK16 hO16
          rw [shr_no hl1 hkp]
          exact ⟨f', k16, hs16, hE16, hM16, hK16, rfl, hO16, hob⟩
        by_cases hk0 : k = 0
        · have e0 : ((k : Int) == 0) = true := by simp [hk0]
          have e1 : (!((k : Int) == 0)) = false := by rw [e0]; rfl
          have e2 : ∀ z : Bool, ((!((k : Int) == 0)) && z) = false := fun z => by rw [e1]; rfl
          exact gd_f e1 (gd_f e1 (gd_f e1 (gd_f e1 (gd_f e1 (gd_f (e2 _) (gd_f (e2 _) (pif_t (by rw [e0]; rfl) (stay ⟨hin, Or.inl hk0⟩ k15 hs15 hE15 hM15 hK15 hO))))))))
        · have e0 : ((k : Int) == 0) = false := by simpa using hk0
          have e1 : (!((k : Int) == 0)) = true := by rw [e0]; rfl
          have kpi := kp_iff (cl := cs) hF hfl hya hyl hk0 hin
          have hat : mget l fa = (a : Int) + 1 := by rw [← hny]; exact at_of hF hP hya
          have ea : IntKind.wrap .i64 ((a : Int) + 1 - 1) = (a : Int) := by rw [IntKind.wrap_i64]; omega
          refine gd_t e1 (ldC_of (hE15.tr.cell 0) (gd_t e1 (ldM_of (hE15.at'.cell 0) (gd_t e1 (lk_of u52 Try.underlying3 zz3 hE15.am (gd_t e1 ?_))))))
          rw [hat, ea]
          refine hE15.rd.ix hya fun ad ⟨_, _, _, _, c1, _⟩ => gd_t e1 (ldI_of c1 ?_)
          by_cases hlev : 0 < y.lev
          · have e2 : ((!((k : Int) == 0)) && decide (y.lev > 0)) = true := by rw [e1, decide_eq_true hlev]; rfl
            refine gd_t e2 (ldV_of (hE15.fn.cell 0) (gd_t e2 (clF_of ?_)))
            have go := covered44 (b0 := bK) (b1 := bT) (b2 := bA) (b3 := bS) (b4 := bF) (r0 := r0) (r1 := r1) (r3 := r3) (p := p) (n := n) (c := c) (fa := fa) (fs := fs) (cl := cs) hF hn hr a y w15 f hya hE15 hM15 (fun j y' hj hy' => hK15 j y' (by omega) hy')
            rw [hny] at go
            refine cl_of ok44 go fun e w16 ⟨v, he, b', f', hv, hb', hM16, hK16, hFr, k16⟩ => ⟨b', he.trans (congrArg Ending.returned hv), ?_⟩
            have k016 : Keep None w w16 := k15.trans k16 fun j hj hh => by have : j = r0 := hh; omega
            have hs16 : N ≤ w16.heap.size := by have := k16.size; omega
            have hE16 := hE15.keepM hM15 k16
            have hO16 : Own w16 3 1 g (shr es cs k).length gc ((shr es cs k).map I) := hO.keep k16 fun j hj hh => by have := hob j hj; have : j = r0 := hh; omega
            have hK16n : Kv es cs f' n := fun j y' hj hy' => by
              by_cases hle : j ≤ a
              · exact hK16 j y' hle hy'
              · rw [hFr (neg y'.lit) fun j2 y2 hj2 hy2 e => by have := lit_ne hF hy2 hy' e; omega]
                exact hK15 j y' hj hy'
            cases b' with
            | true => exact pif_f (by rw [e0, decide_eq_true hlev]; rfl) (leave (fun h => (kpi.1 h).2 (hb'.1 rfl)) k016 hs16 hE16 hM16 hK16n hO16)
            | false => exact pif_t (by rw [e0, decide_eq_true hlev]; rfl) (stay (kpi.2 ⟨hlev, fun h => by have := hb'.2 h; cases this⟩) k016 hs16 hE16 hM16 hK16n hO16)
          · have e2 : ((!((k : Int) == 0)) && decide (y.lev > 0)) = false := by rw [decide_eq_false hlev]; simp
            exact gd_f e2 (gd_f e2 (pif_f (by rw [e0, decide_eq_false hlev]; rfl) (leave (fun h => hlev (kpi.1 h).1) k15 hs15 hE15 hM15 hK15 hO)))
      · rintro ⟨⟨t, tn, tc⟩, ⟨⟩⟩ w16 ⟨f', k16, hs16, hE16, hM16, hK16, htn, hO16, hob16⟩
        simp only [] at htn hO16 hob16 ⊢
        refine ldM_of (hE16.st.cell 0) (up_of u52 Try.underlying3 hE16.sm fun w17 hM17 k17 _ => ?_)
        obtain ⟨hE17, hM017⟩ := hE16.put hM16 k17 hM17 h13 (hSp.next hl1).zero
        have z17 := k17.size
        refine ⟨f', _, k16.trans k17 fun j hj hh => by have : j = r3 := hh; omega, by omega, hE17, hM017, hK16, hSp.next hl1, htn, hO16.keep k17 fun j hj hh => ?_, hob16⟩
        have := hob16 j hj
        have : j = r3 := hh
        omega
  · have hge : k = i := by simp at hge; omega
    subst hge
    exact ⟨0, g, _, gc, _, rfl, hu, hO, fun j hj => by have := hob j hj; omega, fun _ => by rw [hcl], fun h => absurd rfl h, k15⟩
theorem law5 (hE : RdE w p n es) (hn : n ≤ 1048576) (hc : n ≤ c) (hr : ∀ x ∈ es, x.rs.length ≤ 1048576) (hC : RdL w q m cs) (hm : m ≤ 1048576) (hd : m ≤ d) :
    Calls Try.prog 5 #[.slice p n c, .slice q m d] w fun e w' => e = .returned (.bool true) ∧ RowKit.Below w.heap.size w w' := by
  refine (ans_of (V5_calls p n c q m d w (Ans w _) ?_)).mono fun e w' ⟨he, hk⟩ => ⟨he, hk.below0⟩
  unfold V5
  have hcl := hC.len
  refine cl_of ok11 (copyE hE (by omega) (fun x hx => by have := hr x hx; omega)) fun e w1 ⟨s, sd, xs, he, hCe, hxs⟩ => ⟨_, _, _, he, ?_⟩
  have hE1 := hCe.rde
  rw [hxs] at hE1
  have k1 := hCe.keep
  refine cl_of ok14 (copy (hC.keep0 k1) (by omega)) fun e w2 ⟨v, he, t, td, hv, hO, hnew, k2⟩ => ⟨_, _, _, he.trans (congrArg Ending.returned hv), ?_⟩
  have k02 := k1.then0 k2
  refine cl_of ok16 (shrink16 (hE1.keep0 k2) hn hr (own_rdl hO) (by omega)) fun e w3 ⟨v, he, u, g, gn, gc, L, hv, hu, hOg, hng, hL0, hL1, k3⟩ => ⟨_, _, _, _, he.trans (congrArg Ending.returned hv), ?_⟩
  have k03 := k02.then0 k3
  refine cl_of ok17 (shrink17 (hE.keep0 k03) hn hc hr (hC.keep0 k03) hm hd) fun e w4 ⟨v, he, u2, g2, gn2, gc2, L2, hv, hu2, hOg2, hng2, hL02, hL12, k4⟩ => ⟨_, _, _, _, he.trans (congrArg Ending.returned hv), ?_⟩
  obtain rfl := hu.unique hu2
  have eL : L = L2 := by
    by_cases h0 : u = 0
    · rw [hL0 h0, hL02 h0]
    · rw [hL1 h0, hL12 h0]
  subst eL
  have hLl : L.length ≤ 1048576 := by
    by_cases h0 : u = 0
    · rw [hL0 h0]; have := shr_len es cs cs.length; omega
    · rw [hL1 h0]; simp
  have hgl := own_len hOg
  have k04 := k03.then0 k4
  have e1 : (u == u) = true := by simp
  rw [e1]
  refine gd_t rfl (cl_of ok18 (same (own_rdl (hOg.keep0 k4)) (own_rdl hOg2) (by omega)) fun e w5 ⟨he, k5⟩ => ⟨_, he, ?_, k04.then0 k5⟩)
  rw [decide_eq_true rfl]; rfl
end
end Go.Proofs.Ytlbpllpomdjooaa.Learn
