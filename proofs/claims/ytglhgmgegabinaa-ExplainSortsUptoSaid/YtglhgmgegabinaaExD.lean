/- Reasons: the document's; ExplainReasons. -/
import Derived.Test.YtglhgmgegabinaaExC
set_option linter.unusedVariables false
set_option linter.unusedSimpArgs false
set_option linter.unusedSectionVars false
set_option maxRecDepth 100000
namespace Go.Proofs.Ytglhgmgegabinaa.Ex
open Go Go.Proofs.Ytglhgmgegabinaa.Vc Go.Proofs.Ytglhgmgegabinaa.T
open Go.Proofs.Ytglhgmgegabinaa.Sort (E JE ce fm fm_app fm_len fm_at fm_set)

/-- a list given out, grown by the call itself -/
structure OutL (w0 w : World) (p : Option Addr) (c : Nat) (L : List E) : Prop where
  own : Own w 30 4 p L.length c (fm L)
  new : ∀ j, ob p j → w0.heap.size ≤ j
theorem OutL.keep0 {w0 w w' : World} {p : Option Addr} {c : Nat} {L : List E} (h : OutL w0 w p c L) (hk : Keep None w w') : OutL w0 w' p c L := ⟨h.own.keep0 hk, h.new⟩
/-- into its place -/
def insE (L : List E) (k : Nat) (x : E) : List E := L.take k ++ x :: L.drop k
theorem srt_ins {L : List E} {k : Nat} {x : E} (h : Srt L) (hk : k ≤ L.length) (hlo : ∀ j y, j < k → L[j]? = some y → ltE y x = true) (hhi : ∀ y, L[k]? = some y → ltE x y = true) : Srt (insE L k x) := by
  unfold Srt insE at *
  have h1 : L = L.take k ++ L.drop k := (List.take_append_drop k L).symm
  rw [h1, List.pairwise_append] at h
  rw [List.pairwise_append]
  have hup : ∀ z ∈ L.drop k, ltE x z = true := fun z hz => by
    cases hd : L.drop k with
    | nil => rw [hd] at hz; cases hz
    | cons y l =>
      have hy : L[k]? = some y := by
        have : (L.drop k)[0]? = some y := by rw [hd]; rfl
        rwa [List.getElem?_drop, Nat.add_zero] at this
      have hxy := hhi y hy
      rw [hd] at hz
      rcases List.mem_cons.1 hz with rfl | hz
      · exact hxy
      · have := h.2.1
        rw [hd, List.pairwise_cons] at this
        exact ltE_trans hxy (this.1 z hz)
  have hlow : ∀ z ∈ L.take k, ltE z x = true := fun z hz => by
    obtain ⟨j, hj, e⟩ := List.mem_iff_getElem.1 hz
    have hj' : j < k := by rw [List.length_take] at hj; omega
    refine hlo j z hj' ?_
    rw [List.getElem_take] at e
    rw [← e]
    exact List.getElem?_eq_getElem _
  refine ⟨h.1, List.pairwise_cons.2 ⟨hup, h.2.1⟩, fun u hu v hv => ?_⟩
  rcases List.mem_cons.1 hv with rfl | hv
  · exact hlow u hu
  · exact h.2.2 u hu v hv
theorem mem_ins {L : List E} {k : Nat} {x y : E} : y ∈ insE L k x ↔ y ∈ L ∨ y = x := by
  unfold insE
  have h1 : y ∈ L ↔ y ∈ L.take k ∨ y ∈ L.drop k := by rw [← List.mem_append, List.take_append_drop]
  rw [h1, List.mem_append, List.mem_cons]
  constructor
  · rintro (h | h | h)
    · exact Or.inl (Or.inl h)
    · exact Or.inr h
    · exact Or.inl (Or.inr h)
  · rintro ((h | h) | h)
    · exact Or.inl h
    · exact Or.inr (Or.inr h)
    · exact Or.inr (Or.inl h)
theorem srt_nodup {L : List E} (h : Srt L) : ∀ {i j : Nat} {x : E}, L[i]? = some x → L[j]? = some x → i = j := by
  have key : ∀ {i j : Nat} {x : E}, L[i]? = some x → L[j]? = some x → ¬ i < j := fun {i j x} hi hj hij => by
    have hil := (List.getElem?_eq_some_iff.1 hi)
    have hjl := (List.getElem?_eq_some_iff.1 hj)
    obtain ⟨hi1, hi2⟩ := hil
    obtain ⟨hj1, hj2⟩ := hjl
    have := (List.pairwise_iff_getElem.1 h) i j hi1 hj1 hij
    rw [hi2, hj2, ltE_irr] at this
    cases this
  intro i j x hi hj
  have := key hi hj
  have := key hj hi
  omega
section
variable {w : World} {tp q : Option Addr} {tn tc m d : Nat} {os : List E} {cs : List Int}
theorem reasons6 (a b : Int) (hF : RdF w tp tn os) (htn : tn ≤ 1048576) (hC : RdL w q m cs) (hm : m ≤ 1048576) :
    Calls Try.prog 6 #[.agg #[I a, I b, .slice tp tn tc], .slice q m d] w fun e w' => ∃ v, e = .returned v ∧ Rsn a b os cs w v w' := by
  refine V6_calls a b tp tn tc q m d w (Rsn a b os cs w) ?_
  unfold V6
  have hol := hF.len
  have hcl := hC.len
  refine alc_at fun b2 w1 hb2 hB k1 => ?_
  simp only [add_mk, Nat.zero_add, Nat.add_zero]
  have z1 := k1.size
  have lB := hB.lt
  refine ldI_of (hB.cell 0) ?_
  refine gd_pure a (fun _ K hK => ldI_of (hB.cell 0) hK) ?_
  refine gd_pure b (fun _ K hK => ldI_of (hB.cell 1) hK) ?_
  have hbd := bad_dec a b
  have key : ∀ x y : Int, (x = cond (!decide (a < 0)) a 0) → (y = cond (!decide (a < 0)) b 0) → cond (decide (a < 0)) true (decide (x > y)) = cond (decide (a < 0)) true (decide (a > b)) := by
    intro x y hx hy
    cases h : decide (a < 0) with
    | true => rfl
    | false => rw [h] at hx hy; simp only [Bool.not_false, cond_true] at hx hy; rw [hx, hy]
  rw [key _ _ rfl rfl]
  refine gd_pure b (fun _ K hK => ldI_of (hB.cell 1) hK) ?_
  have e3 : cond (cond (decide (a < 0)) true (decide (a > b))) true (decide (cond (!(cond (decide (a < 0)) true (decide (a > b)))) b 0 > 1048576)) = cond (cond (decide (a < 0)) true (decide (a > b))) true (decide (b > 1048576)) := by
    cases cond (decide (a < 0)) true (decide (a > b)) <;> rfl
  rw [e3]
  refine pif_of (fun h => ?_) fun h => ?_
  · exact ⟨1, none, 0, [], rfl, Or.inl ⟨hbd.1 h, rfl, rfl⟩, by simp, Own.nil _ _ _, k1⟩
  have hnb : ¬ Bad a b := fun h' => by rw [hbd.2 h'] at h; cases h
  refine ldC_of (hB.cell 2) ?_
  refine cl_of ok13 (rising13 (hC.keep0 k1) (by omega)) fun e w5 ⟨r, he, hr, k5⟩ => ⟨r, he, ?_⟩
  have k15 := k1.then0 k5
  cases r with
  | false => exact pif_t rfl ⟨2, none, 0, [], rfl, Or.inr (Or.inl ⟨hnb, (fun h => by rw [← hol] at hr; have := hr.2 h; cases this), rfl, rfl⟩), by simp, Own.nil _ _ _, k15⟩
  | true =>
  have hri : Ri cs os.length := by rw [hol]; exact hr.1 rfl
  refine pif_f rfl ?_
  have hB5 := hB.keep0 k5
  have z5 := k15.size
  have zb5 := k5.size
  refine lp_of (fun s W => ∃ (i : Nat) (L : List E), s.2.1 = (i : Int) ∧ i ≤ m ∧ s.1.2.1 = L.length ∧ L.length ≤ i ∧ OutL w5 W s.1.1 s.1.2.2 L ∧ Srt L ∧ (∀ x, x ∈ L ↔ Mem os cs i x) ∧ Keep None w W ∧ w5.heap.size ≤ W.heap.size ∧ Blk W b2 [I a, I b, .slice tp tn tc] 24) (fun s _ => (m - s.2.1).toNat)
    ⟨0, [], rfl, Nat.zero_le _, rfl, Nat.zero_le _, ⟨Own.nil _ _ _, fun j ⟨a, h, _⟩ => by cases h⟩, List.Pairwise.nil, (fun x => ⟨(fun h => by cases h), fun ⟨j, c, h, _⟩ => by omega⟩), k15, Nat.le_refl _, hB5⟩ ?_
  rintro ⟨⟨op, on, oc⟩, i', ⟨⟩⟩ W ⟨i, L, rfl, hi, hon, hLi, hO, hsr, hmem, kW, zW, hBW⟩
  simp only [] at hon hO ⊢
  subst hon
  refine pif_of (fun hlt => ?_) fun hge => ?_
  · have hlt : i < m := by simpa using hlt
    rw [wrap_nat i (by omega)]
    obtain ⟨c, hc⟩ := getE (show i < cs.length by omega)
    obtain ⟨c0, c1, _⟩ := hri i c hc
    obtain ⟨x, hx⟩ := getE (show c.toNat < os.length by omega)
    have ec : c = (c.toNat : Int) := by omega
    refine ⟨fun s W' => ∃ (L' : List E), s.1.2.1 = L'.length ∧ L'.length ≤ i + 1 ∧ OutL w5 W' s.1.1 s.1.2.2 L' ∧ Srt L' ∧ (∀ x, x ∈ L' ↔ Mem os cs (i + 1) x) ∧ Keep None w W' ∧ w5.heap.size ≤ W'.heap.size ∧ Blk W' b2 [I a, I b, .slice tp tn tc] 24, ?_, ?_⟩
    rotate_left
    · rintro ⟨⟨p', n', c'⟩, ⟨⟩⟩ W' ⟨L', h1, h2, h3, h4, h5, h6, h7, h8⟩
      simp only [] at h1 h3 ⊢
      subst h1
      exact ⟨⟨i + 1, L', rfl, hlt, rfl, h2, h3, h4, h5, h6, h7, h8⟩, by omega⟩
    have kd : Keep None W W.drew := (Keep.refl _ _).drew
    have kWd := kW.then0 kd
    have hBd := hBW.keep0 kd
    refine ldC_of (hBd.cell 2) ((hC.keep0 kWd).ix hc fun a0 ha0 => ldI_of ha0 ?_)
    rw [ec] at ha0 ⊢
    refine (hF.keep0 kWd).ix hx fun a1 ha1 => ha1.ld ?_
    refine alc_at fun b38 w8 hb38 hX k8 => ?_
    have z8 := k8.size
    have zd : W.drew.heap.size = W.heap.size := rfl
    refine ⟨(ha1.keep0 k8).ld rfl, ldI_of (k8.cell ha0 fun h => h) rfl, ldC_of ((hBd.keep0 k8).cell 2) rfl, ?_⟩
    refine st_of hX (by simp) rfl fun w9 hX k9 _ => ?_
    refine st_of hX (by simp) rfl fun w10 hX k10 _ => ?_
    refine st_of hX (by simp) rfl fun w11 hX k11 _ => ?_
    refine st_of hX (by simp) rfl fun w12 hX k12 _ => ?_
    have kx : Keep None W w12 := (((((kd.then0 k8).then1 k9 (by omega)).then1 k10 (by omega)).then1 k11 (by omega)).then1 k12 (by omega))
    have hX : Blk w12 b38 (ce x) 30 := hX
    have aX := blk_at hX
    have zX := kx.size
    have lX := hX.lt
    have hOX := hO.keep0 kx
    have kwX := kW.then0 kx
    have hBX := hBW.keep0 kx
    have hRX := own_rdf hOX.own
    -- the place
    refine lp_of (fun s V => ∃ k : Nat, s.1 = (k : Int) ∧ k ≤ L.length ∧ (∀ j y, j < k → L[j]? = some y → ltE y x = true) ∧ Keep None w12 V) (fun s _ => (L.length - s.1).toNat) ⟨0, rfl, Nat.zero_le _, (fun j y hj => by omega), Keep.refl _ _⟩ ?_
    rintro ⟨k', ⟨⟩⟩ V ⟨k, rfl, hk, hlo, kV⟩
    simp only []
    have kV : Keep None w12 V.drew := kV.drew
    generalize V.drew = V at *
    -- the new list
    have build : (∀ y, L[k]? = some y → ltE x y = true) → ∀ V, Keep None w12 V →
        lp (σ := (Option Addr × Nat × Nat) × Int × Unit) (fun s92 w16 k91 => match s92 with
          | ((v89, v89n, v89c), v90, _) =>
          pif (decide (v90 < (k : Int))) (
            ixA op L.length v90 4 fun p95 =>
            ldI .i64 w16 (p95.add 0) fun x96 =>
            ldI .i64 w16 (p95.add 1) fun x97 =>
            ldI .i64 w16 (p95.add 2) fun x98 =>
            ldI .i64 w16 (p95.add 3) fun x99 =>
            alc w16 [.int .i64 x96, .int .i64 x97, .int .i64 x98, .int .i64 x99] 30 fun b100 w17 =>
            ∃ (x101 : Option Addr) (x101n x101c : Nat), ∃ w18 : World, (Builtin.append_ #[22, 22] 22 #[.slice v89 v89n v89c, .slice (some (⟨b100, 0, none⟩ : Addr)) 1 1]).run Try.prog w17 = .ok (.slice x101 x101n x101c) w18 ∧
            k91 ((x101, x101n, x101c), (IntKind.wrap .i64 (v90 + 1)), ()) w18) (
            ldI .i64 w16 ⟨b38, 0, none⟩ fun x104 =>
            ldI .i64 w16 ⟨b38, 1, none⟩ fun x105 =>
            ldI .i64 w16 ⟨b38, 2, none⟩ fun x106 =>
            ldI .i64 w16 ⟨b38, 3, none⟩ fun x107 =>
            alc w16 [.int .i64 x104, .int .i64 x105, .int .i64 x106, .int .i64 x107] 30 fun b108 w19 =>
            ∃ (x109 : Option Addr) (x109n x109c : Nat), ∃ w20 : World, (Builtin.append_ #[22, 22] 22 #[.slice v89 v89n v89c, .slice (some (⟨b108, 0, none⟩ : Addr)) 1 1]).run Try.prog w19 = .ok (.slice x109 x109n x109c) w20 ∧
            lp (σ := (Option Addr × Nat × Nat) × Int × Unit) (fun s114 w21 k113 => match s114 with
              | ((v111, v111n, v111c), v112, _) =>
              pif (decide (v112 < (L.length : Int))) (
                ixA op L.length v112 4 fun p117 =>
                ldI .i64 w21 (p117.add 0) fun x118 =>
                ldI .i64 w21 (p117.add 1) fun x119 =>
                ldI .i64 w21 (p117.add 2) fun x120 =>
                ldI .i64 w21 (p117.add 3) fun x121 =>
                alc w21 [.int .i64 x118, .int .i64 x119, .int .i64 x120, .int .i64 x121] 30 fun b122 w22 =>
                ∃ (x123 : Option Addr) (x123n x123c : Nat), ∃ w23 : World, (Builtin.append_ #[22, 22] 22 #[.slice v111 v111n v111c, .slice (some (⟨b122, 0, none⟩ : Addr)) 1 1]).run Try.prog w22 = .ok (.slice x123 x123n x123c) w23 ∧
                k113 ((x123, x123n, x123c), (IntKind.wrap .i64 (v112 + 1)), ()) w23) (
                (fun (s : (Option Addr × Nat × Nat) × Unit) W' => ∃ (L' : List E), s.1.2.1 = L'.length ∧ L'.length ≤ i + 1 ∧ OutL w5 W' s.1.1 s.1.2.2 L' ∧ Srt L' ∧ (∀ x, x ∈ L' ↔ Mem os cs (i + 1) x) ∧ Keep None w W' ∧ w5.heap.size ≤ W'.heap.size ∧ Blk W' b2 [I a, I b, .slice tp tn tc] 24) ((v111, v111n, v111c), ()) w21)) ((x109, x109n, x109c), (k : Int), ()) w20)) ((none, 0, 0), 0, ()) V := by
      intro hhi V kV
      have zV := kV.size
      refine lp_of (fun s U => ∃ j : Nat, s.2.1 = (j : Int) ∧ j ≤ k ∧ s.1.2.1 = j ∧ Own U 30 4 s.1.1 j s.1.2.2 (fm (L.take j)) ∧ (∀ t, ob s.1.1 t → V.heap.size ≤ t) ∧ Keep None V U) (fun s _ => (k - s.2.1).toNat)
        ⟨0, rfl, Nat.zero_le _, rfl, Own.nil _ _ _, (fun t ⟨a, h, _⟩ => by cases h), Keep.refl _ _⟩ ?_
      rintro ⟨⟨np, nn, nc⟩, j', ⟨⟩⟩ U ⟨j, rfl, hj, hnn, hNO, hNf, kU⟩
      simp only [] at hnn hNO hNf ⊢
      subst hnn
      have kVU := kV.then0 kU
      refine pif_of (fun hlt2 => ?_) fun hge2 => ?_
      · have hlt2 : nn < k := by simpa using hlt2
        rw [wrap_nat nn (by omega)]
        obtain ⟨y, hy⟩ := getE (show nn < L.length by omega)
        refine (hRX.keep0 kVU).ix hy fun a3 ha3 => ha3.ld ?_
        refine appF (x := y) hNO (by omega) fun p' c' w18 hO' hp' k18 => ?_
        refine ⟨⟨nn + 1, rfl, hlt2, rfl, by rw [List.take_add_one, hy]; exact hO', fun t ht => ?_, kU.trans k18 fun t ht hh => by have := hNf t hh; omega⟩, by omega⟩
        rcases hp' t ht with h' | h'
        · exact hNf t h'
        · have := kU.size; omega
      · have hge2 : nn = k := by simp at hge2; omega
        subst hge2
        have aU := aX.keep0 kVU
        refine ldI_of aU.1 (ldI_of aU.2.1 (ldI_of aU.2.2.1 (ldI_of aU.2.2.2 ?_)))
        refine appF (x := x) hNO (by omega) fun p' c' w20 hO' hp' k20 => ?_
        have hf20 : ∀ t, ob p' t → V.heap.size ≤ t := fun t ht => by
          rcases hp' t ht with h' | h'
          · exact hNf t h'
          · have := kU.size; omega
        have kV20 : Keep None V w20 := kU.trans k20 fun t ht hh => by have := hNf t hh; omega
        refine lp_of (fun s U => ∃ j : Nat, s.2.1 = (j : Int) ∧ nn ≤ j ∧ j ≤ L.length ∧ s.1.2.1 = j + 1 ∧ Own U 30 4 s.1.1 (j + 1) s.1.2.2 (fm (L.take nn ++ x :: (L.drop nn).take (j - nn))) ∧ (∀ t, ob s.1.1 t → V.heap.size ≤ t) ∧ Keep None V U) (fun s _ => (L.length - s.2.1).toNat)
          ⟨nn, rfl, Nat.le_refl _, hk, rfl, by rw [Nat.sub_self]; exact hO', hf20, kV20⟩ ?_
        rintro ⟨⟨mp, mn, mc⟩, j', ⟨⟩⟩ U2 ⟨j, rfl, hj1, hj2, hmn, hMO, hMf, kU2⟩
        simp only [] at hmn hMO hMf ⊢
        subst hmn
        have kVU2 := kV.then0 kU2
        refine pif_of (fun hlt3 => ?_) fun hge3 => ?_
        · have hlt3 : j < L.length := by simpa using hlt3
          rw [wrap_nat j (by omega)]
          obtain ⟨y, hy⟩ := getE hlt3
          refine (hRX.keep0 kVU2).ix hy fun a3 ha3 => ha3.ld ?_
          refine appF (x := y) hMO (by omega) fun p'' c'' w23 hO'' hp'' k23 => ?_
          refine ⟨⟨j + 1, rfl, by omega, hlt3, rfl, ?_, fun t ht => ?_, kU2.trans k23 fun t ht hh => by have := hMf t hh; omega⟩, by omega⟩
          · have e1 : (L.drop nn).take (j + 1 - nn) = (L.drop nn).take (j - nn) ++ [y] := by
              rw [show j + 1 - nn = (j - nn) + 1 by omega, List.take_add_one, List.getElem?_drop, show nn + (j - nn) = j by omega, hy]; rfl
            rw [e1]
            have e2 : L.take nn ++ x :: ((L.drop nn).take (j - nn) ++ [y]) = (L.take nn ++ x :: (L.drop nn).take (j - nn)) ++ [y] := by simp
            rw [e2]
            exact hO''
          · rcases hp'' t ht with h' | h'
            · exact hMf t h'
            · have := kU2.size; omega
        · have hge3 : j = L.length := by simp at hge3; omega
          subst hge3
          have e1 : L.take nn ++ x :: (L.drop nn).take (L.length - nn) = insE L nn x := by
            unfold insE
            rw [List.take_of_length_le (show (L.drop nn).length ≤ L.length - nn by rw [List.length_drop]; exact Nat.le_refl _)]
          rw [e1] at hMO
          have el : (insE L nn x).length = L.length + 1 := by unfold insE; rw [List.length_append, List.length_cons, List.length_take, List.length_drop]; omega
          refine ⟨insE L nn x, el.symm, by omega, ⟨by rw [el]; exact hMO, fun t ht => by have := hMf t ht; omega⟩, srt_ins hsr hk hlo hhi, fun y => ?_, kwX.then0 kVU2, ?_, hBX.keep0 kVU2⟩
          · rw [mem_succ hc hx y, ← hmem y]; exact mem_ins
          · show w5.heap.size ≤ U2.heap.size
            have := kVU2.size; omega
    have hRV := hRX.keep0 kV
    have aV := aX.keep0 kV
    by_cases hkl : k < L.length
    · have ek : decide ((k : Int) < (L.length : Int)) = true := by simpa using hkl
      obtain ⟨y, hy⟩ := getE hkl
      rw [ek]
      refine gd_t rfl (hRV.ix hy fun a3 ha3 => gd_t rfl (ha3.ld (gd_t rfl ?_)))
      refine ldI_of aV.1 (ldI_of aV.2.1 (ldI_of aV.2.2.1 (ldI_of aV.2.2.2 (gd_t rfl ?_))))
      refine cl_of ok14 (ahead14 y x V) fun e w14 ⟨he, k14⟩ => ⟨_, he, ?_⟩
      have k14' := kV.then0 k14
      have a14 := aV.keep0 k14
      have hR14 := hRV.keep0 k14
      rw [wrap_nat k (by omega)]
      refine pif_of (fun hc' => ?_) fun hc' => ?_
      · have hc' : ltE y x = true := hc'
        refine ⟨⟨k + 1, rfl, hkl, fun j z hj hz => ?_, k14'⟩, by omega⟩
        by_cases hjk : j = k
        · subst hjk
          rw [hy] at hz; injection hz with hz; subst hz; exact hc'
        · exact hlo j z (by omega) hz
      · have hc' : ltE y x = false := hc'
        refine gd_t rfl (hR14.ix hy fun a4 ha4 => gd_t rfl (ha4.ld (gd_t rfl ?_)))
        refine ldI_of a14.1 (ldI_of a14.2.1 (ldI_of a14.2.2.1 (ldI_of a14.2.2.2 (gd_t rfl (eqT y x ?_)))))
        by_cases hyx : y = x
        · rw [decide_eq_true hyx]
          refine pif_t rfl ?_
          have hxL : x ∈ L := hyx ▸ List.mem_of_getElem? hy
          refine ⟨L, rfl, by omega, hOX.keep0 k14'.drew, hsr, fun z => ?_, kwX.then0 k14'.drew, by have := k14'.drew.size; show w5.heap.size ≤ w14.drew.heap.size; omega, hBX.keep0 k14'.drew⟩
          rw [mem_succ hc hx z, ← hmem z]
          exact ⟨fun h => Or.inl h, fun h => by rcases h with h | rfl; exact h; exact hxL⟩
        · rw [decide_eq_false hyx]
          refine pif_f rfl ?_
          refine build (fun z hz => ?_) _ k14'.drew
          rw [hy] at hz; injection hz with hz; subst hz
          cases h3 : ltE x y with
          | true => rfl
          | false => exact absurd (ltE_tri hc' h3) hyx
    · have ek : decide ((k : Int) < (L.length : Int)) = false := by simpa using hkl
      rw [ek]
      refine gd_f rfl (gd_f rfl (gd_f rfl (gd_f rfl (pif_f rfl ?_))))
      refine gd_f rfl (gd_f rfl (gd_f rfl (gd_f rfl (pif_f rfl ?_))))
      refine build (fun z hz => ?_) _ kV.drew
      have := (List.getElem?_eq_some_iff.1 hz).1
      omega
  · have hge : i = m := by simp at hge; omega
    subst hge
    exact ⟨0, op, oc, L, rfl, Or.inr (Or.inr ⟨hnb, hri, rfl, hsr, fun x => by rw [hmem x, hcl]⟩), by omega, hO.own, kW⟩

/-- a table that the law looks at first -/
theorem law3 (a b : Int) (hF : RdF w tp tn os) (htn : tn ≤ 1048576) (hC : RdL w q m cs) (hm : m ≤ 1048576) :
    Calls Try.prog 3 #[.agg #[I a, I b, .slice tp tn tc], .slice q m d] w fun e w' => e = .returned (.bool true) ∧ RowKit.Below w.heap.size w w' := by
  refine (ans_of (V3_calls a b tp tn tc q m d w (Ans w _) ?_)).mono fun e w' ⟨he, hk⟩ => ⟨he, hk.below0⟩
  unfold V3
  refine alc_at fun b2 w1 hb2 hB k1 => ?_
  refine alc_at fun b4 w2 hb4 h4 k2 => ?_
  refine alc_at fun b5 w3 hb5 h5 k3 => ?_
  simp only [add_mk, Nat.zero_add, Nat.add_zero]
  have hB := (hB.keep0 k2).keep0 k3
  have k13 := (k1.then0 k2).then0 k3
  have f4 : RdF w3 (some ⟨b4, 0, none⟩) 2 [(6, 0, 0, 0, ()), (6, 0, 0, 0, ())] := (blk_rdf (xs := [(6, 0, 0, 0, ()), (6, 0, 0, 0, ())]) h4 rfl).keep0 k3
  have l5 : RdL w3 (some ⟨b5, 0, none⟩) 2 [0, 1] := blk_rdl (xs := [0, 1]) h5 rfl
  refine cl_of ok5 (reasons5 (tc := 2) (d := 2) 0 0 f4 (by omega) l5 (by omega)) fun e w4 ⟨v, he, code, p, c, L, hv, hS, hLl, hO, k4⟩ => ⟨_, _, _, _, he.trans (congrArg Ending.returned hv), ?_⟩
  have hS0 : RSpec 0 0 [(6, 0, 0, 0, ()), (6, 0, 0, 0, ())] [0, 1] 0 [(6, 0, 0, 0, ())] := by
    refine Or.inr (Or.inr ⟨by unfold Bad; omega, fun i x hx => ?_, rfl, List.pairwise_singleton .., fun x => ?_⟩)
    · match i, hx with
      | 0, hx => injection hx with hx; subst hx; exact ⟨by omega, by simp, fun y h => by omega⟩
      | 1, hx => injection hx with hx; subst hx; exact ⟨by omega, by simp, fun y _ h => by injection h with h; omega⟩
      | i + 2, hx => cases hx
    · rw [List.mem_singleton]
      constructor
      · rintro rfl; exact ⟨0, 0, by simp, rfl, rfl⟩
      · rintro ⟨j, c, _, hc, hx⟩
        match j, hc with
        | 0, hc => injection hc with hc; subst hc; injection hx with hx; exact hx.symm
        | 1, hc => injection hc with hc; subst hc; injection hx with hx; exact hx.symm
        | j + 2, hc => cases hc
  obtain ⟨rfl, rfl⟩ := hS.uniq hS0
  refine pif_f rfl ?_
  have hB4 := hB.keep0 k4
  have k14 := k13.then0 k4
  refine ldI_of (hB4.cell 0) (ldI_of (hB4.cell 1) (ldC_of (hB4.cell 2) ?_))
  refine cl_of ok5 (reasons5 a b (hF.keep0 k14) htn (hC.keep0 k14) hm) fun e w5 ⟨v, he, code1, p1, c1, L1, hv, hS1, hl1, hO1, k5⟩ => ⟨_, _, _, _, he.trans (congrArg Ending.returned hv), ?_⟩
  have hB5 := hB4.keep0 k5
  have k15 := k14.then0 k5
  refine ldI_of (hB5.cell 0) (ldI_of (hB5.cell 1) (ldC_of (hB5.cell 2) ?_))
  refine cl_of ok6 (reasons6 a b (hF.keep0 k15) htn (hC.keep0 k15) hm) fun e w6 ⟨v, he, code2, p2, c2, L2, hv, hS2, hl2, hO2, k6⟩ => ⟨_, _, _, _, he.trans (congrArg Ending.returned hv), ?_⟩
  obtain ⟨rfl, rfl⟩ := hS1.uniq hS2
  have e1 : (code1 == code1) = true := by simp
  refine gd_t e1 (cl_of ok7 (same7 ((own_rdf hO1).keep0 k6) (own_rdf hO2) (by omega)) fun e w7 ⟨he, k7⟩ => ⟨_, he, ?_⟩)
  rw [e1, decide_eq_true rfl]
  exact ⟨rfl, (k15.then0 k6).then0 k7⟩
end
end Go.Proofs.Ytglhgmgegabinaa.Ex
