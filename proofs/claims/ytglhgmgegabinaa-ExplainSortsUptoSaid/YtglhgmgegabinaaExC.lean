/- Reasons: the program's. -/
import Derived.Test.YtglhgmgegabinaaExB
set_option linter.unusedVariables false
set_option linter.unusedSimpArgs false
set_option linter.unusedSectionVars false
set_option maxRecDepth 100000
namespace Go.Proofs.Ytglhgmgegabinaa.Ex
open Go Go.Proofs.Ytglhgmgegabinaa.Vc Go.Proofs.Ytglhgmgegabinaa.T
open Go.Proofs.Ytglhgmgegabinaa.Sort (E JE ce fm fm_app fm_len fm_at fm_set)

/-- sorted, each once -/
def Srt (L : List E) : Prop := L.Pairwise fun x y => ltE x y = true
theorem srt_uniq : ∀ {l m : List E}, Srt l → Srt m → (∀ x, x ∈ l ↔ x ∈ m) → l = m := by
  intro l
  induction l with
  | nil =>
    intro m _ _ h
    cases m with
    | nil => rfl
    | cons y m => exact absurd ((h y).2 (by simp)) (by simp)
  | cons x l ih =>
    intro m hl hm h
    cases m with
    | nil => exact absurd ((h x).1 (by simp)) (by simp)
    | cons y m =>
      unfold Srt at hl hm
      rw [List.pairwise_cons] at hl hm
      have hxy : x = y := by
        have h1 := (h x).1 (by simp)
        have h2 := (h y).2 (by simp)
        rcases List.mem_cons.1 h1 with h1 | h1
        · exact h1
        rcases List.mem_cons.1 h2 with h2 | h2
        · exact h2.symm
        have := ltE_asym (hm.1 x h1)
        rw [hl.1 y h2] at this
        cases this
      subst hxy
      congr 1
      refine ih hl.2 hm.2 fun z => ⟨fun hz => ?_, fun hz => ?_⟩
      · rcases List.mem_cons.1 ((h z).1 (by simp [hz])) with rfl | h'
        · have := hl.1 z hz; rw [ltE_irr] at this; cases this
        · exact h'
      · rcases List.mem_cons.1 ((h z).2 (by simp [hz])) with rfl | h'
        · have := hm.1 z hz; rw [ltE_irr] at this; cases this
        · exact h'
/-- the faults that the numbers stand for -/
def Mem (os : List E) (cs : List Int) (i : Nat) (x : E) : Prop := ∃ j c, j < i ∧ cs[j]? = some c ∧ os[c.toNat]? = some x
theorem mem_succ {os : List E} {cs : List Int} {i : Nat} {c : Int} {x : E} (hc : cs[i]? = some c) (hx : os[c.toNat]? = some x) (y : E) : Mem os cs (i + 1) y ↔ Mem os cs i y ∨ y = x := by
  constructor
  · rintro ⟨j, c', hj, hc', hy⟩
    by_cases hji : j = i
    · subst hji
      rw [hc] at hc'; injection hc' with hc'; subst hc'
      rw [hx] at hy; injection hy with hy
      exact Or.inr hy.symm
    · exact Or.inl ⟨j, c', by omega, hc', hy⟩
  · rintro (⟨j, c', hj, h⟩ | rfl)
    · exact ⟨j, c', by omega, h⟩
    · exact ⟨i, c, by omega, hc, hx⟩
def Bad (a b : Int) : Prop := a < 0 ∨ a > b ∨ b > 1048576
/-- what Reasons answers -/
def RSpec (a b : Int) (os : List E) (cs : List Int) (code : Int) (L : List E) : Prop :=
  (Bad a b ∧ code = 1 ∧ L = []) ∨ (¬ Bad a b ∧ ¬ Ri cs os.length ∧ code = 2 ∧ L = []) ∨ (¬ Bad a b ∧ Ri cs os.length ∧ code = 0 ∧ Srt L ∧ ∀ x, x ∈ L ↔ Mem os cs cs.length x)
theorem RSpec.uniq {a b : Int} {os : List E} {cs : List Int} {code code' : Int} {L L' : List E} (h : RSpec a b os cs code L) (h' : RSpec a b os cs code' L') : code = code' ∧ L = L' := by
  rcases h with ⟨h1, rfl, rfl⟩ | ⟨h1, h2, rfl, rfl⟩ | ⟨h1, h2, rfl, h3, h4⟩ <;> rcases h' with ⟨h1', rfl, rfl⟩ | ⟨h1', h2', rfl, rfl⟩ | ⟨h1', h2', rfl, h3', h4'⟩
  · exact ⟨rfl, rfl⟩
  · exact absurd h1 h1'
  · exact absurd h1 h1'
  · exact absurd h1' h1
  · exact ⟨rfl, rfl⟩
  · exact absurd h2' h2
  · exact absurd h1' h1
  · exact absurd h2 h2'
  · exact ⟨rfl, srt_uniq h3 h3' fun x => (h4 x).trans (h4' x).symm⟩
def Rsn (a b : Int) (os : List E) (cs : List Int) (w : World) (v : Value) (w' : World) : Prop :=
  ∃ code p c L, v = .tuple #[.slice p L.length c, I code] ∧ RSpec a b os cs code L ∧ L.length ≤ 1048576 ∧ Own w' 30 4 p L.length c (fm L) ∧ Keep None w w'

theorem appF {w : World} {p : Option Addr} {n c : Nat} {L : List E} {x : E} {K : Option Addr → Nat → Nat → World → Prop} (hO : Own w 30 4 p n c (fm L)) (hs : n ≤ 2097152)
    (hk : ∀ p' c' w', Own w' 30 4 p' (n + 1) c' (fm (L ++ [x])) → (∀ i, ob p' i → ob p i ∨ w.heap.size ≤ i) → Keep (ob p) w w' → K p' (n + 1) c' w') :
    alc w [.int .i64 x.1, .int .i64 x.2.1, .int .i64 x.2.2.1, .int .i64 x.2.2.2.1] 30 fun b w7 => ∃ (p' : Option Addr) (n' c' : Nat), ∃ w' : World, (Builtin.append_ #[22, 22] 22 #[.slice p n c, .slice (some (⟨b, 0, none⟩ : Addr)) 1 1]).run Try.prog w7 = .ok (.slice p' n' c') w' ∧ K p' n' c' w' := by
  refine alc_at fun b w7 hb7 h7 k7 => ?_
  have z7 := k7.size
  have hnews : News w7 4 (some ⟨b, 0, none⟩) 1 1 (ce x) := Or.inr ⟨_, rfl, rfl, fun j u hu => by rw [add_mk, Nat.zero_add, h7.cell]; exact hu⟩
  refine app_of2 (e := 30) (sz := 4) (z := JE (0, 0, 0, 0, ())) (B := 32) Try.underlying22 (by kernel_rfl) rfl (by omega) (hO.keep0 k7) hnews (fun u hu => ?_) (by simp only [maxLen]; omega) (by omega) fun p' c' w' hO' hd => ?_
  · simp only [ce, List.mem_cons, List.not_mem_nil, or_false] at hu
    rcases hu with rfl | rfl | rfl | rfl <;> rfl
  · refine hk p' c' w' (by rw [fm_app]; exact hO') (fun i hi => ?_) ?_
    · rcases hd with ⟨e1, _, _, _⟩ | ⟨e1, _⟩
      · rw [e1] at hi; exact Or.inl hi
      · have := e1 i hi; exact Or.inr (by omega)
    · rcases hd with ⟨_, _, _, k⟩ | ⟨_, k⟩
      · exact (k7.none).trans k fun _ _ h => h
      · exact (k7.then0 k).none
theorem clF_of {k : FuncId} {first cap : Array Value} {args : List Value} {w : World} {R : Ending → World → Prop} (h : cl Try.prog k (first.toList ++ args ++ cap.toList) w R) :
    clF Try.prog (.func (.func k) first cap) args w R := ⟨k, first, cap, rfl, h⟩
theorem cm_order (w0 : World) (p : Option Addr) : Sort.Cm w0 p (.func (.func 12) #[] #[]) (fun _ => True) ltE where
  call := fun w x y R _ _ _ h => clF_of (cl_of ok12 (order12 x y w) fun e w' ⟨he, hk⟩ => by rw [he]; exact h _ _ (ordE_iff x y) hk)
  asym := fun x y _ _ h => ltE_asym h
  trans := fun x y z _ _ _ h h' => ltE_le h h'
theorem srt_of {L L' : List E} (hs : Sort.Sorted ltE 0 L'.length L') (hp : L'.Perm L) (hn : L.Nodup) : Srt L' := by
  have hn' : L'.Nodup := hp.nodup_iff.2 hn
  refine List.pairwise_iff_getElem.2 fun i j hi hj hij => ?_
  have h1 := hs i j (Nat.zero_le _) hij hj
  have gi : Sort.g L' i = L'[i] := by unfold Sort.g; rw [List.getD_eq_getElem?_getD, List.getElem?_eq_getElem hi]; rfl
  have gj : Sort.g L' j = L'[j] := by unfold Sort.g; rw [List.getD_eq_getElem?_getD, List.getElem?_eq_getElem hj]; rfl
  rw [gi, gj] at h1
  cases h2 : ltE L'[i] L'[j] with
  | true => rfl
  | false =>
    have := ltE_tri h1 h2
    exact absurd this.symm ((List.pairwise_iff_getElem.1 hn') i j hi hj hij)
section
variable {w : World} {tp q : Option Addr} {tn tc m d : Nat} {os : List E} {cs : List Int}
theorem bad_dec (a b : Int) : (cond (cond (decide (a < 0)) true (decide (a > b))) true (decide (b > 1048576))) = true ↔ Bad a b := by
  unfold Bad
  by_cases h1 : a < 0
  · simp [h1]
  · by_cases h2 : a > b
    · simp [h1, h2]
    · simp [h1, h2]
theorem reasons5 (a b : Int) (hF : RdF w tp tn os) (htn : tn ≤ 1048576) (hC : RdL w q m cs) (hm : m ≤ 1048576) :
    Calls Try.prog 5 #[.agg #[I a, I b, .slice tp tn tc], .slice q m d] w fun e w' => ∃ v, e = .returned v ∧ Rsn a b os cs w v w' := by
  refine V5_calls a b tp tn tc q m d w (Rsn a b os cs w) ?_
  unfold V5
  have hol := hF.len
  have hcl := hC.len
  refine alc_at fun b2 w1 hb2 hB k1 => ?_
  simp only [add_mk, Nat.zero_add, Nat.add_zero]
  have z1 := k1.size
  have lB := hB.lt
  refine ldI_of (hB.cell 0) ?_
  refine gd_pure a (fun _ K hK => ldI_of (hB.cell 0) hK) ?_
  refine gd_pure b (fun _ K hK => ldI_of (hB.cell 1) hK) ?_
  have hbd := bad_dec a b
  have key : ∀ x y : Int, (x = cond (!decide (a < 0)) a 0) → (y = cond (!decide (a < 0)) b 0) → cond (decide (a < 0)) true (decide (x > y)) = cond (decide (a < 0)) true (decide (a > b)) := by
    intro x y hx hy
    cases h : decide (a < 0) with
    | true => rfl
    | false => rw [h] at hx hy; simp only [Bool.not_false, cond_true] at hx hy; rw [hx, hy]
  rw [key _ _ rfl rfl]
  refine gd_pure b (fun _ K hK => ldI_of (hB.cell 1) hK) ?_
  have e3 : cond (cond (decide (a < 0)) true (decide (a > b))) true (decide (cond (!(cond (decide (a < 0)) true (decide (a > b)))) b 0 > 1048576)) = cond (cond (decide (a < 0)) true (decide (a > b))) true (decide (b > 1048576)) := by
    cases cond (decide (a < 0)) true (decide (a > b)) <;> rfl
  rw [e3]
  refine pif_of (fun h => ?_) fun h => ?_
  · exact ⟨1, none, 0, [], rfl, Or.inl ⟨hbd.1 h, rfl, rfl⟩, by simp, Own.nil _ _ _, k1⟩
  have hnb : ¬ Bad a b := fun h' => by rw [hbd.2 h'] at h; cases h
  refine ldC_of (hB.cell 2) ?_
  refine cl_of ok10 (rises10 (hC.keep0 k1) (by omega)) fun e w5 ⟨r, he, hr, k5⟩ => ⟨r, he, ?_⟩
  have k15 := k1.then0 k5
  cases r with
  | false => exact pif_t rfl ⟨2, none, 0, [], rfl, Or.inr (Or.inl ⟨hnb, (fun h => by rw [← hol] at hr; have := hr.2 h; cases this), rfl, rfl⟩), by simp, Own.nil _ _ _, k15⟩
  | true =>
  have hri : Ri cs os.length := by rw [hol]; exact hr.1 rfl
  refine pif_f rfl ?_
  have hB5 := hB.keep0 k5
  have z5 := k15.size
  have zb5 := k5.size
  refine mkF_of fun r w6 hr6 hM k6 => ?_
  have z6 := k6.size
  have lM := hM.lt
  refine lp_of (fun s W => ∃ (i : Nat) (F : List (E × Int)) (L : List E), s.2.1 = (i : Int) ∧ i ≤ m ∧ s.1.2.1 = L.length ∧ L.length ≤ i ∧ Own W 30 4 s.1.1 L.length s.1.2.2 (fm L) ∧ (∀ j, ob s.1.1 j → w6.heap.size ≤ j) ∧ MF W r F ∧
      (∀ x, (mgF x F = 0 ↔ x ∉ L) ∧ 0 ≤ mgF x F ∧ mgF x F ≤ i) ∧ L.Nodup ∧ (∀ x, x ∈ L ↔ Mem os cs i x) ∧ Keep None w W ∧ w6.heap.size ≤ W.heap.size ∧ Blk W b2 [I a, I b, .slice tp tn tc] 24) (fun s _ => (m - s.2.1).toNat)
    ⟨0, [], [], rfl, Nat.zero_le _, rfl, Nat.zero_le _, Own.nil _ _ _, (fun j ⟨a, h, _⟩ => by cases h), hM, (fun x => ⟨by simp [mgF], by simp [mgF], by simp [mgF]⟩), List.nodup_nil, (fun x => ⟨(fun h => by cases h), fun ⟨j, c, h, _⟩ => by omega⟩), k15.then0 k6, Nat.le_refl _, hB5.keep0 k6⟩ ?_
  rintro ⟨⟨op, on, oc⟩, i', ⟨⟩⟩ W ⟨i, F, L, rfl, hi, hon, hLi, hO, hfr, hM, hct, hnd, hmem, kW, zW, hBW⟩
  simp only [] at hon hO hfr ⊢
  subst hon
  refine pif_of (fun hlt => ?_) fun hge => ?_
  · have hlt : i < m := by simpa using hlt
    rw [wrap_nat i (by omega)]
    obtain ⟨c, hc⟩ := getE (show i < cs.length by omega)
    obtain ⟨c0, c1, _⟩ := hri i c hc
    obtain ⟨x, hx⟩ := getE (show c.toNat < os.length by omega)
    have ec : c = (c.toNat : Int) := by omega
    refine ⟨fun s W' => ∃ (F' : List (E × Int)) (L' : List E), s.1.2.1 = L'.length ∧ L'.length ≤ i + 1 ∧ Own W' 30 4 s.1.1 L'.length s.1.2.2 (fm L') ∧ (∀ j, ob s.1.1 j → w6.heap.size ≤ j) ∧ MF W' r F' ∧
      (∀ x, (mgF x F' = 0 ↔ x ∉ L') ∧ 0 ≤ mgF x F' ∧ mgF x F' ≤ ((i + 1 : Nat) : Int)) ∧ L'.Nodup ∧ (∀ x, x ∈ L' ↔ Mem os cs (i + 1) x) ∧ Keep None w W' ∧ w6.heap.size ≤ W'.heap.size ∧ Blk W' b2 [I a, I b, .slice tp tn tc] 24, ?_, ?_⟩
    rotate_left
    · rintro ⟨⟨p', n', c'⟩, ⟨⟩⟩ W' ⟨F', L', h1, h2, h3, h4, h5, h6, h7, h8, h9, h10, h11⟩
      simp only [] at h1 h3 h4 ⊢
      subst h1
      exact ⟨⟨i + 1, F', L', rfl, hlt, rfl, h2, h3, h4, h5, h6, h7, h8, h9, h10, h11⟩, by omega⟩
    refine (hC.keep0 kW).ix hc fun a0 ha0 => ldI_of ha0 (ldC_of (hBW.cell 2) ?_)
    rw [ec]
    refine (hF.keep0 kW).ix hx fun a1 ha1 => ?_
    refine ldI_of ha1.1 (ldI_of ha1.2.1 (ldI_of ha1.2.2.1 (ldI_of ha1.2.2.2 ?_)))
    refine alc_at fun b42 w9 hb42 hX k9 => ?_
    have z9 := k9.size
    refine st_of hX (by simp) rfl fun w10 hX k10 _ => ?_
    refine st_of hX (by simp) rfl fun w11 hX k11 _ => ?_
    refine st_of hX (by simp) rfl fun w12 hX k12 _ => ?_
    refine st_of hX (by simp) rfl fun w13 hX k13 _ => ?_
    have kx : Keep None W w13.drew := ((((k9.then1 k10 (by omega)).then1 k11 (by omega)).then1 k12 (by omega)).then1 k13 (by omega)).drew
    have hX : Blk w13.drew b42 (ce x) 30 := hX.drew
    generalize w13.drew = X at *
    have zX := kx.size
    have lX := hX.lt
    have hMX := hM.keep0 kx
    have hne : b42 ≠ r := by have := hM.lt; omega
    refine ldI_of (hX.cell 0) (ldI_of (hX.cell 1) (ldI_of (hX.cell 2) (ldI_of (hX.cell 3) ?_)))
    have hcx := hct x
    have eu : IntKind.wrap .i64 (mgF x F + 1) = mgF x F + 1 := by rw [IntKind.wrap_i64]; omega
    -- what follows, once the count is raised
    have tail : ∀ (Y : World) (F2 : List (E × Int)), MF Y r F2 → (∀ y, mgF y F2 = if y = x then mgF x F + 1 else mgF y F) → Keep (One r) X Y → Y.heap.size = X.heap.size →
        ldI .i64 Y ⟨b42, 0, none⟩ fun x51 => ldI .i64 Y ⟨b42, 1, none⟩ fun x52 => ldI .i64 Y ⟨b42, 2, none⟩ fun x53 => ldI .i64 Y ⟨b42, 3, none⟩ fun x54 =>
        ∃ x55 : Int, ∃ w17 : World, (Instr.lookup 36 (.map (some r)) (.agg #[.int .i64 x51, .int .i64 x52, .int .i64 x53, .int .i64 x54]) false).run Try.prog Y = .ok (.int .i64 x55) w17 ∧
        pif (x55 == 1) (
          ldI .i64 w17 ⟨b42, 0, none⟩ fun x57 => ldI .i64 w17 ⟨b42, 1, none⟩ fun x58 => ldI .i64 w17 ⟨b42, 2, none⟩ fun x59 => ldI .i64 w17 ⟨b42, 3, none⟩ fun x60 =>
          alc w17 [.int .i64 x57, .int .i64 x58, .int .i64 x59, .int .i64 x60] 30 fun b61 w18 =>
          ∃ (x62 : Option Addr) (x62n x62c : Nat), ∃ w19 : World, (Builtin.append_ #[22, 22] 22 #[.slice op L.length oc, .slice (some (⟨b61, 0, none⟩ : Addr)) 1 1]).run Try.prog w18 = .ok (.slice x62 x62n x62c) w19 ∧
          (fun (s : (Option Addr × Nat × Nat) × Unit) W' => ∃ (F' : List (E × Int)) (L' : List E), s.1.2.1 = L'.length ∧ L'.length ≤ i + 1 ∧ Own W' 30 4 s.1.1 L'.length s.1.2.2 (fm L') ∧ (∀ j, ob s.1.1 j → w6.heap.size ≤ j) ∧ MF W' r F' ∧
            (∀ x, (mgF x F' = 0 ↔ x ∉ L') ∧ 0 ≤ mgF x F' ∧ mgF x F' ≤ ((i + 1 : Nat) : Int)) ∧ L'.Nodup ∧ (∀ x, x ∈ L' ↔ Mem os cs (i + 1) x) ∧ Keep None w W' ∧ w6.heap.size ≤ W'.heap.size ∧ Blk W' b2 [I a, I b, .slice tp tn tc] 24) ((x62, x62n, x62c), ()) w19) (
          (fun (s : (Option Addr × Nat × Nat) × Unit) W' => ∃ (F' : List (E × Int)) (L' : List E), s.1.2.1 = L'.length ∧ L'.length ≤ i + 1 ∧ Own W' 30 4 s.1.1 L'.length s.1.2.2 (fm L') ∧ (∀ j, ob s.1.1 j → w6.heap.size ≤ j) ∧ MF W' r F' ∧
            (∀ x, (mgF x F' = 0 ↔ x ∉ L') ∧ 0 ≤ mgF x F' ∧ mgF x F' ≤ ((i + 1 : Nat) : Int)) ∧ L'.Nodup ∧ (∀ x, x ∈ L' ↔ Mem os cs (i + 1) x) ∧ Keep None w W' ∧ w6.heap.size ≤ W'.heap.size ∧ Blk W' b2 [I a, I b, .slice tp tn tc] 24) ((op, L.length, oc), ()) w17) := by
      intro Y F2 hMY hg kY zY
      have hXY := hX.keep1 kY hne
      have hr0 : w.heap.size ≤ r := by omega
      have kwY : Keep None w Y := (kW.then0 kx).then1 kY hr0
      have hOY := (hO.keep0 kx).keep kY fun j hj hh => by have := hfr j hj; have : j = r := hh; have := hM.lt; omega
      have hBY := (hBW.keep0 kx).keep1 kY (by omega)
      refine ldI_of (hXY.cell 0) (ldI_of (hXY.cell 1) (ldI_of (hXY.cell 2) (ldI_of (hXY.cell 3) ?_)))
      refine lkF_of (x := x) hMY ?_
      rw [hg x, if_pos rfl]
      refine pif_of (fun h => ?_) fun h => ?_
      · have h0 : mgF x F = 0 := by have : mgF x F + 1 = 1 := by simpa using h
                                    omega
        have hxL : x ∉ L := hcx.1.1 h0
        refine ldI_of (hXY.cell 0) (ldI_of (hXY.cell 1) (ldI_of (hXY.cell 2) (ldI_of (hXY.cell 3) ?_)))
        refine appF (x := x) hOY (by omega) fun p' c' w19 hO' hp' k19 => ?_
        have hS : ∀ j, ob op j → w6.heap.size ≤ j := hfr
        refine ⟨F2, L ++ [x], by simp, by simp; omega, by rw [List.length_append]; exact hO', fun j hj => ?_, hMY.keep k19 fun hh => by have := hS _ hh; omega, fun y => ?_, ?_, fun y => ?_, ?_, by have := k19.size; show w6.heap.size ≤ w19.heap.size; omega, hBY.keep k19 fun hh => by have := hS _ hh; omega⟩
        · rcases hp' j hj with h' | h'
          · exact hS j h'
          · omega
        · rw [hg y]
          by_cases hy : y = x
          · rw [if_pos hy]
            refine ⟨⟨fun h => by omega, fun h => absurd (by rw [hy]; simp) h⟩, by omega, by omega⟩
          · rw [if_neg hy]
            have := hct y
            refine ⟨this.1.trans ⟨fun h h' => ?_, fun h h' => h (by simp [h'])⟩, this.2.1, by omega⟩
            rcases List.mem_append.1 h' with h' | h'
            · exact h h'
            · exact hy (List.mem_singleton.1 h')
        · refine List.nodup_append.2 ⟨hnd, by simp, fun u hu v hv => ?_⟩
          rw [List.mem_singleton.1 hv]
          rintro rfl
          exact hxL hu
        · rw [mem_succ hc hx y, ← hmem y, List.mem_append, List.mem_singleton]
        · exact kwY.trans k19 fun j hj hh => by have := hS j hh; omega
      · have h0 : mgF x F ≠ 0 := fun h' => by rw [h'] at h; simp at h
        have hxL : x ∈ L := Classical.byContradiction fun h' => h0 (hcx.1.2 h')
        refine ⟨F2, L, rfl, by omega, hOY, hfr, hMY, fun y => ?_, hnd, fun y => ?_, kwY, by show w6.heap.size ≤ Y.heap.size; omega, hBY⟩
        · rw [hg y]
          by_cases hy : y = x
          · rw [if_pos hy, hy]
            refine ⟨⟨fun h => by omega, fun h => absurd hxL h⟩, by omega, by omega⟩
          · rw [if_neg hy]
            have := hct y
            exact ⟨this.1, this.2.1, by omega⟩
        · rw [mem_succ hc hx y, ← hmem y]
          exact ⟨fun h => Or.inl h, fun h => by rcases h with h | rfl; exact h; exact hxL⟩
    refine ⟨?_, ?_⟩
    · refine lkF_of (x := x) hMX ?_
      refine meF_of (x := x) hMX fun i1 v F1 w15 hM1 hi1 hg1 k15' z15 => ?_
      rw [eu]
      refine esF_of hM1 hi1 fun w16 hM2 k16 z16 => ?_
      exact tail w16 _ hM2 (fun y => by rw [mgF_set y hi1, hg1]) (k15'.trans k16 fun _ _ h => h) (by omega)
    · refine meF_of (x := x) hMX fun i1 v F1 w15 hM1 hi1 hg1 k15' z15 => ?_
      refine lkF_of (x := x) hM1 ?_
      rw [hg1 x, eu]
      refine esF_of hM1 hi1 fun w16 hM2 k16 z16 => ?_
      exact tail w16 _ hM2 (fun y => by rw [mgF_set y hi1, hg1]) (k15'.trans k16 fun _ _ h => h) (by omega)
  · have hge : i = m := by simp at hge; omega
    subst hge
    have hAr : Sort.Ar W op L.length oc (fun _ => True) W L := ⟨hO, Keep.refl _ _, fun _ _ => trivial⟩
    refine cl_of ok11 (Sort.sortFunc (cm_order W op) (by omega) hAr) fun e w26 ⟨he, z', hA, hp, hs, k26⟩ => ⟨he, ?_⟩
    have hzl : z'.length = L.length := hA.len
    rw [← hzl] at hs ⊢
    refine ⟨0, op, oc, z', rfl, Or.inr (Or.inr ⟨hnb, hri, rfl, srt_of hs hp hnd, fun x => ?_⟩), by omega, by rw [hzl]; exact hA.own, kW.trans k26 fun j hj hh => by have := hfr j hh; omega⟩
    rw [hp.mem_iff, hmem x, hcl]
end
end Go.Proofs.Ytglhgmgegabinaa.Ex
