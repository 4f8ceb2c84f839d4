/- Levels: where literals became false, how many levels a clause has. -/
import Derived.Test.YtlbpllpomdjooaaLearnD
set_option linter.unusedVariables false
set_option linter.unusedSimpArgs false
set_option maxRecDepth 100000
namespace Go.Proofs.Ytlbpllpomdjooaa.Learn
open Go Go.Proofs.Ytlbpllpomdjooaa.Vc Go.Proofs.Ytlbpllpomdjooaa.T
open Go.Proofs.Ytlbpllpomdjooaa.Apart (RdL own_rdl wrap_nat getE own_len copy same take_snoc Sl sv)

theorem len_of {w : World} {r : Nat} {f : List (Int × Int)} {K : Int → World → Prop} (h : Mp w r f) (hk : K f.length w) :
    ∃ x : Int, ∃ w' : World, (Builtin.len_ #[52] 3 #[.map (some r)]).run Try.prog w = .ok (.int .i64 x) w' ∧ K x w' := by
  obtain ⟨es, clock, hb, he⟩ := h
  refine ⟨f.length, w, ?_, hk⟩
  have hl : es.size = f.length := by
    have := congrArg List.length he
    simpa using this
  simp [Builtin.len_, run_underlying u52, MapKept.run_getObj_map hb, Result.andThen, goInt, hl]
/-- where literals are false, from 1 on -/
def Pm (f : List (Int × Int)) (es : List En) : Prop := ∀ l, (mget l f = 0 ∧ ∀ y ∈ es, neg y.lit ≠ l) ∨ ∃ (i : Nat) (x : En), mget l f = (i : Int) + 1 ∧ es[i]? = some x ∧ neg x.lit = l
section
variable {w w' : World} {p q : Option Addr} {n m c d : Nat} {es : List En} {cs : List Int}
theorem places40 (h : RdE w p n es) (hn : n ≤ 1099511627776) : Calls Try.prog 40 #[.slice p n c] w fun e w' => ∃ r f, e = .returned (.map (some r)) ∧ w.heap.size ≤ r ∧ Mp w' r f ∧ Pm f es ∧ Keep None w w' := by
  refine (V40_calls p n c w (fun v w' => ∃ r f, v = .map (some r) ∧ w.heap.size ≤ r ∧ Mp w' r f ∧ Pm f es ∧ Keep None w w') ?_).mono fun e w' ⟨v, he, r, f, hv, hk⟩ => ⟨r, f, by rw [he, hv], hk⟩
  unfold V40
  have hl := h.len
  refine mkmap_of fun r w1 hrw hM k1 => ?_
  refine lp_of (fun s w' => ∃ (i : Nat) (f : List (Int × Int)), s.1 = (i : Int) ∧ i ≤ n ∧ Keep None w w' ∧ Mp w' r f ∧ Pm f (es.take i)) (fun s _ => (n - s.1).toNat)
    ⟨0, [], rfl, Nat.zero_le _, k1, hM, fun l => Or.inl ⟨rfl, fun y hy => by cases hy⟩⟩ ?_
  rintro ⟨i', ⟨⟩⟩ w2 ⟨i, f, rfl, hi, k2, hM2, hP⟩
  simp only []
  refine pif_of (fun hlt => ?_) fun hge => ?_
  · have hlt : i < n := by simpa using hlt
    rw [wrap_nat i (by omega)]
    obtain ⟨x, hx⟩ := getE (show i < es.length by omega)
    refine (h.keep0 k2).ix hx fun ad ⟨s, rn, rc, c0, c1, c2, hs⟩ => ldI_of c0 (ldI_of c1 (ldC_of c2 ?_))
    refine alc_at fun b w3 hb hB k3 => ?_
    simp only [add_mk, Nat.add_zero, Nat.zero_add]
    refine st_of hB (by simp) rfl fun w4 hB4 k4 _ => ?_
    refine st_of hB4 (by simp) rfl fun w5 hB5 k5 _ => ?_
    refine st_of hB5 (by simp) rfl fun w6 hB6 k6 _ => ?_
    have k26 : Keep None w2 w6 := ((k3.then1 k4 (by omega)).then1 k5 (by omega)).then1 k6 (by omega)
    simp only [List.set_cons_zero, List.set_cons_succ] at hB6
    have k06 := k2.then0 k26
    refine ldI_of (hB6.cell 0) (up_of u52 Try.underlying3 (hM2.keep0 k26) fun w7 hM7 k7 _ => ⟨⟨i + 1, _, rfl, hlt, k06.trans k7 fun j hj hh => by have : j = r := hh; omega, hM7, fun l => ?_⟩, by omega⟩)
    rw [mget_mput, take_snocE hx]
    by_cases hlx : l = IntKind.wrap .i64 (0 - x.lit)
    · rw [if_pos hlx]
      refine Or.inr ⟨i, x, by omega, ?_, hlx.symm⟩
      rw [List.getElem?_append_right (by simp; omega)]
      have : i - (es.take i).length = 0 := by simp; omega
      rw [this]; rfl
    · rw [if_neg hlx]
      rcases hP l with ⟨e, hno⟩ | ⟨j, y, e, hy, hyl⟩
      · refine Or.inl ⟨e, fun y hy => ?_⟩
        rw [List.mem_append, List.mem_singleton] at hy
        rcases hy with hy | rfl
        · exact hno y hy
        · exact fun e => hlx e.symm
      · have hj := (List.getElem?_eq_some_iff.1 hy).1
        exact Or.inr ⟨j, y, e, by rw [List.getElem?_append_left hj]; exact hy, hyl⟩
  · have hge : i = n := by simp at hge; omega
    subst hge
    rw [← hl, List.take_length] at hP
    exact ⟨r, f, rfl, by omega, hM2, hP, k2⟩
/-- the level of a literal's variable -/
def lev? (es : List En) (l : Int) : Option Int := (es.find? fun x => decide (x.lit = l ∨ x.lit = neg l)).map fun x => x.lev
theorem lev_none {l : Int} (h : ∀ y ∈ es, y.lit ≠ l ∧ y.lit ≠ neg l) : lev? es l = none := by
  unfold lev?
  rw [List.find?_eq_none.2 fun y hy => by have := h y hy; simp [this.1, this.2]]
  rfl
theorem fm_uniq (hF : Fm es) {l : Int} (hl : fl l = true) {i j : Nat} {x y : En} (hx : es[i]? = some x) (hy : es[j]? = some y) (h1 : x.lit = l ∨ x.lit = neg l) (h2 : y.lit = l ∨ y.lit = neg l) : i = j := by
  have aux : ∀ {i j : Nat} {x y : En}, es[i]? = some x → es[j]? = some y → (x.lit = l ∨ x.lit = neg l) → (y.lit = l ∨ y.lit = neg l) → ¬ i < j := by
    intro i j x y hx hy h1 h2 hlt
    have hm : x ∈ es.take j := List.mem_iff_getElem?.2 ⟨i, by rw [List.getElem?_take, if_pos hlt]; exact hx⟩
    have hg := (hF j y hy).2.1 x hm
    have hnn := neg_neg hl
    rcases h1 with h1 | h1 <;> rcases h2 with h2 | h2
    · exact hg.1 (h1.trans h2.symm)
    · exact hg.2 (by rw [h2, hnn]; exact h1)
    · exact hg.2 (by rw [h2]; exact h1)
    · exact hg.1 (h1.trans h2.symm)
  have a1 := aux hx hy h1 h2
  have a2 := aux hy hx h2 h1
  omega
theorem lev_some (hF : Fm es) {l : Int} (hl : fl l = true) {i : Nat} {x : En} (hx : es[i]? = some x) (h1 : x.lit = l ∨ x.lit = neg l) : lev? es l = some x.lev := by
  unfold lev?
  cases hf : es.find? (fun x => decide (x.lit = l ∨ x.lit = neg l)) with
  | none =>
    have := List.find?_eq_none.1 hf x (List.mem_of_getElem? hx)
    exact absurd (by simpa using h1) this
  | some y =>
    have hp := List.find?_some hf
    obtain ⟨j, hj⟩ := List.mem_iff_getElem?.1 (List.mem_of_find?_eq_some hf)
    have e := fm_uniq hF hl hx hj h1 (by simpa using hp)
    subst e
    rw [hx] at hj
    injection hj with hj
    rw [hj]; rfl
def addS (S : List Int) (L : Int) : List Int := if L ∈ S then S else S ++ [L]
def runL (es : List En) : List Int → List Int → Option (List Int)
  | [], S => some S
  | l :: cs, S => match lev? es l with
    | none => none
    | some L => runL es cs (addS S L)
def ansV (o : Option (List Int)) : Value := match o with | none => .tuple #[I 0, I 2] | some S => .tuple #[I S.length, I 0]
theorem drop_cons {R : List Int} {i : Nat} {x : Int} (h : R[i]? = some x) : R.drop i = x :: R.drop (i + 1) := by
  have hi := (List.getElem?_eq_some_iff.1 h).1
  rw [List.drop_eq_getElem_cons hi]
  rw [List.getElem?_eq_getElem hi] at h
  injection h with h
  rw [h]
theorem mput_keys (k v : Int) : ∀ f : List (Int × Int), (mput k v f).map (fun p : Int × Int => p.1) = addS (f.map fun p : Int × Int => p.1) k := by
  intro f
  induction f with
  | nil => simp [mput, addS]
  | cons p f ih =>
    unfold mput
    by_cases h : p.1 = k
    · rw [if_pos h]
      simp [addS, h]
    · rw [if_neg h, List.map_cons, ih, List.map_cons]
      unfold addS
      have h' : ¬ k = p.1 := fun e => h e.symm
      by_cases hm : k ∈ f.map fun p : Int × Int => p.1
      · rw [if_pos hm, if_pos (List.mem_cons_of_mem _ hm)]
      · rw [if_neg hm, if_neg (by rw [List.mem_cons]; exact fun e => e.elim h' hm)]; rfl
theorem levels13 (hE : RdE w p n es) (hn : n ≤ 1048576) (hr : ∀ x ∈ es, x.rs.length ≤ 1099511627776) (hC : RdL w q m cs) (hm : m ≤ 1048576) :
    Calls Try.prog 13 #[.slice p n c, .slice q m d] w fun e w' => ∃ b, e = .returned (if b then ansV (runL es cs []) else .tuple #[I 0, I 1]) ∧ (b = true ↔ Fm es ∧ cs.all fl = true) ∧ Keep None w w' := by
  refine (V13_calls p n c q m d w (fun v w' => ∃ b, v = (if b then ansV (runL es cs []) else .tuple #[I 0, I 1]) ∧ (b = true ↔ Fm es ∧ cs.all fl = true) ∧ Keep None w w') ?_).mono fun e w' ⟨v, he, b, hv, hk⟩ => ⟨b, by rw [he, hv], hk⟩
  unfold V13
  have hl := hE.len
  have hcl := hC.len
  refine cl_of ok10 (formed10 hE (by omega) hr) fun e w1 ⟨b, he, hb, k1⟩ => ⟨b, he, ?_⟩
  cases b with
  | false => exact gd_f rfl (pif_t rfl ⟨false, rfl, ⟨(fun h => by cases h), fun h => by have := hb.2 h.1; cases this⟩, k1⟩)
  | true =>
    have hF := hb.1 rfl
    refine gd_t rfl (cl_of ok39 (sound39 (hC.keep0 k1) (by omega)) fun e w2 ⟨he, k2⟩ => ⟨_, he, ?_⟩)
    have k02 := k1.then0 k2
    cases hs : cs.all fl with
    | false => exact pif_t rfl ⟨false, rfl, ⟨(fun h => by cases h), fun h => by have := h.2; cases this⟩, k02⟩
    | true =>
      refine pif_f rfl (cl_of ok40 (places40 (hE.keep0 k02) (by omega)) fun e w3 ⟨r, f, he, hrw, hM, hP, k3⟩ => ⟨_, he, ?_⟩)
      have k03 := k02.then0 k3
      refine mkmap_of fun r2 w4 hr2 hM2 k4 => ?_
      have k04 := k03.then0 k4
      have hrr := hM.lt
      have y2 := k02.size
      have y3 := k03.size
      refine lp_of (fun s w' => ∃ (i : Nat) (g : List (Int × Int)), s.1 = (i : Int) ∧ i ≤ m ∧ Keep None w w' ∧ Mp w' r f ∧ Mp w' r2 g ∧ runL es cs [] = runL es (cs.drop i) (g.map fun p : Int × Int => p.1)) (fun s _ => (m - s.1).toNat)
        ⟨0, [], rfl, Nat.zero_le _, k04, hM.keep0 k4, hM2, rfl⟩ ?_
      rintro ⟨i', ⟨⟩⟩ w5 ⟨i, g, rfl, hi, k5, hM5, hG5, hrun⟩
      simp only []
      refine pif_of (fun hlt => ?_) fun hge => ?_
      · have hlt : i < m := by simpa using hlt
        rw [wrap_nat i (by omega)]
        refine (hC.keep0 k5).ix hlt fun a l hll ha => ldI_of ha (lk_of u52 Try.underlying3 z3 hM5 (lk_of u52 Try.underlying3 z3 hM5 ?_))
        have hfl : fl l = true := List.all_eq_true.1 hs l (List.mem_of_getElem? hll)
        have hnn := neg_neg hfl
        rw [drop_cons hll] at hrun
        have h1 := hP l
        have h2 := hP (neg l)
        -- no entry
        have none_ : mget l f = 0 → mget (neg l) f = 0 → lev? es l = none := fun e1 e2 => by
          refine lev_none fun y hy => ⟨fun e => ?_, fun e => ?_⟩
          · rcases h2 with ⟨_, h⟩ | ⟨i, x, h, _⟩
            · exact h y hy (by rw [e])
            · omega
          · rcases h1 with ⟨_, h⟩ | ⟨i, x, h, _⟩
            · exact h y hy (by rw [e]; exact hnn)
            · omega
        have lits : ∀ {y : En} {k : Int}, y ∈ es → neg y.lit = k → y.lit = neg k := fun hy e => by
          obtain ⟨j, hj⟩ := List.mem_iff_getElem?.1 hy
          rw [← e, neg_neg (hF j _ hj).1]
        -- an entry
        have some_ : ∀ (k : Nat) (x : En), es[k]? = some x → (x.lit = l ∨ x.lit = neg l) → ∀ V : Int, V = (k : Int) + 1 → 
            ixA p n (IntKind.wrap .i64 (V - 1)) 3 fun p29 => ldI .i64 w5 (p29.add 1) fun x30 => ∃ x31 : Int, ∃ w9 : World, (Instr.lookup 52 (.map (some r2)) (.int .i64 x30) false).run Try.prog w5 = .ok (.int .i64 x31) w9 ∧
            ∃ w10 : World, (Instr.mapUpdate 52 (.map (some r2)) (.int .i64 x30) (.int .i64 (IntKind.wrap .i64 (x31 + 1)))).run Try.prog w9 = .ok () w10 ∧
            ((∃ (j : Nat) (g : List (Int × Int)), ((i + 1 : Nat) : Int) = (j : Int) ∧ j ≤ m ∧ Keep None w w10 ∧ Mp w10 r f ∧ Mp w10 r2 g ∧ runL es cs [] = runL es (cs.drop j) (g.map fun p : Int × Int => p.1)) ∧ ((m : Int) - ((i + 1 : Nat) : Int)).toNat < ((m : Int) - (i : Int)).toNat) := by
          intro k x hx hxl V hV
          have hk := (List.getElem?_eq_some_iff.1 hx).1
          have ev : IntKind.wrap .i64 (V - 1) = (k : Int) := by rw [IntKind.wrap_i64]; omega
          rw [ev]
          refine (hE.keep0 k5).ix hx fun a ⟨_, _, _, _, c1, _⟩ => ldI_of c1 (lk_of u52 Try.underlying3 z3 hG5 (up_of u52 Try.underlying3 hG5 fun w6 hG6 k6 _ => ⟨⟨i + 1, _, rfl, hlt, k5.trans k6 fun j hj hh => ?_, hM5.keep k6 fun hh => ?_, hG6, ?_⟩, by omega⟩))
          · have : j = r2 := hh; omega
          · have : r = r2 := hh; omega
          · rw [hrun, mput_keys]
            show (match lev? es l with | none => none | some L => runL es (cs.drop (i + 1)) (addS (g.map fun p : Int × Int => p.1) L)) = _
            rw [lev_some hF hfl hx hxl]
        rcases h1 with ⟨e1, hno1⟩ | ⟨k, x, e1, hx, hxl⟩
        · rw [e1]
          rcases h2 with ⟨e2, hno2⟩ | ⟨k, x, e2, hx, hxl⟩
          · rw [show mget (IntKind.wrap .i64 (0 - l)) f = 0 from e2]
            refine pif_t rfl ⟨true, ?_, ⟨fun _ => ⟨hF, by first | rfl | trivial⟩, fun _ => rfl⟩, k5⟩
            rw [hrun]
            have : runL es (l :: cs.drop (i + 1)) (g.map fun p : Int × Int => p.1) = none := by
              show (match lev? es l with | none => none | some L => runL es (cs.drop (i + 1)) (addS (g.map fun p : Int × Int => p.1) L)) = _
              rw [none_ e1 e2]
            rw [this]; rfl
          · rw [show mget (IntKind.wrap .i64 (0 - l)) f = (k : Int) + 1 from e2]
            have em : (if (k : Int) + 1 > 0 then (k : Int) + 1 else 0) = (k : Int) + 1 := if_pos (by omega)
            rw [em]
            refine pif_f (by simp; omega) (some_ k x hx (Or.inl ?_) _ rfl)
            rw [lits (List.mem_of_getElem? hx) hxl, hnn]
        · rw [e1]
          have e2 : mget (IntKind.wrap .i64 (0 - l)) f = 0 := by
            rcases h2 with ⟨e2, _⟩ | ⟨k2, x2, e2, hx2, hxl2⟩
            · exact e2
            · have a1 := lits (List.mem_of_getElem? hx) hxl
              have a2 := lits (List.mem_of_getElem? hx2) hxl2
              rw [hnn] at a2
              have := fm_uniq hF hfl hx hx2 (Or.inr a1) (Or.inl a2)
              subst this
              rw [hx] at hx2
              injection hx2 with hx2
              rw [← hx2, a1] at a2
              have := fl_iff.1 hfl
              unfold neg at a2
              rw [IntKind.wrap_i64] at a2
              omega
          rw [e2]
          have em : (if (0 : Int) > (k : Int) + 1 then (0 : Int) else (k : Int) + 1) = (k : Int) + 1 := if_neg (by omega)
          rw [em]
          exact pif_f (by simp; omega) (some_ k x hx (Or.inr (lits (List.mem_of_getElem? hx) hxl)) _ rfl)
      · have hge : i = m := by simp at hge; omega
        subst hge
        have hd : cs.drop i = [] := by rw [← hcl]; exact List.drop_length
        rw [hd] at hrun
        refine len_of hG5 ⟨true, ?_, ⟨fun _ => ⟨hF, by first | rfl | trivial⟩, fun _ => rfl⟩, k5⟩
        rw [hrun]
        show _ = ansV (some (g.map fun p : Int × Int => p.1))
        simp [ansV]
end
end Go.Proofs.Ytlbpllpomdjooaa.Learn
