/- Shrink: what is covered. -/
import Derived.Test.YtlbpllpomdjooaaLearnF
set_option linter.unusedVariables false
set_option linter.unusedSimpArgs false
set_option maxRecDepth 100000
namespace Go.Proofs.Ytlbpllpomdjooaa.Learn
open Go Go.Proofs.Ytlbpllpomdjooaa.Vc Go.Proofs.Ytlbpllpomdjooaa.T
open Go.Proofs.Ytlbpllpomdjooaa.Apart (RdL own_rdl wrap_nat getE own_len copy same take_snoc Sl sv Gro)

theorem clF_of {k : FuncId} {first cap : Array Value} {args : List Value} {w : World} {R : Ending → World → Prop} (h : cl Try.prog k (first.toList ++ args ++ cap.toList) w R) :
    clF Try.prog (.func (.func k) first cap) args w R := ⟨k, first, cap, rfl, h⟩
theorem cell_ne {w : World} {r : Nat} {f : List (Int × Int)} {a : Addr} {v : Value} (hM : Mp w r f) (h : w.cell? a = some v) : a.block ≠ r := by
  rintro rfl
  obtain ⟨es, clock, hb, _⟩ := hM
  simp [World.cell?, hb] at h
section
variable {w w' : World} {p : Option Addr} {n c r : Nat} {es : List En} {cs : List Int} {f : List (Int × Int)}
theorem rdl_keepM (h : RdL w p n cs) (hM : Mp w r f) (hk : Keep (One r) w w') : RdL w' p n cs := ⟨h.len, fun i x hx => by
  obtain ⟨a, e, hc⟩ := h.cell i x hx
  exact ⟨a, e, hk.cell hc (cell_ne hM hc)⟩⟩
theorem rde_keepM (h : RdE w p n es) (hM : Mp w r f) (hk : Keep (One r) w w') : RdE w' p n es := ⟨h.len, fun i x hx => by
  obtain ⟨a, q, rn, rc, e, c0, c1, c2, hr⟩ := h.cell i x hx
  exact ⟨a, q, rn, rc, e, hk.cell c0 (cell_ne hM c0), hk.cell c1 (cell_ne hM c1), hk.cell c2 (cell_ne hM c2), rdl_keepM hr hM hk⟩⟩
theorem blk_ne {b : Nat} {vs : List Value} {t : TypeId} (hB : Blk w b vs t) (hM : Mp w r f) : b ≠ r := by
  rintro rfl
  obtain ⟨es, clock, hb, _⟩ := hM
  unfold Blk at hB
  rw [hB] at hb
  cases hb
theorem blk_keepM {b : Nat} {vs : List Value} {t : TypeId} (hB : Blk w b vs t) (hM : Mp w r f) (hk : Keep (One r) w w') : Blk w' b vs t := hB.keep hk (blk_ne hB hM)
end
/-- what is covered -/
inductive Cov (es : List En) (cl : List Int) : Nat → Prop
  | mk {i : Nat} {x : En} (hx : es[i]? = some x) (hne : x.rs ≠ []) (h : ∀ o ∈ x.rs, o ≠ x.lit → ∀ (a : Nat) (y : En), es[a]? = some y → y.lit = neg o → 0 < y.lev → o ∉ cl → Cov es cl a) : Cov es cl i
/-- the closure's surroundings -/
structure Ev (w : World) (es : List En) (cl : List Int) (b0 b1 b2 b3 b4 r0 r1 r3 : Nat) (p : Option Addr) (n c : Nat) (fa fs : List (Int × Int)) : Prop where
  kn : Blk w b0 [.map (some r0)] 52
  tr : Blk w b1 [.slice p n c] 22
  at' : Blk w b2 [.map (some r1)] 52
  st : Blk w b3 [.map (some r3)] 52
  fn : Blk w b4 [.func (.func 44) #[] #[.pointer (some ⟨b0, 0, none⟩), .pointer (some ⟨b1, 0, none⟩), .pointer (some ⟨b2, 0, none⟩), .pointer (some ⟨b3, 0, none⟩), .pointer (some ⟨b4, 0, none⟩)]] 55
  rd : RdE w p n es
  am : Mp w r1 fa
  sm : Mp w r3 fs
  d1 : r1 ≠ r0
  d3 : r3 ≠ r0
  pm : Pm fa es
  sp : ∀ o, mget o fs = 0 ↔ o ∉ cl
section
variable {w w' : World} {es : List En} {cl : List Int} {b0 b1 b2 b3 b4 r0 r1 r3 : Nat} {p : Option Addr} {n c : Nat} {fa fs f : List (Int × Int)}
theorem Ev.keepM (h : Ev w es cl b0 b1 b2 b3 b4 r0 r1 r3 p n c fa fs) (hM : Mp w r0 f) (hk : Keep (One r0) w w') : Ev w' es cl b0 b1 b2 b3 b4 r0 r1 r3 p n c fa fs :=
  ⟨blk_keepM h.kn hM hk, blk_keepM h.tr hM hk, blk_keepM h.at' hM hk, blk_keepM h.st hM hk, blk_keepM h.fn hM hk, rde_keepM h.rd hM hk, h.am.keep hk h.d1, h.sm.keep hk h.d3, h.d1, h.d3, h.pm, h.sp⟩
theorem Ev.keep0 (h : Ev w es cl b0 b1 b2 b3 b4 r0 r1 r3 p n c fa fs) (hk : Keep None w w') : Ev w' es cl b0 b1 b2 b3 b4 r0 r1 r3 p n c fa fs :=
  ⟨h.kn.keep0 hk, h.tr.keep0 hk, h.at'.keep0 hk, h.st.keep0 hk, h.fn.keep0 hk, h.rd.keep0 hk, h.am.keep0 hk, h.sm.keep0 hk, h.d1, h.d3, h.pm, h.sp⟩
theorem lit_ne (hF : Fm es) {i j : Nat} {x y : En} (hx : es[i]? = some x) (hy : es[j]? = some y) (h : neg x.lit = neg y.lit) : i = j := by
  have f1 := (hF i x hx).1
  have f2 := (hF j y hy).1
  have e : x.lit = y.lit := by rw [← neg_neg f1, h, neg_neg f2]
  exact fm_uniq hF f1 hx hy (Or.inl rfl) (Or.inl e.symm)
theorem at_of (hF : Fm es) (hP : Pm fa es) {i : Nat} {x : En} (hx : es[i]? = some x) : mget (neg x.lit) fa = (i : Int) + 1 := by
  rcases hP (neg x.lit) with ⟨_, h⟩ | ⟨j, y, e, hy, hyl⟩
  · exact absurd rfl (h x (List.mem_of_getElem? hx))
  · rw [e, lit_ne hF hy hx hyl]
/-- what the memory of earlier answers holds up to place i -/
def Kv (es : List En) (cl : List Int) (f : List (Int × Int)) (i : Nat) : Prop := ∀ j y, j ≤ i → es[j]? = some y → mget (neg y.lit) f = 0 ∨ (mget (neg y.lit) f = 1 ∧ Cov es cl j) ∨ (mget (neg y.lit) f = 2 ∧ ¬ Cov es cl j)
def Fr (es : List En) (f f' : List (Int × Int)) (i : Nat) : Prop := ∀ k, (∀ j y, j ≤ i → es[j]? = some y → neg y.lit ≠ k) → mget k f' = mget k f
def Told (es : List En) (cl : List Int) (w : World) (r0 : Nat) (f : List (Int × Int)) (i : Nat) (v : Value) (w' : World) : Prop :=
  ∃ b f', v = .bool b ∧ (b = true ↔ Cov es cl i) ∧ Mp w' r0 f' ∧ Kv es cl f' i ∧ Fr es f f' i ∧ Keep (One r0) w w'
theorem covered44 (hF : Fm es) (hn : n ≤ 1048576) (hr : ∀ x ∈ es, x.rs.length ≤ 1048576) : ∀ (i : Nat) (x : En) (w : World) (f : List (Int × Int)), es[i]? = some x → Ev w es cl b0 b1 b2 b3 b4 r0 r1 r3 p n c fa fs → Mp w r0 f → Kv es cl f i →
    Calls Try.prog 44 #[I (neg x.lit), .pointer (some ⟨b0, 0, none⟩), .pointer (some ⟨b1, 0, none⟩), .pointer (some ⟨b2, 0, none⟩), .pointer (some ⟨b3, 0, none⟩), .pointer (some ⟨b4, 0, none⟩)] w fun e w' => ∃ v, e = .returned v ∧ Told es cl w r0 f i v w' := by
  intro i
  induction i using Nat.strongRecOn with
  | ind i ih =>
  intro x w f hx hE hM hK
  have hlen := hE.rd.len
  have hi := (List.getElem?_eq_some_iff.1 hx).1
  have hg := hF i x hx
  have hrx := hr x (List.mem_of_getElem? hx)
  refine V44_calls (neg x.lit) ⟨b0, 0, none⟩ ⟨b1, 0, none⟩ ⟨b2, 0, none⟩ ⟨b3, 0, none⟩ ⟨b4, 0, none⟩ w (Told es cl w r0 f i) ?_
  unfold V44
  refine ⟨fun _ w' => ∃ f', ((mget (neg x.lit) f' = 1 ∧ Cov es cl i) ∨ (mget (neg x.lit) f' = 2 ∧ ¬ Cov es cl i)) ∧ Mp w' r0 f' ∧ Kv es cl f' i ∧ Fr es f f' i ∧ Keep (One r0) w w', ?_, ?_⟩
  · refine ldM_of (hE.kn.cell 0) (lk_of u52 Try.underlying3 z3 hM (pif_of (fun h0 => ?_) fun h0 => ?_))
    · have h0 : mget (neg x.lit) f = 0 := by simpa using h0
      refine ldM_of (hE.kn.cell 0) (up_of u52 Try.underlying3 hM fun w3 hM3 k3 _ => ?_)
      have hE3 := hE.keepM hM k3
      refine ldC_of (hE3.tr.cell 0) (ldM_of (hE3.at'.cell 0) (lk_of u52 Try.underlying3 z3 hE3.am ?_))
      rw [at_of hF hE.pm hx]
      have ei : IntKind.wrap .i64 ((i : Int) + 1 - 1) = (i : Int) := by rw [IntKind.wrap_i64]; omega
      rw [ei]
      refine hE3.rd.ix hx fun ad ⟨q, rn, rc, c0, c1, c2, hq⟩ => ldI_of c0 (ldI_of c1 (ldC_of c2 ?_))
      have hql := hq.len
      refine alc_at fun b w4 hb hB k4 => ?_
      simp only [add_mk, Nat.add_zero, Nat.zero_add]
      refine st_of hB (by simp) rfl fun w5 hB5 k5 _ => ?_
      refine st_of hB5 (by simp) rfl fun w6 hB6 k6 _ => ?_
      refine st_of hB6 (by simp) rfl fun w7 hB7 k7 _ => ?_
      have k37 : Keep None w3 w7 := ((k4.then1 k5 (by omega)).then1 k6 (by omega)).then1 k7 (by omega)
      simp only [List.set_cons_zero, List.set_cons_succ] at hB7
      have hE7 := hE3.keep0 k37
      have hM7 := hM3.keep0 k37
      have hq7 := hq.keep0 k37
      have k07 : Keep (One r0) w w7 := k3.trans k37 fun j _ h => h.elim
      generalize hf3 : mput (neg x.lit) 1 f = f3 at *
      have hget3 : ∀ k, mget k f3 = if k = neg x.lit then 1 else mget k f := fun k => by rw [← hf3, mget_mput]
      have kv3 : ∀ j y, j < i → es[j]? = some y → mget (neg y.lit) f3 = 0 ∨ (mget (neg y.lit) f3 = 1 ∧ Cov es cl j) ∨ (mget (neg y.lit) f3 = 2 ∧ ¬ Cov es cl j) := fun j y hj hy => by
        rw [hget3, if_neg fun e => by have := lit_ne hF hy hx e; omega]
        exact hK j y (by omega) hy
      -- the answer is settled
      have fin : ∀ {w' : World} {f' : List (Int × Int)}, ((mget (neg x.lit) f' = 1 ∧ Cov es cl i) ∨ (mget (neg x.lit) f' = 2 ∧ ¬ Cov es cl i)) → Mp w' r0 f' → (∀ j y, j < i → es[j]? = some y → mget (neg y.lit) f' = 0 ∨ (mget (neg y.lit) f' = 1 ∧ Cov es cl j) ∨ (mget (neg y.lit) f' = 2 ∧ ¬ Cov es cl j)) →
          (∀ k, (∀ j y, j ≤ i → es[j]? = some y → neg y.lit ≠ k) → mget k f' = mget k f3) → Keep (One r0) w w' → ∃ f', ((mget (neg x.lit) f' = 1 ∧ Cov es cl i) ∨ (mget (neg x.lit) f' = 2 ∧ ¬ Cov es cl i)) ∧ Mp w' r0 f' ∧ Kv es cl f' i ∧ Fr es f f' i ∧ Keep (One r0) w w' := by
        intro w' f' h1 h2 h3 h4 h5
        refine ⟨f', h1, h2, fun j y hj hy => ?_, fun k hk => ?_, h5⟩
        · by_cases hji : j = i
          · subst hji
            rw [hx] at hy; injection hy with hy; subst hy
            exact Or.inr h1
          · exact h3 j y (by omega) hy
        · rw [h4 k hk, hget3, if_neg fun e => hk i x (Nat.le_refl _) hx e.symm]
      -- the keys of earlier entries are others
      have keyne : ∀ {j : Nat} {y : En}, j < i → es[j]? = some y → neg y.lit ≠ neg x.lit := fun hj hy e => by have := lit_ne hF hy hx e; omega
      -- l is told to stay
      have settle2 : ∀ {w' : World} {g : List (Int × Int)}, ¬ Cov es cl i → Mp w' r0 g → (∀ j y, j < i → es[j]? = some y → mget (neg y.lit) g = 0 ∨ (mget (neg y.lit) g = 1 ∧ Cov es cl j) ∨ (mget (neg y.lit) g = 2 ∧ ¬ Cov es cl j)) →
          (∀ k, (∀ j y, j ≤ i → es[j]? = some y → neg y.lit ≠ k) → mget k g = mget k f3) → Keep (One r0) w w' → ∀ w'', Mp w'' r0 (mput (neg x.lit) 2 g) → Keep (One r0) w' w'' → ∃ f', ((mget (neg x.lit) f' = 1 ∧ Cov es cl i) ∨ (mget (neg x.lit) f' = 2 ∧ ¬ Cov es cl i)) ∧ Mp w'' r0 f' ∧ Kv es cl f' i ∧ Fr es f f' i ∧ Keep (One r0) w w'' := by
        intro w' g hc hM' h3 h4 h5 w'' hM'' k''
        refine fin (Or.inr ⟨by rw [mget_mput, if_pos rfl], hc⟩) hM'' (fun j y hj hy => ?_) (fun k hk => ?_) (h5.trans k'' fun i _ h => h)
        · rw [mget_mput, if_neg (keyne hj hy)]; exact h3 j y hj hy
        · rw [mget_mput, if_neg fun e => hk i x (Nat.le_refl _) hx e.symm]; exact h4 k hk
      by_cases hnil : x.rs = []
      · -- no reason
        have hrn0 : rn = 0 := by rw [hnil] at hql; simpa using hql.symm
        have hcov : ¬ Cov es cl i := fun h => by
          cases h with
          | mk hx' hne _ => rw [hx] at hx'; injection hx' with hx'; subst hx'; exact hne hnil
        refine ⟨fun _ w' => Mp w' r0 (mput (neg x.lit) 2 f3) ∧ Keep (One r0) w7 w', ldC_of (hB7.cell 2) (pif_t (by simp [hrn0]) (ldM_of (hE7.kn.cell 0) (up_of u52 Try.underlying3 hM7 fun w8 hM8 k8 _ => ⟨hM8, k8⟩))), ?_⟩
        rintro ⟨⟩ w9 ⟨hM9, k9⟩
        have hB9 := blk_keepM hB7 hM7 k9
        refine ldC_of (hB9.cell 2) (lp_of (fun s w' => s.1 = 0 ∧ w' = w9) (fun s _ => 0) ⟨rfl, rfl⟩ ?_)
        rintro ⟨j', ⟨⟩⟩ w10 ⟨rfl, rfl⟩
        refine pif_f (by simp [hrn0]) (settle2 hcov hM7 (fun j y hj hy => ?_) (fun k _ => rfl) k07 _ hM9 k9)
        exact kv3 j y hj hy
      · have hR := hg.2.2.2 hnil
        have hrn0 : 0 < rn := by
          rw [← hql]; exact List.length_pos_iff.2 hnil
        refine ⟨fun _ w' => w' = w7, ldC_of (hB7.cell 2) (pif_f (by simp; omega) rfl), ?_⟩
        rintro ⟨⟩ w9 rfl
        refine ldC_of (hB7.cell 2) (lp_of (fun s w' => ∃ (j : Nat) (g : List (Int × Int)), s.1 = (j : Int) ∧ j ≤ rn ∧ Mp w' r0 g ∧ mget (neg x.lit) g = 1 ∧
          (∀ j y, j < i → es[j]? = some y → mget (neg y.lit) g = 0 ∨ (mget (neg y.lit) g = 1 ∧ Cov es cl j) ∨ (mget (neg y.lit) g = 2 ∧ ¬ Cov es cl j)) ∧ (∀ k, (∀ j y, j ≤ i → es[j]? = some y → neg y.lit ≠ k) → mget k g = mget k f3) ∧ Keep (One r0) w9 w' ∧
          (∀ o ∈ x.rs.take j, o ≠ x.lit → ∀ (a : Nat) (y : En), es[a]? = some y → y.lit = neg o → 0 < y.lev → o ∉ cl → Cov es cl a)) (fun s _ => (rn - s.1).toNat)
          ⟨0, f3, rfl, Nat.zero_le _, hM7, by rw [hget3, if_pos rfl], kv3, fun k _ => rfl, Keep.refl _ _, by simp⟩ ?_)
        rintro ⟨j', ⟨⟩⟩ w10 ⟨j, g, rfl, hj, hMg, hone, hkv, hfr, k10, hall⟩
        simp only []
        have k010 : Keep (One r0) w w10 := k07.trans k10 fun i _ h => h
        have hE10 := hE7.keepM hM7 k10
        refine pif_of (fun hlt => ?_) fun hge => ?_
        · have hlt : j < rn := by simpa using hlt
          rw [wrap_nat j (by omega)]
          refine (rdl_keepM hq7 hM7 k10).ix hlt fun ad o ho ha => ldI_of ha (ldI_of ((blk_keepM hB7 hM7 k10).cell 0) ?_)
          have nxt : (o ≠ x.lit → ∀ (a : Nat) (y : En), es[a]? = some y → y.lit = neg o → 0 < y.lev → o ∉ cl → Cov es cl a) → ∀ o ∈ x.rs.take (j + 1), o ≠ x.lit → ∀ (a : Nat) (y : En), es[a]? = some y → y.lit = neg o → 0 < y.lev → o ∉ cl → Cov es cl a := fun h o' ho' => by
            rw [take_snoc ho, List.mem_append, List.mem_singleton] at ho'
            rcases ho' with ho' | rfl
            · exact hall o' ho'
            · exact h
          by_cases hol : o = x.lit
          · have e0 : (o != x.lit) = false := by simp [hol]
            rw [e0]
            exact gd_f rfl (gd_f rfl (gd_f rfl (gd_f rfl (gd_f rfl (gd_f rfl (gd_f rfl (gd_f rfl (gd_f rfl (pif_f rfl ⟨⟨j + 1, g, rfl, hlt, hMg, hone, hkv, hfr, k10, nxt fun h => absurd hol h⟩, by omega⟩)))))))))
          · have e0 : (o != x.lit) = true := by simpa using hol
            rw [e0]
            have hom := List.mem_of_getElem? ho
            have hfo : fl o = true := List.all_eq_true.1 hR.1 o hom
            obtain ⟨y, hym, hyl⟩ := hR.2.2 o hom hol
            obtain ⟨a, hya⟩ := List.mem_iff_getElem?.1 hym
            have hai : a < i := by
              have := (List.getElem?_eq_some_iff.1 hya).1
              rw [List.length_take] at this; omega
            rw [List.getElem?_take, if_pos hai] at hya
            have hno : neg y.lit = o := by rw [hyl, neg_neg hfo]
            have uniq : ∀ (a' : Nat) (y' : En), es[a']? = some y' → y'.lit = neg o → a' = a ∧ y' = y := fun a' y' h1 h2 => by
              have : a' = a := fm_uniq hF hfo h1 hya (Or.inr h2) (Or.inr hyl)
              subst this
              rw [hya] at h1; injection h1 with h1
              exact ⟨rfl, h1.symm⟩
            have hat : mget o fa = (a : Int) + 1 := by rw [← hno]; exact at_of hF hE.pm hya
            have ea : IntKind.wrap .i64 ((a : Int) + 1 - 1) = (a : Int) := by rw [IntKind.wrap_i64]; omega
            refine gd_t rfl (ldC_of (hE10.tr.cell 0) (gd_t rfl (ldM_of (hE10.at'.cell 0) (gd_t rfl (lk_of u52 Try.underlying3 z3 hE10.am (gd_t rfl ?_))))))
            rw [hat, ea]
            refine hE10.rd.ix hya fun ad ⟨_, _, _, _, c1, _⟩ => gd_t rfl (ldI_of c1 ?_)
            by_cases hlev : 0 < y.lev
            · have e1 : (cond true (decide (y.lev > 0)) false) = true := by rw [decide_eq_true hlev]; rfl
              refine gd_t e1 (ldM_of (hE10.st.cell 0) (gd_t e1 (lk_of u52 Try.underlying3 z3 hE10.sm ?_)))
              by_cases hst : mget o fs = 0
              · have e2 : (cond (cond true (decide (y.lev > 0)) false) (mget o fs == 0) false) = true := by rw [e1, hst]; rfl
                have hncl := (hE.sp o).1 hst
                refine gd_t e2 (ldV_of (hE10.fn.cell 0) (gd_t e2 (clF_of ?_)))
                have hkva : Kv es cl g a := fun j' y' hj' hy' => hkv j' y' (by omega) hy'
                have go := ih a hai y w10 g hya hE10 hMg hkva
                rw [hno] at go
                refine cl_of ok44 go fun e w11 ⟨v, he, b', g', hv, hb', hMg', hK', hFr', k11⟩ => ⟨b', he.trans (congrArg Ending.returned hv), ?_⟩
                have k011 : Keep (One r0) w w11 := k010.trans k11 fun i _ h => h
                have k911 : Keep (One r0) w9 w11 := k10.trans k11 fun i _ h => h
                have hone' : mget (neg x.lit) g' = 1 := by
                  rw [hFr' (neg x.lit) fun j' y' hj' hy' => keyne (by omega) hy']; exact hone
                have hkv' : ∀ j y, j < i → es[j]? = some y → mget (neg y.lit) g' = 0 ∨ (mget (neg y.lit) g' = 1 ∧ Cov es cl j) ∨ (mget (neg y.lit) g' = 2 ∧ ¬ Cov es cl j) := fun j' y' hj' hy' => by
                  by_cases hle : j' ≤ a
                  · exact hK' j' y' hle hy'
                  · rw [hFr' (neg y'.lit) fun j2 y2 hj2 hy2 e => by have := lit_ne hF hy2 hy' e; omega]
                    exact hkv j' y' hj' hy'
                have hfr' : ∀ k, (∀ j y, j ≤ i → es[j]? = some y → neg y.lit ≠ k) → mget k g' = mget k f3 := fun k hk => by
                  rw [hFr' k fun j2 y2 hj2 hy2 => hk j2 y2 (by omega) hy2]; exact hfr k hk
                cases b' with
                | true =>
                  refine pif_f (by rw [e2]; rfl) ⟨⟨j + 1, g', rfl, hlt, hMg', hone', hkv', hfr', k911, nxt fun _ a' y' h1 h2 _ _ => ?_⟩, by omega⟩
                  rw [(uniq a' y' h1 h2).1]
                  exact hb'.1 rfl
                | false =>
                  have hcov : ¬ Cov es cl i := fun h => by
                    cases h with
                    | mk hx' hne h =>
                      rw [hx] at hx'; injection hx' with hx'; subst hx'
                      have := hb'.2 (h o hom hol a y hya hyl hlev hncl)
                      cases this
                  have hE11 := hE10.keepM hMg k11
                  exact pif_t (by rw [e2]; rfl) (ldM_of (hE11.kn.cell 0) (up_of u52 Try.underlying3 hMg' fun w12 hM12 k12 _ => settle2 hcov hMg' hkv' hfr' k011 w12 hM12 k12))
              · have e2 : (cond (cond true (decide (y.lev > 0)) false) (mget o fs == 0) false) = false := by rw [e1]; simpa using hst
                refine gd_f e2 (gd_f e2 (pif_f (by rw [e2]; rfl) ⟨⟨j + 1, g, rfl, hlt, hMg, hone, hkv, hfr, k10, nxt fun _ a' y' h1 h2 _ h4 => absurd ((hE.sp o).2 h4) hst⟩, by omega⟩))
            · have e1 : (cond true (decide (y.lev > 0)) false) = false := by rw [decide_eq_false hlev]; rfl
              have e2 : ∀ z : Bool, (cond (cond true (decide (y.lev > 0)) false) z false) = false := fun z => by rw [e1]; rfl
              refine gd_f e1 (gd_f e1 (gd_f (e2 _) (gd_f (e2 _) (pif_f (by rw [e2]; rfl) ⟨⟨j + 1, g, rfl, hlt, hMg, hone, hkv, hfr, k10, nxt fun _ a' y' h1 h2 h3 _ => ?_⟩, by omega⟩))))
              rw [(uniq a' y' h1 h2).2] at h3
              exact absurd h3 hlev
        · have hge : j = rn := by simp at hge; omega
          subst hge
          rw [← hql, List.take_length] at hall
          exact fin (Or.inl ⟨hone, Cov.mk hx hnil hall⟩) hMg hkv hfr k010
    · have h0 : ¬ mget (neg x.lit) f = 0 := by simpa using h0
      exact ⟨f, (hK i x (Nat.le_refl _) hx).resolve_left h0, hM, hK, fun k _ => rfl, Keep.refl _ _⟩
  · rintro ⟨⟩ w1 ⟨f', hd, hM', hK', hFr, k1⟩
    have hE1 := hE.keepM hM k1
    refine ldM_of (hE1.kn.cell 0) (lk_of u52 Try.underlying3 z3 hM' ⟨_, f', rfl, ?_, hM', hK', hFr, k1⟩)
    rcases hd with ⟨e, hc⟩ | ⟨e, hc⟩
    · rw [e]; exact ⟨fun _ => hc, fun _ => rfl⟩
    · rw [e]; exact ⟨fun h => absurd h (by decide), fun h => absurd h hc⟩
end
end Go.Proofs.Ytlbpllpomdjooaa.Learn
