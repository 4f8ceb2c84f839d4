/- An Engine in memory: slices cloned; the trail as entries. -/
import Derived.Test.YtmhjehodfggleaaMLearnB
import Derived.Test.YtmhjehodfggleaaMLearnL
import Derived.Test.YtmhjehodfggleaaMCopy
import Derived.Test.YtmhjehodfggleaaMVcL
set_option linter.unusedVariables false
set_option linter.unusedSimpArgs false
set_option linter.unusedSectionVars false
set_option maxRecDepth 100000
namespace Go.Proofs.Ytmhjehodfggleaa.Eng
open Go Go.Proofs.Ytmhjehodfggleaa.Vc Go.Proofs.Ytmhjehodfggleaa.T
open Go.Proofs.Ytmhjehodfggleaa.Apart (RdL own_rdl wrap_nat getE own_len take_snoc Sl sv New)
open Go.Proofs.Ytmhjehodfggleaa.Lits (fl fl_iff Ans ans_of formedP idx idx_range idx_inj indexP)
open Go.Proofs.Ytmhjehodfggleaa.Arn (Ar AR words off cw Got)
open Go.Proofs.Ytmhjehodfggleaa.Trail (TI Tr St valA levA reaA ownB Moved TLaid above upto freeA implA Open ent)
open Go.Proofs.Ytmhjehodfggleaa.Learn (En RdE)

theorem rdl_news {w : World} {a : Addr} {n c : Nat} {cs : List Int} (h : RdL w (some a) n cs) : News w 1 (some a) n c (cs.map I) :=
  Or.inr ⟨a, rfl, by rw [List.length_map, h.len, Nat.mul_one], fun j u hu => by
    rw [List.getElem?_map] at hu
    cases hx : cs[j]? with
    | none => rw [hx] at hu; cases hu
    | some x =>
      rw [hx] at hu; injection hu with hu; subst hu
      obtain ⟨a', ha, hc⟩ := h.cell j x hx
      injection ha with ha; subst ha; exact hc⟩
theorem rdl_none {w : World} {n : Nat} {cs : List Int} (h : RdL w none n cs) : cs = [] ∧ n = 0 := by
  have := h.len
  cases cs with
  | nil => exact ⟨rfl, by simpa using this.symm⟩
  | cons x xs => obtain ⟨a, ha, _⟩ := h.cell 0 x rfl; cases ha
theorem clone40 {w : World} {p : Option Addr} {n c : Nat} {cs : List Int} (hR : RdL w p n cs) (hn : n ≤ 8796093022208) :
    Calls Try.prog 40 #[.slice p n c] w fun e w' => ∃ v, e = .returned v ∧ New w cs v w' := by
  refine V40_calls p n c w (New w cs) ?_
  unfold V40
  cases p with
  | none =>
    obtain ⟨rfl, rfl⟩ := rdl_none hR
    exact pif_t rfl ⟨none, 0, rfl, Own.nil _ _ _, (fun i ⟨a, hh, _⟩ => by cases hh), Keep.refl _ _⟩
  | some a =>
    have hl := hR.len
    refine pif_f rfl (alc_at fun b w1 hb hB k1 => ?_)
    have z1 := k1.size
    have hE : Own w1 3 1 (some ⟨b, 0, none⟩) 0 0 [] := Or.inr ⟨b, [], rfl, hB, Nat.le_refl _, Nat.zero_le _, rfl, rfl⟩
    refine app_of2 (e := 3) (sz := 1) (z := I 0) (B := 8) Try.underlying26 (by kernel_rfl) rfl (by omega) hE (rdl_news (c := c) (hR.keep k1 fun _ _ h => h)) (fun u hu => ?_) (by simp only [maxLen]; omega) (by omega) fun p' c' w' hO' hd => ?_
    · obtain ⟨y, _, rfl⟩ := List.mem_map.1 hu; rfl
    · rw [List.nil_append, Nat.zero_add] at hO'
      rw [Nat.zero_add]
      refine ⟨p', c', by rw [hl], by rw [hl]; exact hO', ?_, ?_⟩
      · rcases hd with ⟨e1, _, _, _⟩ | ⟨e1, _⟩
        · rintro i ⟨a, ha, rfl⟩; rw [e1] at ha; cases ha; show _ ≤ b; omega
        · intro i hi; have := e1 i hi; omega
      · rcases hd with ⟨_, _, _, k⟩ | ⟨_, k⟩
        · exact k1.trans k fun i hi ⟨a, ha, hb'⟩ => by cases ha; have hb2 : b = i := hb'; omega
        · exact k1.then0 k
/-- the clause that stands at a place -/
def arFind : List (List Int) → Int → List Int
  | [], _ => []
  | c :: cs, r => if r = 0 then c else arFind cs (r - (c.length + 1))
theorem off_cons (c : List Int) (cs : List (List Int)) (k : Nat) : off (c :: cs) (k + 1) = c.length + 1 + off cs k := by
  unfold off words
  rw [List.take_succ_cons, List.flatMap_cons, List.length_append]
  simp [cw]
theorem arFind_off : ∀ (cs : List (List Int)) (k : Nat) (c : List Int), cs[k]? = some c → arFind cs (off cs k) = c
  | [], k, c, h => by simp at h
  | c0 :: cs, 0, c, h => by
    have : c0 = c := by simpa using h
    subst this
    unfold arFind
    rw [if_pos (by simp [off, words])]
  | c0 :: cs, k + 1, c, h => by
    unfold arFind
    rw [off_cons, if_neg (by omega)]
    have : (((c0.length + 1 + off cs k : Nat) : Int) - ((c0.length : Int) + 1)) = (off cs k : Nat) := by omega
    rw [this]
    exact arFind_off cs k c (by simpa using h)
def arGet (A : Ar) (r : Int) : List Int := if r ∈ A.live then arFind A.cs r else []
theorem got_get {w w' : World} {A : Ar} {r : Int} {v : Value} (h : Got w A r v w') : ∃ p c ok, v = .tuple #[.slice p (arGet A r).length c, .bool ok] ∧ Own w' 3 1 p (arGet A r).length c ((arGet A r).map I) ∧ (∀ i, ob p i → w.heap.size ≤ i) ∧ Keep None w w' := by
  rcases h with ⟨h1, rfl, hk⟩ | ⟨k, c, p, cc, h1, h2, h3, rfl, hO, hp, hk⟩
  · have : arGet A r = [] := by unfold arGet; rw [if_neg h1]
    rw [this]
    exact ⟨none, 0, false, rfl, Own.nil _ _ _, (fun i ⟨a, hh, _⟩ => by cases hh), hk⟩
  · have : arGet A r = c := by unfold arGet; rw [if_pos h1, h2]; exact arFind_off _ _ _ h3
    rw [this]
    exact ⟨p, cc, true, rfl, hO, hp, hk⟩
/-- an entry of the trail, as it is told -/
def entE (S : ES) (e : E) : En := ⟨e.lit, e.lv, if 0 ≤ e.rs then arGet S.ar e.rs else []⟩
def entS (S : ES) : List En := S.R.map (entE S)
theorem ent_mem {n : Nat} {R : List E} {L : List Int} (h : St n R L) {e : E} (he : e ∈ R) : ent R e.lit.natAbs = some e := by
  unfold ent
  cases hf : R.find? (fun x => x.lit.natAbs == e.lit.natAbs) with
  | none => rw [List.find?_eq_none] at hf; exact absurd (by simp) (hf e he)
  | some x =>
    have h1 := List.mem_of_find?_eq_some hf
    have h2 := List.find?_some hf
    simp only [beq_iff_eq] at h2
    have hn := h.nodup
    obtain ⟨i, hi, rfl⟩ := List.getElem_of_mem he
    obtain ⟨j, hj, rfl⟩ := List.getElem_of_mem h1
    rw [List.nodup_iff_pairwise_ne, List.pairwise_iff_getElem] at hn
    rcases Nat.lt_trichotomy i j with hij | rfl | hij
    · have := hn i j (by simpa using hi) (by simpa using hj) hij
      simp only [List.getElem_map] at this
      exact absurd h2.symm this
    · rfl
    · have := hn j i (by simpa using hj) (by simpa using hi) hij
      simp only [List.getElem_map] at this
      exact absurd h2 this
theorem lev_ent {n : Nat} {R : List E} {L : List Int} (h : St n R L) {e : E} (he : e ∈ R) : levA n R (e.lit.natAbs : Int) = e.lv ∧ reaA n R (e.lit.natAbs : Int) = e.rs := by
  have ho := own_wi (h.own e he)
  have hob : ownB n (e.lit.natAbs : Int) = true := wi_own ⟨by have := ho.1; omega, by omega, by have := ho.2.1; have := ho.2.2; omega⟩
  have h1 : (decide (1 ≤ (e.lit.natAbs : Int)) && ownB n (e.lit.natAbs : Int)) = true := by
    rw [hob, decide_eq_true (by have := ho.1; omega)]; rfl
  unfold levA reaA
  rw [if_pos h1, Int.natAbs_natCast, ent_mem h he]
  exact ⟨rfl, by rw [if_pos h1]⟩
section
variable {ex : Nat → Prop} {w : World} {b : Nat} {o : Nat → Int} {h : Hs} {S : ES}
theorem entry68 (hR : Rp ex w b o h S) {e : E} (he : e ∈ S.R) (hw : (words S.ar.cs).length ≤ 17592186044416) :
    Calls Try.prog 68 #[Pt b, I e.lit, .func (.func 42) #[Pt h.st] #[]] w fun ee w' => ∃ p n c, ee = .returned (.agg #[I e.lit, I e.lv, .slice p n c]) ∧ RdL w' p n (entE S e).rs ∧ (∀ i, ob p i → w.heap.size ≤ i ∧ i < w'.heap.size) ∧ Keep None w w' := by
  refine (V68_calls (some ⟨b, 0, none⟩) e.lit (.func (.func 42) #[Pt h.st] #[]) w (fun v w' => ∃ p n c, v = .agg #[I e.lit, I e.lv, .slice p n c] ∧ RdL w' p n (entE S e).rs ∧ (∀ i, ob p i → w.heap.size ≤ i ∧ i < w'.heap.size) ∧ Keep None w w') ?_).mono fun ee w' ⟨v, hee, p, n, c, hv, hk⟩ => ⟨p, n, c, by rw [hee, hv], hk⟩
  unfold V68
  have hnv := hR.nv
  have hst := hR.tr.st
  have hwi := own_wi (hst.own e he)
  obtain ⟨el, er⟩ := lev_ent hst he
  refine alc_at fun b2 w1 hb2 hB2 k1 => ?_
  have z1 := k1.size
  refine cl_of ok30 (Trail.var52 e.lit w1 (by have := hwi.2.1; omega)) fun ee w2 ⟨hee, hw2⟩ => ⟨_, hee, ?_⟩
  subst hw2
  have ev : (if 1 ≤ e.lit.natAbs ∧ e.lit.natAbs ≤ 1048576 then (e.lit.natAbs : Int) else 0) = e.lit.natAbs := if_pos ⟨by have := hwi.1; omega, by have := hwi.2.1; have := hwi.2.2; omega⟩
  rw [ev]
  have hR2 := hR.keep0 k1
  refine hR2.trAt (cl_of ok67 (hR2.tr.levelOf _ (by omega)) fun ee w3 ⟨hee, k3⟩ => ⟨_, hee, ?_⟩)
  rw [el]
  have hB2' := hB2.keep0 k3
  have k13 := k1.then0 k3
  have z3 := k3.size
  refine alc_at fun b11 w4 hb11 hB11 k4 => ?_
  have k14 := k13.then0 k4
  have hbb : b2 < w3.heap.size := hB2'.lt
  have hB2'' := hB2'.keep0 k4
  have z4 := k4.size
  have big : ∀ {W W' : World}, Keep None w W → Keep (One b11) W W' → Keep None w W' := fun hk hk' => hk.trans hk' fun i hi hh => by have : i = b11 := hh; omega
  rw [add_mk, add_mk, add_mk]
  refine st_of hB11 (by simp) rfl fun w5 hB5 k5 z5 => ?_
  refine st_of hB5 (by simp) rfl fun w6 hB6 k6 z6 => ?_
  refine st_of hB6 (by simp) rfl fun w7 hB7 k7 z7 => ?_
  have k47 : Keep (One b11) w4 w7 := (k5.trans k6 fun _ _ h => h).trans k7 fun _ _ h => h
  have k17 := big k14 k47
  have hR7 := hR.keep0 k17
  have hB27 : Blk w7 b2 _ 120 := hB2''.keep k47 fun hh => by have : b2 = b11 := hh; omega
  refine ⟨fun _ W => ∃ p n c, Blk W b11 [I e.lit, I e.lv, .slice p n c] 120 ∧ Blk W b2 [I 0, I 0, .slice none 0 0] 120 ∧ RdL W p n (entE S e).rs ∧ (∀ i, ob p i → w.heap.size ≤ i ∧ i ≠ b2 ∧ i ≠ b11 ∧ i < W.heap.size) ∧ Keep None w W, ?_, ?_⟩
  · refine hR7.trAt (cl_of ok86 (hR7.tr.reason _ (by omega)) fun ee w9 ⟨hee, k9⟩ => ⟨_, hee, ?_⟩)
    rw [er]
    have k19 := k17.then0 k9
    by_cases hr : 0 ≤ e.rs
    · have ee1 : (entE S e).rs = arGet S.ar e.rs := by unfold entE; rw [if_pos hr]
      rw [ee1]
      refine pif_t (decide_eq_true hr) (Learn.clF_of ?_)
      have hR9 := hR.keep0 k19
      refine cl_of ok42 (Arn.get42 hR9.ar hw e.rs) fun ee w10 ⟨v, hee, hgot⟩ => ?_
      obtain ⟨p, c, ok, rfl, hO, hp, k10⟩ := got_get hgot
      refine ⟨p, _, c, ok, hee, ?_⟩
      rw [add_mk]
      have hB11x := (hB7.keep0 k9).keep0 k10
      refine st_of hB11x (by simp) rfl fun w11 hB11' k11 z11 => ?_
      have z7' := k47.size
      have z9 := k9.size
      have pne : ∀ i, ob p i → w.heap.size ≤ i ∧ i ≠ b2 ∧ i ≠ b11 ∧ i < w11.heap.size := fun i hi => by
        have h1 := hp i hi
        have h2 := k19.size
        have h3 := hB7.lt
        have h4 := hO.lt i hi
        exact ⟨by omega, by omega, by omega, by omega⟩
      refine ⟨p, _, c, hB11', ((hB27.keep0 k9).keep0 k10).keep k11 fun hh => by have : b2 = b11 := hh; omega, ?_, pne, big (k19.then0 k10) k11⟩
      have := own_rdl hO
      exact this.keep k11 fun i hi hh => (pne i hi).2.2.1 hh
    · have ee1 : (entE S e).rs = [] := by unfold entE; rw [if_neg hr]
      rw [ee1]
      exact pif_f (decide_eq_false hr) ⟨none, 0, 0, hB7.keep0 k9, hB27.keep0 k9, ⟨rfl, fun i x hx => by simp at hx⟩, (fun i ⟨a, hh, _⟩ => by cases hh), k19⟩
  rintro ⟨⟩ w8 ⟨p, n, c, hB11', hB2x, hRd, hp, k8⟩
  dsimp only
  refine ldI_of (hB11'.cell 0) (ldI_of (hB11'.cell 1) (ldC_of (hB11'.cell 2) ?_))
  refine st_of hB2x (by simp) rfl fun w12 hB12 k12 z12 => ?_
  refine st_of hB12 (by simp) rfl fun w13 hB13 k13' z13 => ?_
  refine st_of hB13 (by simp) rfl fun w14 hB14 k14' z14 => ?_
  refine ldI_of (hB14.cell 0) (ldI_of (hB14.cell 1) (ldC_of (hB14.cell 2) ?_))
  have kk : Keep (One b2) w8 w14 := (k12.trans k13' fun _ _ h => h).trans k14' fun _ _ h => h
  refine ⟨p, n, c, rfl, hRd.keep kk fun i hi hh => (hp i hi).2.1 hh, fun i hi => ⟨(hp i hi).1, by have := (hp i hi).2.2.2; have := kk.size; omega⟩, k8.trans kk fun i hi hh => by have : i = b2 := hh; omega⟩
end
def entC (x : En × Sl) : List Value := [I x.1.lit, I x.1.lev, sv x.2]
/-- entries that lie in memory of their own -/
theorem rdE_of {w : World} {p : Option Addr} {n c : Nat} {xs : List (En × Sl)} (hO : Own w 120 3 p n c (xs.flatMap entC)) (hr : ∀ x ∈ xs, RdL w x.2.1 x.2.2.1 x.1.rs) : RdE w p n (xs.map fun x => x.1) := by
  have hl := hO.len
  have hfl : ∀ (xs : List (En × Sl)), (xs.flatMap entC).length = xs.length * 3 := fun xs => by
    induction xs with
    | nil => rfl
    | cons x xs ih => rw [List.flatMap_cons, List.length_append, ih, List.length_cons]; simp [entC]; omega
  rw [hfl] at hl
  refine ⟨by rw [List.length_map]; omega, fun i y hy => ?_⟩
  rw [List.getElem?_map] at hy
  cases hx : xs[i]? with
  | none => rw [hx] at hy; cases hy
  | some x =>
    rw [hx] at hy; injection hy with hy; subst hy
    have hi := (List.getElem?_eq_some_iff.1 hx).1
    have hat : ∀ (xs : List (En × Sl)) (i : Nat) (x : En × Sl) (k : Nat), xs[i]? = some x → k < 3 → (xs.flatMap entC)[i * 3 + k]? = (entC x)[k]? := fun xs => by
      induction xs with
      | nil => intro i x k h; simp at h
      | cons y ys ih =>
        intro i x k h hk
        rw [List.flatMap_cons]
        cases i with
        | zero =>
          have : y = x := by simpa using h
          subst this
          rw [Nat.zero_mul, Nat.zero_add, List.getElem?_append_left (by simp [entC]; omega)]
        | succ i =>
          have h' : ys[i]? = some x := by simpa using h
          have e3 : (entC y).length = 3 := rfl
          rw [List.getElem?_append_right (by rw [e3]; omega), e3, ← ih i x k h' hk]
          congr 1; omega
    have h3 := hr x (List.mem_of_getElem? hx)
    rcases hO with ⟨_, hn, _, _⟩ | ⟨bb, cs, hpb, hB, h1, h2, h4, h5⟩
    · omega
    · have hO : Own w 120 3 (some ⟨bb, 0, none⟩) n c (xs.flatMap entC) := Or.inr ⟨bb, cs, rfl, hB, h1, h2, h4, h5⟩
      have cell : ∀ k v, k < 3 → (entC x)[k]? = some v → w.cell? (((⟨bb, 0, none⟩ : Addr).add (i * 3)).add k) = some v := fun k v hk hv => by
        rw [add_mk, add_mk, Nat.zero_add, hO.cell _ (by omega), hat xs i x k hx hk, hv]
      exact ⟨⟨bb, 0, none⟩, x.2.1, x.2.2.1, x.2.2.2, hpb, cell 0 _ (by omega) rfl, cell 1 _ (by omega) rfl, cell 2 _ (by omega) rfl, h3⟩
theorem entries41 {ex : Nat → Prop} {w : World} {b : Nat} {o : Nat → Int} {h : Hs} {S : ES} (hR : Rp ex w b o h S) (hw : (words S.ar.cs).length ≤ 17592186044416) :
    Calls Try.prog 41 #[Pt b] w fun e w' => ∃ p c, e = .returned (.slice p (entS S).length c) ∧ RdE w' p (entS S).length (entS S) ∧ (∀ i, ob p i → w.heap.size ≤ i) ∧ Keep None w w' := by
  refine (V41_calls (some ⟨b, 0, none⟩) w (fun v w' => ∃ p c, v = .slice p (entS S).length c ∧ RdE w' p (entS S).length (entS S) ∧ (∀ i, ob p i → w.heap.size ≤ i) ∧ Keep None w w') ?_).mono fun e w' ⟨v, he, p, c, hv, hk⟩ => ⟨p, c, by rw [he, hv], hk⟩
  unfold V41
  have hool := own_len hR.oo
  rw [List.length_map] at hool
  have hsm := hR.tr.small
  refine nn_of (ldC_of (x := h.oo.1) (n := h.oo.2.1) (c := h.oo.2.2) (by rw [add_mk]; exact hR.self.cell 3) ?_)
  refine lp_of (fun s W => ∃ (i : Nat) (xs : List (En × Sl)), s.2.1 = (i : Int) ∧ i ≤ S.R.length ∧ (xs.map fun x => x.1) = (S.R.take i).map (entE S) ∧ Own W 120 3 s.1.1 s.1.2.1 s.1.2.2 (xs.flatMap entC) ∧ (∀ j, ob s.1.1 j → w.heap.size ≤ j) ∧ (∀ x ∈ xs, RdL W x.2.1 x.2.2.1 x.1.rs ∧ ∀ j, ob x.2.1 j → w.heap.size ≤ j ∧ j < W.heap.size ∧ ¬ ob s.1.1 j) ∧ Keep None w W) (fun s _ => (S.R.length - s.2.1).toNat)
    ⟨0, [], rfl, Nat.zero_le _, rfl, Own.nil _ _ _, (fun j ⟨a, hh, _⟩ => by cases hh), (fun x hx => by cases hx), Keep.refl _ _⟩ ?_
  rintro ⟨⟨sp, sn, sc⟩, i', ⟨⟩⟩ W ⟨i, xs, rfl, hi, hxs, hO, hnew, hrs, kW⟩
  dsimp only at hO hnew hrs ⊢
  have hfl : ∀ (xs : List (En × Sl)), (xs.flatMap entC).length = xs.length * 3 := fun xs => by
    induction xs with
    | nil => rfl
    | cons x xs ih => rw [List.flatMap_cons, List.length_append, ih, List.length_cons]; simp [entC]; omega
  have hxl : xs.length = i := by
    have := congrArg List.length hxs
    simp only [List.length_map, List.length_take] at this; omega
  have hsn : sn = i := by have := hO.len; rw [hfl] at this; omega
  refine pif_of (fun hlt => ?_) fun hge => ?_
  · have hlt : i < S.R.length := by have : (i : Int) < (h.oo.2.1 : Int) := by simpa using hlt
                                    omega
    rw [wrap_nat i (by omega)]
    obtain ⟨e, he⟩ := getE hlt
    have hRW := hR.keep0 kW
    have hoo := hRW.oo
    refine hRW.oo.ix (by omega) (by omega) fun bq hbq => ?_
    rw [hbq] at hoo
    refine ldI_of (x := e.lit) (by rw [hoo.cell _ (by omega), Int.toNat_natCast, Nat.mul_one, List.getElem?_map, List.getElem?_map, he]; rfl) (nn_of (ldP_of (x := some ⟨h.st, 0, none⟩) (by rw [add_mk]; exact hRW.self.cell 1) ?_))
    refine cl_of ok68 (entry68 hRW (List.mem_of_getElem? he) hw) fun ee w2 ⟨p, n, c, hee, hRd, hp, k2⟩ => ⟨_, _, p, n, c, hee, ?_⟩
    refine alc_at fun b21 w3 hb21 hB21 k3 => ?_
    have k23 := k2.then0 k3
    have z2 := k2.size
    have z3 := k3.size
    have zW := kW.size
    have hN : News w3 3 (some ⟨b21, 0, none⟩) 1 1 (entC (entE S e, (p, n, c))) := Or.inr ⟨_, rfl, rfl, fun j u hu => by
      rw [add_mk, Nat.zero_add, hB21.cell]; exact hu⟩
    refine app_of2 (e := 120) (sz := 3) (z := .agg #[I 0, I 0, .slice none 0 0]) (B := 40) Try.underlying83 (by kernel_rfl) rfl (by omega) (hO.keep0 k23) hN (fun u hu => ?_) (by simp only [maxLen]; omega) (by omega) fun p' c' w4 hO4 hd4 => ?_
    · simp only [entC, List.mem_cons, List.mem_singleton, List.not_mem_nil, or_false] at hu
      rcases hu with rfl | rfl | rfl <;> rfl
    have kk : Keep (ob sp) w3 w4 := by
      rcases hd4 with ⟨_, _, _, kk⟩ | ⟨_, kk⟩
      · exact kk
      · exact kk.none
    have hp' : ∀ j, ob p' j → ob sp j ∨ w3.heap.size ≤ j := fun j hj => by
      rcases hd4 with ⟨e, _, _, _⟩ | ⟨e, _⟩
      · rw [e] at hj; exact Or.inl hj
      · exact Or.inr (e j hj)
    have zk := kk.size
    refine ⟨⟨i + 1, xs ++ [(entE S e, (p, n, c))], rfl, hlt, ?_, ?_, ?_, ?_, ?_⟩, by omega⟩
    · rw [List.map_append, hxs, take_snocN he, List.map_append]; rfl
    · rw [List.flatMap_append, List.flatMap_singleton]; exact hO4
    · intro j hj
      rcases hp' j hj with h1 | h1
      · exact hnew j h1
      · omega
    · intro x hx
      rcases List.mem_append.1 hx with hx | hx
      · obtain ⟨g1, g2⟩ := hrs x hx
        refine ⟨(g1.keep k23 fun _ _ h => h).keep kk fun j hj => (g2 j hj).2.2, fun j hj => ⟨(g2 j hj).1, by have := (g2 j hj).2.1; omega, fun hh => ?_⟩⟩
        rcases hp' j hh with h1 | h1
        · exact (g2 j hj).2.2 h1
        · have := (g2 j hj).2.1; omega
      · simp only [List.mem_singleton] at hx
        subst hx
        have hlt2 : ∀ j, ob p j → W.heap.size ≤ j ∧ j < w2.heap.size ∧ ¬ ob sp j := fun j hj => ⟨(hp j hj).1, (hp j hj).2, fun hh => ?_⟩
        · refine ⟨(hRd.keep k3 fun _ _ h => h).keep kk fun j hj => (hlt2 j hj).2.2, fun j hj => ⟨by have := (hlt2 j hj).1; omega, by have := (hlt2 j hj).2.1; omega, fun hh => ?_⟩⟩
          rcases hp' j hh with h1 | h1
          · exact (hlt2 j hj).2.2 h1
          · have := (hlt2 j hj).2.1; omega
        · have := hO.lt j hh; have := (hp j hj).1; omega
    · exact (kW.then0 k23).trans kk fun j hj hh => by have := hnew j hh; omega
  · have hge : i = S.R.length := by have : ¬ (i : Int) < (h.oo.2.1 : Int) := by simpa using hge
                                    omega
    subst hge
    rw [List.take_length] at hxs
    have e1 : (xs.map fun x => x.1) = entS S := hxs
    have := rdE_of hO fun x hx => (hrs x hx).1
    rw [e1, hsn] at this
    have el : (entS S).length = S.R.length := by unfold entS; rw [List.length_map]
    exact ⟨sp, sc, by rw [hsn, el], by rw [el]; exact this, hnew, kW⟩
end Go.Proofs.Ytmhjehodfggleaa.Eng

/- Lists of lists of ints that grow, in memory of a thing's own. -/
set_option linter.unusedVariables false
set_option linter.unusedSimpArgs false
set_option linter.unusedSectionVars false
set_option maxRecDepth 100000
namespace Go.Proofs.Ytmhjehodfggleaa.Apart
open Go Go.Proofs.Ytmhjehodfggleaa.Vc Go.Proofs.Ytmhjehodfggleaa.T

/-- a list of lists, in blocks of M, the lists' own blocks apart from the outer one -/
structure LL (M : Nat → Prop) (w : World) (p : Option Addr) (n c : Nat) (hs : List Sl) (css : List (List Int)) : Prop where
  own : Own w 26 1 p n c (hs.map sv)
  out : ∀ i, ob p i → M i
  len : css.length = n
  inn : ∀ (i : Nat) (x : Sl) (es : List Int), hs[i]? = some x → css[i]? = some es → Own w 3 1 x.1 x.2.1 x.2.2 (es.map J) ∧ ∀ j, ob x.1 j → M j ∧ ¬ ob p j
section
variable {M M' : Nat → Prop} {w w' : World} {p : Option Addr} {n c : Nat} {hs : List Sl} {css : List (List Int)}
theorem LL.hl (h : LL M w p n c hs css) : hs.length = n := by have := h.own.len; simpa using this
theorem LL.nil (M : Nat → Prop) (w : World) : LL M w none 0 0 [] [] := ⟨Own.nil _ _ _, fun i ⟨a, h, _⟩ => (by cases h), rfl, fun i x es h => by simp at h⟩
theorem LL.keep {U : Nat → Prop} (h : LL M w p n c hs css) (hk : Keep U w w') (hu : ∀ i, M i → ¬ U i) : LL M w' p n c hs css :=
  ⟨h.own.keep hk fun i hi => hu i (h.out i hi), h.out, h.len, fun i x es h1 h2 => by
    obtain ⟨h3, h4⟩ := h.inn i x es h1 h2
    exact ⟨h3.keep hk fun j hj => hu j (h4 j hj).1, h4⟩⟩
theorem LL.keep0 (h : LL M w p n c hs css) (hk : Keep None w w') : LL M w' p n c hs css := h.keep hk fun _ _ h => h
theorem LL.mono (h : LL M w p n c hs css) (hm : ∀ i, i < w.heap.size → M i → M' i) : LL M' w p n c hs css :=
  ⟨h.own, fun i hi => hm i (h.own.lt i hi) (h.out i hi), h.len, fun i x es h1 h2 => by
    obtain ⟨h3, h4⟩ := h.inn i x es h1 h2
    exact ⟨h3, fun j hj => ⟨hm j (h3.lt j hj) (h4 j hj).1, (h4 j hj).2⟩⟩⟩
/-- the i-th list -/
theorem LL.ix (h : LL M w p n c hs css) {i : Nat} (hi : i < n) {K : Addr → Prop} (hK : ∀ (a : Addr) (x : Sl) (es : List Int), hs[i]? = some x → css[i]? = some es → w.cell? a = some (sv x) → Own w 3 1 x.1 x.2.1 x.2.2 (es.map J) → (∀ j, ob x.1 j → M j ∧ ¬ ob p j) → K a) : ixA p n (i : Int) 1 K := by
  have hl := h.hl
  obtain ⟨x, hx⟩ := getE (show i < hs.length by omega)
  obtain ⟨es, hes⟩ := getE (show i < css.length by have := h.len; omega)
  refine h.own.ix (by omega) (by omega) fun b hb => ?_
  rw [Int.toNat_natCast, Nat.mul_one]
  obtain ⟨h3, h4⟩ := h.inn i x es hx hes
  refine hK _ x es hx hes ?_ h3 h4
  have hO := h.own
  rw [hb] at hO
  rw [hO.cell _ (by omega), List.getElem?_map, hx]; rfl
/-- one list more, put to its end -/
theorem LL.app (h : LL M w p n c hs css) {x : Sl} {es : List Int} (hx : Own w 3 1 x.1 x.2.1 x.2.2 (es.map J)) (hM : ∀ j, ob x.1 j → M' j ∧ ¬ M j) (hMM : ∀ i, M i → M' i) (hn : n + 1 ≤ 8796093022208)
    {b : Nat} (hB : Blk w b [sv x] 26) {K : Option Addr → Nat → Nat → World → Prop}
    (hK : ∀ p' c' w', LL (fun i => i < w'.heap.size ∧ (M' i ∨ w.heap.size ≤ i)) w' p' (n + 1) c' (hs ++ [x]) (css ++ [es]) → Keep M w w' → K p' (n + 1) c' w') :
    ∃ (p' : Option Addr) (n' c' : Nat), ∃ w' : World, (Builtin.append_ #[27, 27] 27 #[.slice p n c, .slice (some ⟨b, 0, none⟩) 1 1]).run Try.prog w = .ok (.slice p' n' c') w' ∧ K p' n' c' w' := by
  have hl := h.hl
  have hc := h.len
  refine app_of3 (e := 26) (sz := 1) (z := .slice none 0 0) (B := 24) Try.underlying27 (by kernel_rfl) rfl (by omega) h.own hB.news1 (fun u hu => ?_) (by simp only [maxLen]; omega) (by omega) fun p' c' w' hO hd => ?_
  · rw [List.mem_singleton.1 hu]; rfl
  have kk : Keep M w w' := by
    rcases hd with ⟨_, _, _, k'⟩ | ⟨_, k'⟩
    · exact k'.mono fun i _ hi => h.out i hi
    · exact k'.none
  have hsz := kk.size
  have fresh : ∀ i, ob p' i → i < w'.heap.size := hO.lt
  refine hK p' c' w' ⟨by rw [List.map_append]; exact hO, fun i hi => ⟨fresh i hi, ?_⟩, by rw [List.length_append, hc]; rfl, fun i y ys h1 h2 => ?_⟩ kk
  · rcases hd with ⟨e, _, _, _⟩ | ⟨e, _⟩
    · rw [e] at hi; exact Or.inl (hMM i (h.out i hi))
    · exact Or.inr (e i hi)
  have outp : ∀ j, j < w.heap.size → ¬ ob p j → ¬ ob p' j := fun j hj hn hi => by
    rcases hd with ⟨e, _, _, _⟩ | ⟨e, _⟩
    · rw [e] at hi; exact hn hi
    · have := e j hi; omega
  rcases Nat.lt_trichotomy i n with hi | hi | hi
  · rw [List.getElem?_append_left (by omega)] at h1 h2
    obtain ⟨h3, h4⟩ := h.inn i y ys h1 h2
    refine ⟨?_, fun j hj => ⟨⟨by have := h3.lt j hj; omega, Or.inl (hMM j (h4 j hj).1)⟩, outp j (h3.lt j hj) (h4 j hj).2⟩⟩
    rcases hd with ⟨_, _, _, k'⟩ | ⟨_, k'⟩
    · exact h3.keep k' fun j hj hh => (h4 j hj).2 hh
    · exact h3.keep0 k'
  · rw [List.getElem?_append_right (by omega), show i - hs.length = 0 by omega] at h1
    rw [List.getElem?_append_right (by omega), show i - css.length = 0 by omega] at h2
    simp only [List.getElem?_cons_zero, Option.some.injEq] at h1 h2
    subst h1; subst h2
    have np : ∀ j, ob x.1 j → ¬ ob p j := fun j hj hp => (hM j hj).2 (h.out j hp)
    refine ⟨?_, fun j hj => ⟨⟨by have := hx.lt j hj; omega, Or.inl (hM j hj).1⟩, outp j (hx.lt j hj) (np j hj)⟩⟩
    rcases hd with ⟨_, _, _, k'⟩ | ⟨_, k'⟩
    · exact hx.keep k' fun j hj hh => np j hj hh
    · exact hx.keep0 k'
  · rw [List.getElem?_eq_none (by simp; omega)] at h1; cases h1
/-- another list in one's place -/
theorem LL.set (h : LL M w p n c hs css) {i : Nat} (hi : i < n) {x : Sl} {es : List Int} (hx : Own w 3 1 x.1 x.2.1 x.2.2 (es.map J)) (hM : ∀ j, ob x.1 j → M' j ∧ ¬ M j) (hMM : ∀ i, M i → M' i)
    {K : World → Prop} (hK : ∀ w', LL M' w' p n c (hs.set i x) (css.set i es) → Keep M w w' → w'.heap.size = w.heap.size → K w') : ixA p n (i : Int) 1 fun a => st w (a.add 0) (sv x) K := by
  have hl := h.hl
  have hc := h.len
  refine h.own.ix (by omega) (by omega) fun b hb => ?_
  rw [Int.toNat_natCast, Nat.mul_one, add_mk, Nat.add_zero]
  have hO := h.own
  rw [hb] at hO
  have kb : ∀ {w' : World}, Keep (One b) w w' → Keep M w w' := fun k => k.mono fun j _ hj => by
    have hj' : j = b := hj
    rw [hj']; exact h.out b ⟨_, hb, rfl⟩
  have opb : ∀ j, ob p j ↔ j = b := fun j => ⟨fun ⟨a, ha, hj⟩ => by rw [hb] at ha; injection ha with ha; subst ha; exact hj.symm, fun e => ⟨_, hb, e.symm⟩⟩
  refine hO.st (by omega) rfl fun w' hO' hk hs' => hK w' ⟨?_, fun j hj => hMM j (h.out j hj), by rw [List.length_set]; exact hc, fun j y ys h1 h2 => ?_⟩ (kb hk) hs'
  · rw [hb, List.map_set]; exact hO'
  · rw [List.getElem?_set] at h1 h2
    by_cases hij : i = j
    · subst hij
      rw [if_pos rfl] at h1 h2
      rw [if_pos (by omega)] at h1 h2
      injection h1 with h1; injection h2 with h2
      subst h1; subst h2
      exact ⟨hx.keep hk fun j hj hh => (hM j hj).2 (h.out j ((opb j).2 hh)), fun j hj => ⟨(hM j hj).1, fun hp => (hM j hj).2 (h.out j hp)⟩⟩
    · rw [if_neg hij] at h1 h2
      obtain ⟨h3, h4⟩ := h.inn j y ys h1 h2
      exact ⟨h3.keep hk fun j hj hh => (h4 j hj).2 ((opb j).2 hh), fun j hj => ⟨hMM j (h4 j hj).1, (h4 j hj).2⟩⟩
/-- cut to its beginning -/
theorem LL.cut (h : LL M w p n c hs css) {m : Nat} (hm : m ≤ n) : LL M w p m c (hs.take m) (css.take m) :=
  ⟨by have := h.own.cut hm; rw [Nat.mul_one, ← List.map_take] at this; exact this, h.out, by rw [List.length_take, h.len]; omega, fun i x es h1 h2 => by
    rw [List.getElem?_take] at h1 h2
    split at h1
    · rename_i hlt
      rw [if_pos hlt] at h2
      exact h.inn i x es h1 h2
    · cases h1⟩
end
end Go.Proofs.Ytmhjehodfggleaa.Apart

/- An Engine in memory: a step noted in its log; what is learnt, told; the model; whether it is dead. -/
set_option linter.unusedVariables false
set_option linter.unusedSimpArgs false
set_option linter.unusedSectionVars false
set_option maxRecDepth 100000
namespace Go.Proofs.Ytmhjehodfggleaa.Eng
open Go Go.Proofs.Ytmhjehodfggleaa.Vc Go.Proofs.Ytmhjehodfggleaa.T
open Go.Proofs.Ytmhjehodfggleaa.Apart (RdL own_rdl wrap_nat getE own_len take_snoc Sl sv New LL)
open Go.Proofs.Ytmhjehodfggleaa.Lits (fl fl_iff Ans ans_of formedP idx idx_range idx_inj indexP)
open Go.Proofs.Ytmhjehodfggleaa.Arn (Ar AR words off cw Got)
open Go.Proofs.Ytmhjehodfggleaa.Trail (TI Tr St valA levA reaA ownB Moved TLaid above upto freeA implA Open ent)
open Go.Proofs.Ytmhjehodfggleaa.Learn (En RdE)

def tNote (t : Int) : Prop := t = -8 ∨ t = -10 ∨ t = -11
def noteS (S : ES) (dr : Bool) (cs : List Int) : ES := { S with log := S.log ++ [(dr, cs)] }
theorem step2_len (xs : List ((Bool × List Int) × Sl)) : (xs.flatMap step2).length = xs.length * 2 := by
  induction xs with
  | nil => rfl
  | cons x xs ih => rw [List.flatMap_cons, List.length_append, ih, List.length_cons]; simp [step2]; omega
theorem note125 {ex : Nat → Prop} {w : World} {b : Nat} {o : Nat → Int} {h : Hs} {S : ES} (hR : Rp ex w b o h S) {dr : Bool} {p : Option Addr} {n c : Nat} {cs : List Int} (hC : RdL w p n cs) (hn : n ≤ 8796093022208) (hlog : S.log.length ≤ 1099511627776) :
    Calls Try.prog 125 #[Pt h.bk, .agg #[.bool dr, .slice p n c]] w fun e w' => e = .returned (.tuple #[]) ∧ Nx tNote ex w b o h (noteS S dr cs) w' := by
  refine (V125_calls (some ⟨h.bk, 0, none⟩) dr p n c w (fun v w' => v = .tuple #[] ∧ Nx tNote ex w b o h (noteS S dr cs) w') ?_).mono fun e w' ⟨v, he, hv, hk⟩ => ⟨by rw [he, hv], hk⟩
  unfold V125
  refine alc_at fun b2 w1 hb2 hB2 k1 => ?_
  have k1d := k1.drew
  have z1 := k1d.size
  have hRd := hR.keep0 k1d
  have hB2d : Blk w1.drew b2 _ 82 := hB2.keep0 (Keep.refl None w1).drew
  have lgc : ∀ {V : World} {K : Option Addr → Nat → Nat → Prop}, Blk V h.bk [sv h.lg] 58 → K h.lg.1 h.lg.2.1 h.lg.2.2 → ldC V ((⟨h.bk, 0, none⟩ : Addr).add 0) K := fun {V K} hB hK => by
    rw [add_mk]; exact ldC_of (x := h.lg.1) (n := h.lg.2.1) (c := h.lg.2.2) (hB.cell 0) hK
  refine nn_of (lgc hRd.bk (ldB_of (x := dr) (hB2d.cell 0) (ldC_of (x := p) (n := n) (c := c) (hB2d.cell 1) ?_)))
  refine cl_of ok40 (clone40 (hC.keep k1d fun _ _ h => h) hn) fun e w2 ⟨v, he, cp, cc, hv, hO, hnew, k2⟩ => ?_
  subst hv
  have k12 := k1d.then0 k2
  have z12 := k12.size
  have hR2 := hR.keep0 k12
  refine ⟨cp, cs.length, cc, he, ldB_of (x := dr) ((hB2d.keep0 k2).cell 0) rfl, lgc hR2.bk rfl, ?_⟩
  refine alc_at fun b11 w3 hb11 hB11 k3 => ?_
  have k13 := k12.then0 k3
  have z3 := k3.size
  have hR3 := hR.keep0 k13
  refine ⟨lgc hR3.bk rfl, ?_⟩
  have hlgn := hR.lg.len
  rw [step2_len, List.length_zip, hR.gll, Nat.min_self] at hlgn
  have hN : News w3 2 (some ⟨b11, 0, none⟩) 1 1 (step2 ((dr, cs), (cp, cs.length, cc))) := Or.inr ⟨_, rfl, rfl, fun j u hu => by
    rw [add_mk, Nat.zero_add, hB11.cell]; exact hu⟩
  have hO3 := hO.keep0 k3
  refine app_of2 (e := 82) (sz := 2) (z := .agg #[.bool false, .slice none 0 0]) (B := 32) Try.underlying56 (by kernel_rfl) rfl (by omega) hR3.lg hN (fun u hu => ?_) (by simp only [maxLen]; omega) (by omega) fun p' c' w4 hO4 hd4 => ?_
  · simp only [step2, List.mem_cons, List.not_mem_nil, or_false] at hu
    rcases hu with rfl | rfl <;> rfl
  have kk : Keep (fun j => o j = -10) w3 w4 := by
    rcases hd4 with ⟨_, _, _, kk⟩ | ⟨_, kk⟩
    · exact kk.mono fun j _ hj => hR.lgO j hj
    · exact kk.none
  have z4 := kk.size
  have pc : ∀ j, ob p' j → (j < w.heap.size ∧ o j = -10) ∨ w3.heap.size ≤ j := fun j hj => by
    rcases hd4 with ⟨e, _, _, _⟩ | ⟨e, _⟩
    · rw [e] at hj; exact Or.inl ⟨hR.lg.lt j hj, hR.lgO j hj⟩
    · exact Or.inr (e j hj)
  have hbk4 : Blk w4 h.bk [sv h.lg] 58 := hR3.bk.keep kk fun hh => by have h1 : o h.bk = -10 := hh; rw [hR.bkO] at h1; exact absurd h1 (by decide)
  refine nn_of ?_
  rw [add_mk]
  refine st_of hbk4 (by simp) rfl fun w5 hbk5 k5 z5 => ⟨rfl, ?_⟩
  have hbkl := hR.bk.lt
  have kall : Keep (fun j => tNote (o j)) w w5 := ((k13.none (S := fun j => tNote (o j))).trans kk fun j _ hh => Or.inr (Or.inl hh)).trans k5 fun j _ hh => by
    have hj : j = h.bk := hh
    show tNote (o j)
    rw [hj, hR.bkO]; exact Or.inl rfl
  have z5' : w3.heap.size ≤ w5.heap.size := by omega
  have lo : ∀ {j : Nat}, o j ≠ -9 → j < w.heap.size := fun {j} hj => by
    apply Classical.byContradiction
    intro hn
    exact hj (hR.nrm j (by omega))
  have nT : ∀ {t : Int}, t ≠ -8 → t ≠ -10 → t ≠ -11 → ¬ tNote t := fun a b c hh => by rcases hh with h | h | h; exact a h; exact b h; exact c h
  have cpl : ∀ j, ob cp j → w.heap.size ≤ j ∧ j < w3.heap.size := fun j hj => ⟨by have := hnew j hj; omega, hO3.lt j hj⟩
  let o' : Nat → Int := fun j => open Classical in if j < w.heap.size then o j else if ob cp j then -11 else if ob p' j then -10 else -9
  have e0 : ∀ {j : Nat} {t : Int}, t ≠ -9 → o j = t → o' j = t := fun {j} {t} hne hj => by
    show (open Classical in if j < w.heap.size then o j else _) = t
    rw [if_pos (lo (by rw [hj]; exact hne))]; exact hj
  have har := hR.arK (T := tNote) kall (nT (by decide) (by decide) (by decide))
  have hhd := hR.heldK (T := tNote) kall (nT (by decide) (by decide) (by decide)) (nT (by decide) (by decide) (by decide))
  have k35 : ∀ j, w.heap.size ≤ j → j < w3.heap.size → ¬ (o j = -10) ∧ j ≠ h.bk := fun j h1 h2 => ⟨by rw [hR.nrm j h1]; decide, by omega⟩
  have hgl5 : ∀ (i : Nat) (x : Bool × List Int) (y : Sl), S.log[i]? = some x → h.gl[i]? = some y → RdL w5 y.1 y.2.1 x.2 := fun i x y hx hy => by
    obtain ⟨g1, g2⟩ := hR.gl i x y hx hy
    have hne : ∀ j, ob y.1 j → ¬ (o j = -10) ∧ j ≠ h.bk := fun j hj => ⟨by rw [(g2 j hj).1]; decide, fun e => by have := (g2 j hj).1; rw [e, hR.bkO] at this; exact absurd this (by decide)⟩
    exact ((g1.keep k13 fun _ _ h => h).keep kk fun j hj => (hne j hj).1).keep k5 fun j hj hh => (hne j hj).2 hh
  have hcp5 : RdL w5 cp cs.length cs := ((own_rdl hO3).keep kk fun j hj => (k35 j (cpl j hj).1 (cpl j hj).2).1).keep k5 fun j hj hh => (k35 j (cpl j hj).1 (cpl j hj).2).2 hh
  refine ⟨o', { h with lg := (p', h.lg.2.1 + 1, c'), gl := h.gl ++ [(cp, cs.length, cc)] }, ⟨blk_K (T := tNote) hR.self hR.selfO kall (nT (by decide) (by decide) (by decide)), e0 (by decide) hR.selfO, ar_grow har (fun i hi => ⟨e0 (by decide) hi.1, hi.2⟩) (fun i hi => hi.2), Rp.trK (h := h) (S := S) (T := tNote) hR kall (nT (by decide) (by decide) (by decide)), fun j hj => e0 (by decide) (hR.trO j hj),
    own_K (T := tNote) hR.oo hR.ooO kall (nT (by decide) (by decide) (by decide)), fun j hj => e0 (by decide) (hR.ooO j hj), own_K (T := tNote) hR.out hR.outO kall (nT (by decide) (by decide) (by decide)), fun j hj => e0 (by decide) (hR.outO j hj), hR.hhl, hR.lsl,
    Rp.innK (h := h) (S := S) (T := tNote) hR kall (fun i hi => ⟨hi, nT (by omega) (by omega) (by omega)⟩), fun i x hx j hj => ⟨e0 (by omega) (Rp.innOK (h := h) (S := S) (T := tNote) hR kall i x hx j hj).1, (Rp.innOK (h := h) (S := S) (T := tNote) hR kall i x hx j hj).2⟩,
    own_K (T := tNote) hR.sh hR.shO kall (nT (by decide) (by decide) (by decide)), fun j hj => e0 (by decide) (hR.shO j hj), own_K (T := tNote) hR.le hR.leO kall (nT (by decide) (by decide) (by decide)), fun j hj => e0 (by decide) (hR.leO j hj),
    hbk5, e0 (by decide) hR.bkO, ?_, fun j hj => ?_, by show (h.gl ++ [_]).length = (S.log ++ [_]).length; rw [List.length_append, List.length_append, hR.gll]; rfl, fun i x y hx hy => ?_,
    fun i d' hd' => by
      obtain ⟨h1, h2, h3, h4⟩ := hhd i d' hd'
      exact ⟨h1, e0 (by decide) h2, h3, fun j hj => ⟨e0 (by decide) (h4 j hj).1, (h4 j hj).2⟩⟩, hR.inj, fun j hj => ?_⟩, fun j hj => if_pos hj, kall, rfl⟩
  · show Own w5 82 2 p' (h.lg.2.1 + 1) c' (((S.log ++ [(dr, cs)]).zip (h.gl ++ [(cp, cs.length, cc)])).flatMap step2)
    rw [List.zip_append hR.gll.symm, List.flatMap_append]
    refine Own.keep (w := w4) ?_ k5 fun j hj hh => ?_
    · have := hO4
      rw [show ([(dr, cs)].zip [(cp, cs.length, cc)]).flatMap step2 = step2 ((dr, cs), (cp, cs.length, cc)) by simp]
      exact this
    · have hjb : j = h.bk := hh
      rcases pc j hj with h1 | h1
      · rw [hjb, hR.bkO] at h1; exact absurd h1.2 (by decide)
      · omega
  · show (open Classical in if j < w.heap.size then o j else if ob cp j then -11 else if ob p' j then -10 else -9) = -10
    rcases pc j hj with h1 | h1
    · rw [if_pos h1.1]; exact h1.2
    · rw [if_neg (by omega), if_neg fun hh => by have := (cpl j hh).2; omega, if_pos hj]
  · have hx' : (S.log ++ [(dr, cs)])[i]? = some x := hx
    have hy' : (h.gl ++ [(cp, cs.length, cc)])[i]? = some y := hy
    by_cases hi : i < S.log.length
    · rw [List.getElem?_append_left hi] at hx'
      rw [List.getElem?_append_left (by rw [hR.gll]; exact hi)] at hy'
      exact ⟨hgl5 i x y hx' hy', fun j hj => ⟨e0 (by decide) ((hR.gl i x y hx' hy').2 j hj).1, by have := ((hR.gl i x y hx' hy').2 j hj).2; omega⟩⟩
    · have hi2 : i = S.log.length := by
        have := (List.getElem?_eq_some_iff.1 hx').1
        rw [List.length_append] at this
        simp only [List.length_singleton] at this; omega
      subst hi2
      rw [List.getElem?_append_right (Nat.le_refl _), Nat.sub_self] at hx'
      rw [List.getElem?_append_right (by rw [hR.gll]; exact Nat.le_refl _), hR.gll, Nat.sub_self] at hy'
      simp only [List.getElem?_cons_zero, Option.some.injEq] at hx' hy'
      subst hx'; subst hy'
      refine ⟨hcp5, fun j hj => ⟨?_, by have := (cpl j hj).2; omega⟩⟩
      show (open Classical in if j < w.heap.size then o j else if ob cp j then -11 else if ob p' j then -10 else -9) = -11
      rw [if_neg (by have := (cpl j hj).1; omega), if_pos hj]
  · show (open Classical in if j < w.heap.size then o j else if ob cp j then -11 else if ob p' j then -10 else -9) = -9
    rw [if_neg (by omega), if_neg fun hh => by have := (cpl j hh).2; omega, if_neg fun hh => by rcases pc j hh with h1 | h1; omega; have := hO4.lt j hh; omega]
/-- the learnt clauses, told -/
def heldLits (S : ES) (k : Nat) : List Int := ((S.H[k]?).map fun d => d.ls).getD []
def learntsS (S : ES) : List (List Int) := S.learnts.map (heldLits S)
theorem learnts15 {ex : Nat → Prop} {w : World} {b : Nat} {o : Nat → Int} {h : Hs} {S : ES} (hR : Rp ex w b o h S) (hle : ∀ k ∈ S.learnts, k < S.H.length) (hll : S.learnts.length ≤ 1099511627776) (hdl : ∀ (k : Nat) (d : Hd), S.H[k]? = some d → d.ls.length ≤ 8796093022208) :
    Calls Try.prog 15 #[Pt b] w fun e w' => ∃ p n c hs, e = .returned (.slice p n c) ∧ LL (fun i => w.heap.size ≤ i) w' p n c hs (learntsS S) ∧ Keep None w w' := by
  refine (V15_calls (some ⟨b, 0, none⟩) w (fun v w' => ∃ p n c hs, v = .slice p n c ∧ LL (fun i => w.heap.size ≤ i) w' p n c hs (learntsS S) ∧ Keep None w w') ?_).mono fun e w' ⟨v, he, p, n, c, hs, hv, hk⟩ => ⟨p, n, c, hs, by rw [he, hv], hk⟩
  unfold V15
  have hln := pts_len hR.le
  refine nn_of (ldC_of (x := h.le.1) (n := h.le.2.1) (c := h.le.2.2) (by rw [add_mk]; exact hR.self.cell 6) ?_)
  refine lp_of (fun s W => ∃ (i : Nat) (hs : List Sl), s.2.1 = (i : Int) ∧ i ≤ S.learnts.length ∧ LL (fun j => w.heap.size ≤ j ∧ j < W.heap.size) W s.1.1 s.1.2.1 s.1.2.2 hs ((S.learnts.take i).map (heldLits S)) ∧ Keep None w W) (fun s _ => (S.learnts.length - s.2.1).toNat)
    ⟨0, [], rfl, Nat.zero_le _, LL.nil _ _, Keep.refl _ _⟩ ?_
  rintro ⟨⟨sp, sn, sc⟩, i', ⟨⟩⟩ W ⟨i, hs, rfl, hi, hL, kW⟩
  dsimp only at hL ⊢
  have hsn : sn = i := by have := hL.len; rw [List.length_map, List.length_take] at this; omega
  refine pif_of (fun hlt => ?_) fun hge => ?_
  · have hlt : i < S.learnts.length := by have : (i : Int) < (h.le.2.1 : Int) := by simpa using hlt
                                          omega
    rw [wrap_nat i (by omega)]
    obtain ⟨k, hk⟩ := getE hlt
    obtain ⟨d, hd⟩ := getE (hle k (List.mem_of_getElem? hk))
    have hRW := hR.keep0 kW
    have hle := hRW.le
    refine hRW.le.ix (by omega) (by omega) fun bq hbq => ?_
    rw [hbq] at hle
    refine ldP_of (x := some ⟨h.hb k, 0, none⟩) (by rw [hle.cell _ (by omega), Int.toNat_natCast, Nat.mul_one, List.getElem?_map, hk]; rfl) ?_
    obtain ⟨hB, _, hRd, _⟩ := hRW.held k d hd
    have hdn := hRd.len
    have hdl' := hdl k d hd
    refine nn_of (ldC_of (x := (h.hl k).1) (n := (h.hl k).2.1) (c := (h.hl k).2.2) (by rw [add_mk]; exact hB.cell 1) ?_)
    refine cl_of ok40 (clone40 hRd (by omega)) fun e w2 ⟨v, he, cp, cc, hv, hO, hnew, k2⟩ => ?_
    subst hv
    refine ⟨cp, d.ls.length, cc, he, ?_⟩
    refine alc_at fun b19 w3 hb19 hB19 k3 => ?_
    have k23 := k2.then0 k3
    have z2 := k2.size
    have z3 := k3.size
    have zW := kW.size
    refine (hL.keep0 k23).app (x := (cp, d.ls.length, cc)) (es := d.ls) (M' := fun j => w.heap.size ≤ j) (hO.keep0 k3) (fun j hj => ⟨by have := hnew j hj; omega, fun hh => by have := hnew j hj; omega⟩) (fun j hj => hj.1) (by omega) hB19 fun p' c' w4 hL4 kk => ?_
    have eH : heldLits S k = d.ls := by unfold heldLits; rw [hd]; rfl
    have z4 := kk.size
    refine ⟨⟨i + 1, hs ++ [(cp, d.ls.length, cc)], rfl, hlt, ?_, (kW.then0 k23).trans kk fun j hj hh => by have := hh.1; omega⟩, by omega⟩
    have e1 : (S.learnts.take (i + 1)).map (heldLits S) = (S.learnts.take i).map (heldLits S) ++ [d.ls] := by rw [take_snocN hk, List.map_append, ← eH]; rfl
    rw [e1]
    exact hL4.mono fun j hj hh => ⟨by rcases hh.2 with h | h; exact h; omega, hj⟩
  · have hge : i = S.learnts.length := by have : ¬ (i : Int) < (h.le.2.1 : Int) := by simpa using hge
                                          omega
    subst hge
    rw [List.take_length] at hL
    exact ⟨sp, sn, sc, hs, rfl, hL.mono fun j _ hj => hj.1, kW⟩
theorem dead13 {ex : Nat → Prop} {w : World} {b : Nat} {o : Nat → Int} {h : Hs} {S : ES} (hR : Rp ex w b o h S) : Calls Try.prog 13 #[Pt b] w fun e w' => e = .returned (.bool S.dead) ∧ w' = w := by
  refine (V13_calls (some ⟨b, 0, none⟩) w (fun v w' => v = .bool S.dead ∧ w' = w) ?_).mono fun e w' ⟨v, he, hv, hk⟩ => ⟨by rw [he, hv], hk⟩
  unfold V13
  exact nn_of (ldB_of (x := S.dead) (by rw [add_mk]; exact hR.self.cell 11) ⟨rfl, rfl⟩)
end Go.Proofs.Ytmhjehodfggleaa.Eng

/- An Engine in memory: its arena written; a clause held; the learnt clauses' list; the model. -/
set_option linter.unusedVariables false
set_option linter.unusedSimpArgs false
set_option linter.unusedSectionVars false
set_option maxRecDepth 100000
namespace Go.Proofs.Ytmhjehodfggleaa.Eng
open Go Go.Proofs.Ytmhjehodfggleaa.Vc Go.Proofs.Ytmhjehodfggleaa.T
open Go.Proofs.Ytmhjehodfggleaa.Apart (RdL own_rdl wrap_nat getE own_len take_snoc Sl sv New LL)
open Go.Proofs.Ytmhjehodfggleaa.Lits (fl fl_iff Ans ans_of formedP idx idx_range idx_inj indexP)
open Go.Proofs.Ytmhjehodfggleaa.Arn (Ar AR words off cw Got)
open Go.Proofs.Ytmhjehodfggleaa.Trail (TI Tr St valA levA reaA ownB Moved TLaid above upto freeA implA Open ent)
open Go.Proofs.Ytmhjehodfggleaa.Learn (En RdE)

abbrev tAr (t : Int) : Prop := t = -2
/-- the arena turned -/
theorem Rp.arTo {ex : Nat → Prop} {w w' : World} {b : Nat} {o : Nat → Int} {h : Hs} {S : ES} (hR : Rp ex w b o h S) {A' : Ar} {M' : Nat → Prop} (hA : AR M' w' h.st A') (hgr : ∀ i, M' i → (o i = -2 ∧ i < w.heap.size) ∨ w.heap.size ≤ i) (hk : Keep (fun i => o i = -2 ∧ i < w.heap.size) w w') :
    Nx tAr ex w b o h { S with ar := A' } w' := by
  have kall : Keep (fun j => tAr (o j)) w w' := hk.mono fun j _ hh => hh.1
  have z := hk.size
  have lo : ∀ {j : Nat}, o j ≠ -9 → j < w.heap.size := fun {j} hj => by
    apply Classical.byContradiction
    intro hn
    exact hj (hR.nrm j (by omega))
  let o' : Nat → Int := fun j => open Classical in if j < w.heap.size then o j else if M' j then -2 else -9
  have e0 : ∀ {j : Nat} {t : Int}, t ≠ -9 → o j = t → o' j = t := fun {j} {t} hne hj => by
    show (open Classical in if j < w.heap.size then o j else _) = t
    rw [if_pos (lo (by rw [hj]; exact hne))]; exact hj
  have hhd := Rp.heldK (h := h) (S := S) (T := tAr) hR kall (by decide) (by decide)
  have hgl := Rp.glK (h := h) (S := S) (T := tAr) hR kall (by decide)
  have no : ∀ i : Nat, ¬ tAr i := fun i hh => by have hh' : (i : Int) = -2 := hh; omega
  refine ⟨o', h, ⟨blk_K (T := tAr) hR.self hR.selfO kall (by decide), e0 (by decide) hR.selfO, ar_grow hA (fun i hi => ⟨?_, hA.lt i hi⟩) (fun i hi => hi.2), Rp.trK (h := h) (S := S) (T := tAr) hR kall (by decide), fun j hj => e0 (by decide) (hR.trO j hj),
    own_K (T := tAr) hR.oo hR.ooO kall (by decide), fun j hj => e0 (by decide) (hR.ooO j hj), own_K (T := tAr) hR.out hR.outO kall (by decide), fun j hj => e0 (by decide) (hR.outO j hj), hR.hhl, hR.lsl,
    Rp.innK (h := h) (S := S) (T := tAr) hR kall (fun i hi => ⟨hi, no i⟩), fun i x hx j hj => ⟨e0 (by omega) (Rp.innOK (h := h) (S := S) (T := tAr) hR kall i x hx j hj).1, (Rp.innOK (h := h) (S := S) (T := tAr) hR kall i x hx j hj).2⟩,
    own_K (T := tAr) hR.sh hR.shO kall (by decide), fun j hj => e0 (by decide) (hR.shO j hj), own_K (T := tAr) hR.le hR.leO kall (by decide), fun j hj => e0 (by decide) (hR.leO j hj),
    blk_K (T := tAr) hR.bk hR.bkO kall (by decide), e0 (by decide) hR.bkO, own_K (T := tAr) hR.lg hR.lgO kall (by decide), fun j hj => e0 (by decide) (hR.lgO j hj), hR.gll,
    fun i x y hx hy => ⟨(hgl i x y hx hy).1, fun j hj => ⟨e0 (by decide) ((hgl i x y hx hy).2 j hj).1, ((hgl i x y hx hy).2 j hj).2⟩⟩,
    fun i d' hd' => by
      obtain ⟨h1, h2, h3, h4⟩ := hhd i d' hd'
      exact ⟨h1, e0 (by decide) h2, h3, fun j hj => ⟨e0 (by decide) (h4 j hj).1, (h4 j hj).2⟩⟩, hR.inj, fun j hj => ?_⟩, fun j hj => if_pos hj, kall, rfl⟩
  · show (open Classical in if i < w.heap.size then o i else if M' i then -2 else -9) = -2
    rcases hgr i hi with h1 | h1
    · rw [if_pos h1.2]; exact h1.1
    · rw [if_neg (by omega), if_pos hi]
  · show (open Classical in if j < w.heap.size then o j else if M' j then -2 else -9) = -9
    rw [if_neg (by omega), if_neg fun hh => by have := hA.lt j hh; omega]
def putAr (S : ES) (cs : List Int) : ES := { S with ar := ⟨S.ar.cs ++ [cs], S.ar.live ++ [((words S.ar.cs).length : Int)]⟩ }
theorem putA {ex : Nat → Prop} {w : World} {b : Nat} {o : Nat → Int} {h : Hs} {S : ES} (hR : Rp ex w b o h S) {p : Option Addr} {n c : Nat} {cs : List Int} (hC : RdL w p n cs) (hN : News w 1 p n c (cs.map I)) (hn : n ≤ 17592186044416) (hq : ∀ j, ob p j → 0 < n → o j ≠ -2) (hf : ∀ x ∈ cs, fl x = true) (hw : (words S.ar.cs).length + n + 1 ≤ 17592186044416) (hl : S.ar.cs.length + 1 ≤ 17592186044416) (flag : Bool) :
    Calls Try.prog 25 #[Pt h.st, .slice p n c, .bool flag] w fun e w' => e = .returned (.tuple #[I ((words S.ar.cs).length : Nat), I 0]) ∧ Nx tAr ex w b o h (putAr S cs) w' :=
  (Arn.put25 hR.ar hC hN hn (fun j hj h0 hh => hq j hj h0 hh.1) hf hw hl flag).mono fun e w' ⟨he, M', hA⟩ => ⟨he, hR.arTo hA.ar hA.gr hA.kp⟩
def dropAr (S : ES) (r : Int) : ES := { S with ar := ⟨S.ar.cs, S.ar.live.erase r⟩ }
theorem dropA {ex : Nat → Prop} {w : World} {b : Nat} {o : Nat → Int} {h : Hs} {S : ES} (hR : Rp ex w b o h S) (r : Int) :
    Calls Try.prog 38 #[Pt h.st, I r] w fun e w' => ∃ x, e = .returned (I x) ∧ Nx tAr ex w b o h (dropAr S r) w' :=
  (Arn.drop38 hR.ar r).mono fun e w' hh => by
    rcases hh with ⟨he, hn, hk⟩ | ⟨he, hm, M', hA⟩
    · refine ⟨2, he, ?_⟩
      have : dropAr S r = S := by unfold dropAr; rw [List.erase_of_not_mem hn]
      rw [this]
      exact (Nx.refl hR).keep0 hk
    · exact ⟨0, he, hR.arTo hA.ar hA.gr hA.kp⟩
section
variable {ex : Nat → Prop} {w w' : World} {b : Nat} {o : Nat → Int} {h : Hs} {S : ES}
/-- a clause more that is held -/
theorem Rp.addHeld (hR : Rp ex w b o h S) {bb : Nat} {x : Sl} {d : Hd} (hB : Blk w bb [I d.at_, sv x, I d.e0, I d.e1, .bool d.gone] 71) (hbo : o bb = -9) (hC : RdL w x.1 x.2.1 d.ls) (hxo : ∀ j, ob x.1 j → o j = -9 ∧ j ≠ bb ∧ j < w.heap.size)
    (hls : ∀ (i : Nat) (ids : List Nat), S.lists[i]? = some ids → ∀ k ∈ ids, k < S.H.length) (hsh : ∀ k ∈ S.short, k < S.H.length) (hle : ∀ k ∈ S.learnts, k < S.H.length) :
    ∃ o' h', Rp ex w b o' h' { S with H := S.H ++ [d] } ∧ (∀ j, o' j = o j ∨ j = bb ∨ ob x.1 j) ∧ h'.hb S.H.length = bb ∧ (∀ i, i < S.H.length → h'.hb i = h.hb i) ∧ h'.st = h.st ∧ h'.bk = h.bk := by
  let o' : Nat → Int := fun j => open Classical in if j = bb then -12 else if ob x.1 j then -13 else o j
  have hB' := hB.lt
  have hT : Rp ex w b o' h S := hR.tag (fun j hj => by
    show (open Classical in if j = bb then -12 else if ob x.1 j then -13 else o j) = o j
    rw [if_neg (fun e : j = bb => hj (e ▸ hbo)), if_neg fun e => hj (hxo j e).1]) fun j hj => by
    show (open Classical in if j = bb then -12 else if ob x.1 j then -13 else o j) = -9
    rw [if_neg (by omega), if_neg fun e => by have := (hxo j e).2.2; omega]
    exact hR.nrm j hj
  let hb' : Nat → Nat := fun i => if i = S.H.length then bb else h.hb i
  let hl' : Nat → Sl := fun i => if i = S.H.length then x else h.hl i
  have hbe : ∀ i, i < S.H.length → hb' i = h.hb i := fun i hi => if_neg (by omega)
  have hle' : ∀ i, i < S.H.length → hl' i = h.hl i := fun i hi => if_neg (by omega)
  have mp : ∀ ids : List Nat, (∀ k ∈ ids, k < S.H.length) → (ids.map fun k => Pt (hb' k)) = ids.map fun k => Pt (h.hb k) := fun ids hi => List.map_congr_left fun k hk => by rw [hbe k (hi k hk)]
  have obb : o' bb = -12 := if_pos rfl
  refine ⟨o', { h with hb := hb', hl := hl' }, ⟨hT.self, hT.selfO, hT.ar, hT.tr, hT.trO, hT.oo, hT.ooO, hT.out, hT.outO, hT.hhl, hT.lsl, fun i y ids hy hi hn => ?_, hT.innO, ?_, hT.shO, ?_, hT.leO, hT.bk, hT.bkO, hT.lg, hT.lgO, hT.gll, hT.gl, fun i d' hd' => ?_, fun i j hi hj he => ?_, hT.nrm⟩, fun j => ?_, if_pos rfl, hbe, rfl, rfl⟩
  · show Own w _ 1 _ _ _ (ids.map fun k => Pt (hb' k))
    rw [mp ids (hls i ids hi)]
    exact hT.inn i y ids hy hi hn
  · show Own w _ 1 _ _ _ (S.short.map fun k => Pt (hb' k))
    rw [mp _ hsh]; exact hT.sh
  · show Own w _ 1 _ _ _ (S.learnts.map fun k => Pt (hb' k))
    rw [mp _ hle]; exact hT.le
  · have hd2 : (S.H ++ [d])[i]? = some d' := hd'
    by_cases hi : i < S.H.length
    · rw [List.getElem?_append_left hi] at hd2
      show Blk w (hb' i) [I d'.at_, sv (hl' i), _, _, _] _ ∧ o' (hb' i) = -12 ∧ RdL w (hl' i).1 (hl' i).2.1 d'.ls ∧ ∀ j, ob (hl' i).1 j → o' j = -13 ∧ j < w.heap.size
      rw [hbe i hi, hle' i hi]
      exact hT.held i d' hd2
    · have hi2 : i = S.H.length := by
        have := (List.getElem?_eq_some_iff.1 hd2).1
        rw [List.length_append] at this
        simp only [List.length_singleton] at this; omega
      subst hi2
      rw [List.getElem?_append_right (Nat.le_refl _), Nat.sub_self] at hd2
      simp only [List.getElem?_cons_zero, Option.some.injEq] at hd2
      subst hd2
      show Blk w (hb' S.H.length) [I d.at_, sv (hl' S.H.length), _, _, _] _ ∧ o' (hb' S.H.length) = -12 ∧ RdL w (hl' S.H.length).1 (hl' S.H.length).2.1 d.ls ∧ ∀ j, ob (hl' S.H.length).1 j → o' j = -13 ∧ j < w.heap.size
      rw [show hb' S.H.length = bb from if_pos rfl, show hl' S.H.length = x from if_pos rfl]
      refine ⟨hB, obb, hC, fun j hj => ⟨?_, (hxo j hj).2.2⟩⟩
      show (open Classical in if j = bb then -12 else if ob x.1 j then -13 else o j) = -13
      rw [if_neg (hxo j hj).2.1, if_pos hj]
  · have hi' : i < (S.H ++ [d]).length := hi
    have hj' : j < (S.H ++ [d]).length := hj
    rw [List.length_append] at hi' hj'
    simp only [List.length_singleton] at hi' hj'
    have he' : hb' i = hb' j := he
    have old : ∀ k, k < S.H.length → h.hb k ≠ bb := fun k hk e => by
      obtain ⟨dk, hdk⟩ := getE hk
      have := (hR.held k dk hdk).2.1
      rw [e, hbo] at this; exact absurd this (by decide)
    by_cases h1 : i < S.H.length <;> by_cases h2 : j < S.H.length
    · rw [hbe i h1, hbe j h2] at he'; exact hR.inj i j h1 h2 he'
    · have e2 : j = S.H.length := by omega
      rw [hbe i h1, e2, show hb' S.H.length = bb from if_pos rfl] at he'
      exact absurd he' (old i h1)
    · have e1 : i = S.H.length := by omega
      rw [hbe j h2, e1, show hb' S.H.length = bb from if_pos rfl] at he'
      exact absurd he'.symm (old j h2)
    · omega
  · show (open Classical in if j = bb then -12 else if ob x.1 j then -13 else o j) = o j ∨ _
    by_cases h1 : j = bb
    · exact Or.inr (Or.inl h1)
    · by_cases h2 : ob x.1 j
      · exact Or.inr (Or.inr h2)
      · rw [if_neg h1, if_neg h2]; exact Or.inl rfl
end
def tLe (t : Int) : Prop := t = -1 ∨ t = -7
/-- a clause put to the learnt ones -/
theorem pushLe {ex : Nat → Prop} {w : World} {b : Nat} {o : Nat → Int} {h : Hs} {S : ES} (hR : Rp ex w b o h S) {k : Nat} (hll : S.learnts.length ≤ 8796093022208) {K : World → Prop} (hK : ∀ w', Nx tLe ex w b o h { S with learnts := S.learnts ++ [k] } w' → K w') :
    nn (some ⟨b, 0, none⟩) fun p50 => ldC w (p50.add 6) fun x51 x51n x51c => alc w [Pt (h.hb k)] 68 fun b52 w12 =>
      ∃ (x53 : Option Addr) (x53n x53c : Nat), ∃ w13 : World, (Builtin.append_ #[59, 59] 59 #[.slice x51 x51n x51c, .slice (some (⟨b52, 0, none⟩ : Addr)) 1 1]).run Try.prog w12 = .ok (.slice x53 x53n x53c) w13 ∧
      nn (some ⟨b, 0, none⟩) fun p54 => Vc.st w13 ((p54.add 6).add 0) (.slice x53 x53n x53c) K := by
  refine nn_of (ldC_of (x := h.le.1) (n := h.le.2.1) (c := h.le.2.2) (by rw [add_mk]; exact hR.self.cell 6) (alc_at fun b52 w1 hb hB k1 => ?_))
  have z1 := k1.size
  have hR1 := hR.keep0 k1
  have hln := pts_len hR.le
  refine app_of2 (e := 68) (sz := 1) (z := .pointer none) (B := 8) Try.underlying59 (by kernel_rfl) rfl (by omega) hR1.le hB.news1 (fun u hu => ?_) (by simp only [maxLen]; omega) (by omega) fun p' c' w2 hO hd => ?_
  · simp only [List.mem_singleton] at hu; subst hu; rfl
  have kk : Keep (fun j => o j = -7) w1 w2 := by
    rcases hd with ⟨_, _, _, kk⟩ | ⟨_, kk⟩
    · exact kk.mono fun j _ hj => hR.leO j hj
    · exact kk.none
  have z2 := kk.size
  have pc : ∀ j, ob p' j → (j < w.heap.size ∧ o j = -7) ∨ w1.heap.size ≤ j := fun j hj => by
    rcases hd with ⟨e, _, _, _⟩ | ⟨e, _⟩
    · rw [e] at hj; exact Or.inl ⟨hR.le.lt j hj, hR.leO j hj⟩
    · exact Or.inr (e j hj)
  have hs2 := blk_K (T := fun t => t = -7) hR1.self hR.selfO kk (by decide)
  refine nn_of ?_
  rw [add_mk, add_mk]
  refine st_of hs2 (by simp) rfl fun w3 hs3 k3 z3 => hK w3 ?_
  have hbl := hR.self.lt
  have kall : Keep (fun j => tLe (o j)) w w3 := ((k1.none (S := fun j => tLe (o j))).trans kk fun j _ hh => Or.inr hh).trans k3 fun j _ hh => by
    have hj : j = b := hh
    show tLe (o j)
    rw [hj, hR.selfO]; exact Or.inl rfl
  have lo : ∀ {j : Nat}, o j ≠ -9 → j < w.heap.size := fun {j} hj => by
    apply Classical.byContradiction
    intro hn
    exact hj (hR.nrm j (by omega))
  have nT : ∀ {t : Int}, t ≠ -1 → t ≠ -7 → ¬ tLe t := fun a b hh => by rcases hh with h | h; exact a h; exact b h
  let o' : Nat → Int := fun j => open Classical in if j < w.heap.size then o j else if ob p' j then -7 else -9
  have e0 : ∀ {j : Nat} {t : Int}, t ≠ -9 → o j = t → o' j = t := fun {j} {t} hne hj => by
    show (open Classical in if j < w.heap.size then o j else _) = t
    rw [if_pos (lo (by rw [hj]; exact hne))]; exact hj
  have har := hR.arK (T := tLe) kall (nT (by decide) (by decide))
  have hhd := Rp.heldK (h := h) (S := S) (T := tLe) hR kall (nT (by decide) (by decide)) (nT (by decide) (by decide))
  have hgl := Rp.glK (h := h) (S := S) (T := tLe) hR kall (nT (by decide) (by decide))
  refine ⟨o', { h with le := (p', h.le.2.1 + 1, c') }, ⟨hs3, e0 (by decide) hR.selfO, ar_grow har (fun i hi => ⟨e0 (by decide) hi.1, hi.2⟩) (fun i hi => hi.2), Rp.trK (h := h) (S := S) (T := tLe) hR kall (nT (by decide) (by decide)), fun j hj => e0 (by decide) (hR.trO j hj),
    own_K (T := tLe) hR.oo hR.ooO kall (nT (by decide) (by decide)), fun j hj => e0 (by decide) (hR.ooO j hj), own_K (T := tLe) hR.out hR.outO kall (nT (by decide) (by decide)), fun j hj => e0 (by decide) (hR.outO j hj), hR.hhl, hR.lsl,
    Rp.innK (h := h) (S := S) (T := tLe) hR kall (fun i hi => ⟨hi, nT (by omega) (by omega)⟩), fun i x hx j hj => ⟨e0 (by omega) (Rp.innOK (h := h) (S := S) (T := tLe) hR kall i x hx j hj).1, (Rp.innOK (h := h) (S := S) (T := tLe) hR kall i x hx j hj).2⟩,
    own_K (T := tLe) hR.sh hR.shO kall (nT (by decide) (by decide)), fun j hj => e0 (by decide) (hR.shO j hj), ?_, fun j hj => ?_,
    blk_K (T := tLe) hR.bk hR.bkO kall (nT (by decide) (by decide)), e0 (by decide) hR.bkO, own_K (T := tLe) hR.lg hR.lgO kall (nT (by decide) (by decide)), fun j hj => e0 (by decide) (hR.lgO j hj), hR.gll,
    fun i x y hx hy => ⟨(hgl i x y hx hy).1, fun j hj => ⟨e0 (by decide) ((hgl i x y hx hy).2 j hj).1, ((hgl i x y hx hy).2 j hj).2⟩⟩,
    fun i d' hd' => by
      obtain ⟨h1, h2, h3, h4⟩ := hhd i d' hd'
      exact ⟨h1, e0 (by decide) h2, h3, fun j hj => ⟨e0 (by decide) (h4 j hj).1, (h4 j hj).2⟩⟩, hR.inj, fun j hj => ?_⟩, fun j hj => if_pos hj, kall, rfl⟩
  · show Own w3 _ 1 p' (h.le.2.1 + 1) c' ((S.learnts ++ [k]).map fun k => Pt (h.hb k))
    rw [List.map_append]
    refine hO.keep k3 fun j hj hh => ?_
    have hjb : j = b := hh
    rcases pc j hj with h1 | h1
    · rw [hjb, hR.selfO] at h1; exact absurd h1.2 (by decide)
    · omega
  · show (open Classical in if j < w.heap.size then o j else if ob p' j then -7 else -9) = -7
    rcases pc j hj with h1 | h1
    · rw [if_pos h1.1]; exact h1.2
    · rw [if_neg (by omega), if_pos hj]
  · show (open Classical in if j < w.heap.size then o j else if ob p' j then -7 else -9) = -9
    rw [if_neg (by omega), if_neg fun hh => by rcases pc j hh with h1 | h1; omega; have := hO.lt j hh; omega]
/-- the model -/
def modelS (S : ES) : Option (List Bool) := if S.rest = false ∨ S.R.length < S.nv then none else some ((List.range S.nv).map fun (i : Nat) => decide (0 < vl S ((i : Int) + 1)))
end Go.Proofs.Ytmhjehodfggleaa.Eng

/- An Engine in memory: the literal of the greatest level; the log through its interface. -/
set_option linter.unusedVariables false
set_option linter.unusedSimpArgs false
set_option linter.unusedSectionVars false
set_option maxRecDepth 100000
namespace Go.Proofs.Ytmhjehodfggleaa.Eng
open Go Go.Proofs.Ytmhjehodfggleaa.Vc Go.Proofs.Ytmhjehodfggleaa.T
open Go.Proofs.Ytmhjehodfggleaa.Apart (RdL own_rdl wrap_nat getE own_len take_snoc Sl sv New LL)
open Go.Proofs.Ytmhjehodfggleaa.Lits (fl fl_iff Ans ans_of formedP idx idx_range idx_inj indexP)
open Go.Proofs.Ytmhjehodfggleaa.Arn (Ar AR words off cw Got)
open Go.Proofs.Ytmhjehodfggleaa.Trail (TI Tr St valA levA reaA ownB Moved TLaid above upto freeA implA Open ent)
open Go.Proofs.Ytmhjehodfggleaa.Learn (En RdE)

/-- a literal's level -/
def lvx (S : ES) (x : Int) : Int := levA S.nv S.R (x.natAbs : Int)
theorem lev_range {n : Nat} {R : List E} {L : List Int} (h : St n R L) (hn : n ≤ 1048576) (v : Int) : -1 ≤ levA n R v ∧ levA n R v ≤ 1048576 := by
  unfold levA
  split
  · split
    · rename_i e he
      have := h.lvl e (Trail.ent_some he).2
      have h1 := h.levs
      have h2 := h.len
      omega
    · omega
  · omega
section
variable {ex : Nat → Prop} {w : World} {b : Nat} {o : Nat → Int} {h : Hs} {S : ES}
theorem lower46 (hR : Rp ex w b o h S) {x y : Int} (hx : fl x = true) (hy : fl y = true) :
    Calls Try.prog 46 #[Pt b, I x, I y] w fun e w' => e = .returned (I (lvx S x - lvx S y)) ∧ Keep None w w' := by
  refine (V46_calls (some ⟨b, 0, none⟩) x y w (fun v w' => v = I (lvx S x - lvx S y) ∧ Keep None w w') ?_).mono fun e w' ⟨v, he, hv, hk⟩ => ⟨by rw [he, hv], hk⟩
  unfold V46
  have kd : Keep None w w.drew := (Keep.refl _ _).drew
  have hRd := hR.keep0 kd
  have hfx := fl_iff.1 hx
  have hfy := fl_iff.1 hy
  have ev : ∀ {l : Int}, fl l = true → (if 1 ≤ l.natAbs ∧ l.natAbs ≤ 1048576 then (l.natAbs : Int) else 0) = l.natAbs := fun {l} hl => if_pos ⟨by have := fl_iff.1 hl; omega, by have := fl_iff.1 hl; omega⟩
  have c2 : ∀ {V : World}, Rp ex V b o h S → ∀ {K : Option Addr → Prop}, K (some ⟨h.T.t, 0, none⟩) → ldP V ((⟨b, 0, none⟩ : Addr).add 2) K := fun {V} hRV {K} hK => by
    rw [add_mk]; exact ldP_of (hRV.self.cell 2) hK
  refine nn_of (c2 hRd (nn_of (c2 hRd ?_)))
  refine cl_of ok30 (Trail.var52 x _ (by omega)) fun e w1 ⟨he, hw1⟩ => ⟨_, he, ?_⟩
  subst hw1
  rw [ev hx]
  refine ⟨c2 hRd rfl, c2 hRd rfl, ?_⟩
  refine cl_of ok67 (hRd.tr.levelOf _ (by omega)) fun e w2 ⟨he, k2⟩ => ⟨_, he, ?_⟩
  have hR2 := hRd.keep0 k2
  refine ⟨c2 hR2 rfl, cl_of ok30 (Trail.var52 y _ (by omega)) fun e w3 ⟨he, hw3⟩ => ⟨_, he, ?_⟩⟩
  subst hw3
  rw [ev hy]
  refine ⟨c2 hR2 rfl, cl_of ok67 (hR2.tr.levelOf _ (by omega)) fun e w4 ⟨he, k4⟩ => ⟨_, he, ?_, (kd.then0 k2).then0 k4⟩⟩
  have r1 := lev_range hR.tr.st hR.nv (x.natAbs : Int)
  have r2 := lev_range hR.tr.st hR.nv (y.natAbs : Int)
  show I (IntKind.wrap .i64 _) = _
  rw [IntKind.wrap_i64]
  unfold lvx
  congr 1
  omega
/-- of literals, the first of the greatest level -/
def maxL (S : ES) : List Int → Int
  | [] => 0
  | x :: xs => xs.foldl (fun m y => if 0 < lvx S y - lvx S m then y else m) x
theorem maxL_mem (S : ES) {cs : List Int} (h : cs ≠ []) : maxL S cs ∈ cs := by
  cases cs with
  | nil => exact absurd rfl h
  | cons x xs =>
    have : ∀ (ys : List Int) (m : Int), ys.foldl (fun m y => if 0 < lvx S y - lvx S m then y else m) m = m ∨ ys.foldl (fun m y => if 0 < lvx S y - lvx S m then y else m) m ∈ ys := fun ys => by
      induction ys with
      | nil => intro m; exact Or.inl rfl
      | cons y ys ih =>
        intro m
        rw [List.foldl_cons]
        rcases ih (if 0 < lvx S y - lvx S m then y else m) with h1 | h1
        · rw [h1]
          split
          · exact Or.inr (by simp)
          · exact Or.inl rfl
        · exact Or.inr (List.mem_cons_of_mem _ h1)
    rcases this xs x with h1 | h1
    · show xs.foldl _ x ∈ _
      rw [h1]; simp
    · exact List.mem_cons_of_mem _ h1
theorem max45 (hR : Rp ex w b o h S) {p : Option Addr} {n c : Nat} {cs : List Int} (hC : RdL w p n cs) (hne : cs ≠ []) (hn : n ≤ 17592186044416) (hf : ∀ x ∈ cs, fl x = true) :
    Calls Try.prog 45 #[.slice p n c, .func (.func 46) #[Pt b] #[]] w fun e w' => e = .returned (I (maxL S cs)) ∧ Keep None w w' := by
  refine (V45_calls p n c (.func (.func 46) #[Pt b] #[]) w (fun v w' => v = I (maxL S cs) ∧ Keep None w w') ?_).mono fun e w' ⟨v, he, hv, hk⟩ => ⟨by rw [he, hv], hk⟩
  unfold V45
  have hl := hC.len
  have hpos : 0 < cs.length := List.length_pos_iff.2 hne
  refine ⟨fun _ W => W = w, ?_, ?_⟩
  · exact pif_f (by have : ¬ (n : Int) < 1 := by omega
                    exact decide_eq_false this) rfl
  rintro ⟨⟩ w1 rfl
  dsimp only
  obtain ⟨x0, hx0⟩ := getE hpos
  have ecs : cs = x0 :: cs.drop 1 := by
    cases cs with
    | nil => exact absurd rfl hne
    | cons z zs => simp only [List.getElem?_cons_zero, Option.some.injEq] at hx0; rw [hx0]; rfl
  refine hC.ix (i := 0) (by omega) fun a x hx ha => ldI_of ha ?_
  have : x = x0 := by rw [hx0] at hx; injection hx with hx; exact hx.symm
  subst this
  refine lp_of (fun s W => ∃ i : Nat, s.2.1 = (i : Int) ∧ 1 ≤ i ∧ i ≤ n ∧ s.1 = maxL S (cs.take i) ∧ Keep None w1 W) (fun s _ => (n - s.2.1).toNat) ⟨1, rfl, Nat.le_refl _, by omega, by rw [ecs]; rfl, Keep.refl _ _⟩ ?_
  rintro ⟨m, i', ⟨⟩⟩ W ⟨i, rfl, hi1, hi, hm, kW⟩
  dsimp only at hm ⊢
  refine pif_of (fun hlt => ?_) fun hge => ?_
  · have hlt : i < n := by simpa using hlt
    rw [wrap_nat i (by omega)]
    have hCW := hC.keep kW fun _ _ h => h
    have hRW := hR.keep0 kW
    have htne : cs.take i ≠ [] := fun e => by
      have := congrArg List.length e
      rw [List.length_take] at this; simp only [List.length_nil] at this; omega
    have hmm : m ∈ cs := by rw [hm]; exact (List.take_sublist i cs).subset (maxL_mem S htne)
    have nextM : ∀ y, cs[i]? = some y → maxL S (cs.take (i + 1)) = if 0 < lvx S y - lvx S m then y else m := fun y hy => by
      rw [hm, take_snocN hy]
      cases ht : cs.take i with
      | nil => exact absurd ht htne
      | cons z zs => show ((zs ++ [y]).foldl _ z) = _; rw [List.foldl_append]; rfl
    refine ⟨fun s W' => s.1 = maxL S (cs.take (i + 1)) ∧ Keep None w1 W', ?_, ?_⟩
    · refine hCW.ix hlt fun a y hy ha => ldI_of ha (Learn.clF_of ?_)
      have hyf := hf y (List.mem_of_getElem? hy)
      refine cl_of ok46 (lower46 hRW hyf (hf m hmm)) fun e w4 ⟨he, k4⟩ => ⟨_, he, ?_⟩
      have kk := kW.then0 k4
      refine pif_of (fun hq => ?_) fun hq => ?_
      · have hq : 0 < lvx S y - lvx S m := by simpa using hq
        refine (hC.keep kk fun _ _ h => h).ix hlt fun a y' hy' ha => ldI_of ha ⟨?_, kk⟩
        have : y' = y := by rw [hy] at hy'; injection hy' with hy'; exact hy'.symm
        subst this
        rw [nextM y' hy, if_pos hq]
      · have hq : ¬ 0 < lvx S y - lvx S m := by simpa using hq
        exact ⟨by rw [nextM y hy, if_neg hq], kk⟩
    · rintro ⟨m', ⟨⟩⟩ W' ⟨h1, h2⟩
      exact ⟨⟨i + 1, rfl, by omega, hlt, h1, h2⟩, by omega⟩
  · have hge : i = n := by have : ¬ (i : Int) < (n : Int) := by simpa using hge
                           omega
    subst hge
    rw [← hl, List.take_length] at hm
    exact ⟨by rw [hm], kW⟩
end
theorem note_is (q : Option Addr) (w : World) : (method (Try.prog.types.size + Made.depth) 55 (.pointer q) "depot/engine.note").run Try.prog w = .ok (125, .pointer q) w := by
  kernel_rfl
/-- a step noted, through the interface -/
theorem noteM {ex : Nat → Prop} {w : World} {b : Nat} {o : Nat → Int} {h : Hs} {S : ES} (hR : Rp ex w b o h S) {dr : Bool} {p : Option Addr} {n c : Nat} {cs : List Int} (hC : RdL w p n cs) (hn : n ≤ 8796093022208) (hlog : S.log.length ≤ 1099511627776) {R : Ending → World → Prop}
    (hK : ∀ w', Nx tNote ex w b o h (noteS S dr cs) w' → R (.returned (.tuple #[])) w') : clM Try.prog (.iface 55 (Pt h.bk)) "depot/engine.note" [.agg #[.bool dr, .slice p n c]] w R :=
  ⟨55, Pt h.bk, 125, Pt h.bk, rfl, fun w => note_is _ w, cl_of ok125 (note125 hR hC hn hlog) fun e w' ⟨he, hN⟩ => by subst he; exact hK w' hN⟩
end Go.Proofs.Ytmhjehodfggleaa.Eng

/- An Engine in memory: it learns from a clash. -/
set_option linter.unusedVariables false
set_option linter.unusedSimpArgs false
set_option linter.unusedSectionVars false
set_option maxRecDepth 100000
namespace Go.Proofs.Ytmhjehodfggleaa.Eng
open Go Go.Proofs.Ytmhjehodfggleaa.Vc Go.Proofs.Ytmhjehodfggleaa.T
open Go.Proofs.Ytmhjehodfggleaa.Apart (RdL own_rdl wrap_nat getE own_len take_snoc Sl sv New LL)
open Go.Proofs.Ytmhjehodfggleaa.Lits (fl fl_iff Ans ans_of formedP idx idx_range idx_inj indexP)
open Go.Proofs.Ytmhjehodfggleaa.Arn (Ar AR words off cw Got)
open Go.Proofs.Ytmhjehodfggleaa.Trail (TI Tr St valA levA reaA ownB Moved TLaid above upto freeA implA Open ent)
open Go.Proofs.Ytmhjehodfggleaa.Learn (En RdE LSpec Askd shr Learnt Shrunk)

/-- a clash without a way out -/
def deadS (S : ES) : ES := noteS { S with clash := false, dead := true } false []
def atN (S : ES) : Int := ((words S.ar.cs).length : Nat)
def newHd (S : ES) (s : List Int) : Hd := ⟨atN S, s, 0, 0, false⟩
/-- .. the learnt clause held -/
def heldS (S : ES) (s : List Int) : ES :=
  { putAr (noteS { S with clash := false } false s) s with H := S.H ++ [newHd S s], learnts := S.learnts ++ [S.H.length] }
def eyesS (S : ES) (s : List Int) : ES := if 1 < s.length then watchS (heldS S s) S.H.length (newHd S s) (s.headD 0) (maxL S s.tail) else heldS S s
def learnT (S : ES) (back : Int) (s : List Int) : ES := putS (cutS (eyesS S s) back) (s.headD 0) (atN S)
theorem Nx.nine {T : Int → Prop} {ex : Nat → Prop} {w w' : World} {b : Nat} {o : Nat → Int} {h : Hs} {S : ES} (hN : Nx T ex w b o h S w') (ht : ¬ T (-9)) : ∃ o' h', Rp ex w' b o' h' S ∧ Ag w o o' ∧ Keep (fun i => T (o i)) w w' ∧ h'.hb = h.hb ∧
    (∀ {e : TypeId} {sz : Nat} {p : Option Addr} {n c : Nat} {xs : List Value}, Own w e sz p n c xs → (∀ j, ob p j → o j = -9) → Own w' e sz p n c xs ∧ ∀ j, ob p j → o' j = -9) := by
  obtain ⟨o', h', r, a, k, e⟩ := hN
  exact ⟨o', h', r, a, k, e, fun hO hn => ⟨own_K hO hn k ht, fun j hj => by rw [a j (hO.lt j hj)]; exact hn j hj⟩⟩
theorem keep_nine {T : Int → Prop} (ht : ¬ T (-9)) {w w1 w2 : World} {o o1 : Nat → Int} (h : Keep (fun i => tMine (o i)) w w1) (ha : Ag w o o1) (k : Keep (fun i => T (o1 i)) w1 w2) : Keep (fun i => tMine (o i)) w w2 :=
  h.trans k fun j hj hh => by rw [ha j hj] at hh; exact fun e => ht (e ▸ hh)
/-- what Learn asks of the state: what learn answers, and that the answer is one to go on with -/
structure LOk (S : ES) (u back : Int) (cl s : List Int) : Prop where
  sp : LSpec (entS S) (arGet S.ar S.bad) u back cl
  rs : ∀ x ∈ entS S, x.rs.length ≤ 1048576
  cf : (arGet S.ar S.bad).length ≤ 1048576
  wd : (words S.ar.cs).length ≤ 8796093022208
  ac : S.ar.cs.length ≤ 8796093022208
  lg : S.log.length ≤ 1099511627776
  cll : cl.length ≤ 1048576
  go : cl ≠ [] → Askd (entS S) cl 0 ∧ s = shr (entS S) cl cl.length ∧ s ≠ [] ∧ (∀ x ∈ s, Wi S.nv x) ∧ 0 ≤ back ∧ back ≤ S.L.length ∧ freeA S.nv (upto back S.R) (s.headD 0) = 0
theorem learn9 {w : World} {b : Nat} {o : Nat → Int} {h : Hs} {S : ES} (hR : Rp noEx w b o h S) (hW : WfS S) (hc : S.clash = true) {u back : Int} {cl s : List Int} (hL : LOk S u back cl s) :
    Calls Try.prog 9 #[Pt b] w fun e w' =>
      (cl = [] ∧ e = .returned (.tuple #[.slice none 0 0, I (-1), I 0]) ∧ Nx tMine noEx w b o h (deadS S) w') ∨
      (cl ≠ [] ∧ ∃ p c o' h', e = .returned (.tuple #[.slice p s.length c, I back, I 0]) ∧ Own w' 3 1 p s.length c (s.map I) ∧ (∀ j, ob p j → w.heap.size ≤ j ∧ o' j = -9) ∧ Rp noEx w' b o' h' (learnT S back s) ∧ Ag w o o' ∧ Keep (fun i => tMine (o i)) w w') := by
  refine (V9_calls (some ⟨b, 0, none⟩) w (fun v w' => (cl = [] ∧ v = .tuple #[.slice none 0 0, I (-1), I 0] ∧ Nx tMine noEx w b o h (deadS S) w') ∨
      (cl ≠ [] ∧ ∃ p c o' h', v = .tuple #[.slice p s.length c, I back, I 0] ∧ Own w' 3 1 p s.length c (s.map I) ∧ (∀ j, ob p j → w.heap.size ≤ j ∧ o' j = -9) ∧ Rp noEx w' b o' h' (learnT S back s) ∧ Ag w o o' ∧ Keep (fun i => tMine (o i)) w w')) ?_).mono fun e w' ⟨v, he, hk⟩ => ?_
  rotate_left
  · rcases hk with ⟨a, hv, hk⟩ | ⟨a, p, c, o', h', hv, hk⟩
    · exact Or.inl ⟨a, by rw [he, hv], hk⟩
    · exact Or.inr ⟨a, p, c, o', h', by rw [he, hv], hk⟩
  unfold V9
  have hnv := hR.nv
  have hsm := hR.tr.small
  have mineb : ∀ j, One b j → tMine (o j) := fun j hj => by
    rw [show j = b from hj, hR.selfO]
    show (-1 : Int) ≠ -9
    decide
  refine nn_of (ldB_of (x := S.clash) (by rw [add_mk]; exact hR.self.cell 10) ?_)
  rw [hc]
  refine pif_f rfl (nn_of ?_)
  rw [add_mk, add_mk]
  refine st_of hR.self (by simp) rfl fun w1 hB1 k1 z1 => ?_
  have hR1 := hR.setSelf (hd := S.head) (r := S.rest) (c := false) (d := S.dead) (x := S.bad) k1 hB1 z1
  have kk1 : Keep (fun i => tMine (o i)) w w1 := k1.mono fun j _ hj => mineb j hj
  refine cl_of ok41 (entries41 hR1 (by have := hL.wd; show (words S.ar.cs).length ≤ _; omega)) fun e w2 ⟨tp, tc, he, hE2, hEf, k2⟩ => ⟨tp, _, tc, he, nn_of ?_⟩
  have esE : entS { S with head := S.head, rest := S.rest, clash := false, dead := S.dead, bad := S.bad } = entS S := rfl
  rw [esE] at hE2
  rw [esE]
  have eel : (entS S).length ≤ 1048576 := by unfold entS; rw [List.length_map]; omega
  have k2d := k2.drew
  have hR2 := hR1.keep0 k2d
  refine ldP_of (x := some ⟨h.st, 0, none⟩) (by rw [add_mk]; exact hR2.self.cell 1) (nn_of (ldI_of (x := S.bad) (by rw [add_mk]; exact hR2.self.cell 12) ?_))
  refine cl_of ok42 (Arn.get42 hR2.ar (by have := hL.wd; show (words S.ar.cs).length ≤ _; omega) S.bad) fun e w3 ⟨v, he, hgot⟩ => ?_
  obtain ⟨cp, cc, cok, rfl, hO3, hcf, k3⟩ := got_get hgot
  refine ⟨cp, _, cc, cok, he, ?_⟩
  have k23 := k2d.then0 k3
  have hE3 : RdE w3 tp (entS S).length (entS S) := (hE2.keep0 (Keep.refl None w2).drew).keep0 k3
  refine cl_of ok43 (Learn.learn20 hE3 eel hL.rs (own_rdl hO3) hL.cf) fun e w4 ⟨v, he, hLn⟩ => ?_
  obtain ⟨u', back', gp, gn, gc, cl', rfl, hsp', hO4, hgf, k4⟩ := hLn
  obtain ⟨rfl, rfl, rfl⟩ := hL.sp.uniq hsp'
  refine ⟨gp, gn, gc, back, u, he, ?_⟩
  have k24 := k23.then0 k4
  have hR4 := hR1.keep0 k24
  have hgn := own_len hO4
  by_cases hcl : cl = []
  · have hgn0 : gn = 0 := by rw [← hgn, hcl]; rfl
    refine pif_t (by rw [hgn0]; rfl) (nn_of ?_)
    rw [add_mk, add_mk]
    refine st_of hR4.self (by simp) rfl fun w5 hB5 k5 z5 => ?_
    have hR5 := hR4.setSelf (hd := S.head) (r := S.rest) (c := false) (d := true) (x := S.bad) k5 hB5 z5
    refine nn_of ⟨_, by rw [add_mk]; exact hR5.self.cell 7, ?_⟩
    refine noteM hR5 (dr := false) (cs := []) ⟨rfl, fun i x hx => by simp at hx⟩ (Nat.zero_le _) hL.lg fun w6 hN => ⟨rfl, Or.inl ⟨hcl, rfl, ?_⟩⟩
    obtain ⟨o6, h6, r6, a6, k6, e6⟩ := hN
    refine ⟨o6, h6, r6, ?_, ?_, e6⟩
    · have := k24.size
      exact fun j hj => a6 j (by omega)
    · exact ((kk1.then0 k24).trans k5 fun j _ hh => mineb j hh).trans k6 fun j _ hh => by rcases hh with hh | hh | hh <;> (intro e; omega)
  · obtain ⟨hask, hs, hsne, hswi, hb0, hbl, hfr⟩ := hL.go hcl
    have hgn1 : ¬ (gn : Int) = 0 := by
      have := List.length_pos_iff.2 hcl
      omega
    refine pif_f (by simpa using hgn1) ?_
    have hE4 : RdE w4 tp (entS S).length (entS S) := hE3.keep0 k4
    have hrdc := own_rdl hO4
    have hcll := hL.cll
    refine cl_of ok44 (Learn.shrink16 hE4 eel hL.rs hrdc (by omega)) fun e w7 ⟨v, he, hSh⟩ => ?_
    obtain ⟨us, sp, sn, sc, L, rfl, hau, hO7, hsf, hLs, _, k7⟩ := hSh
    have hus := hau.unique hask
    have eL : L = s := by rw [hLs hus, hs]
    subst eL
    have hsl := own_len hO7
    subst hsl
    refine ⟨sp, L.length, sc, us, he, ?_⟩
    have k27 := k24.then0 k7
    have hR7 := hR1.keep0 k27
    have z27 := k27.size
    have hs9 : ∀ j, ob sp j → o j = -9 := fun j hj => hR.nrm j (by have := hsf j hj; have := k24.size; omega)
    have hsnew : ∀ j, ob sp j → w.heap.size ≤ j := fun j hj => by have := hsf j hj; have := k24.size; omega
    have hsll : L.length ≤ 1048576 := by
      have := Learn.shr_len (entS S) cl cl.length
      rw [hs]; omega
    refine nn_of ⟨_, by rw [add_mk]; exact hR7.self.cell 7, ?_⟩
    refine noteM hR7 (dr := false) (own_rdl hO7) (by omega) hL.lg fun w8 hN8 => ⟨rfl, ?_⟩
    obtain ⟨o8, h8, r8, a8, k8, e8, n8⟩ := hN8.nine (by intro hh; rcases hh with hh | hh | hh <;> omega)
    obtain ⟨hO8, hs8⟩ := n8 hO7 hs9
    have kk7 : Keep (fun i => tMine (o i)) w w7 := kk1.then0 k27
    have z17 : w.heap.size ≤ w7.heap.size := by omega
    have a08 : Ag w o o8 := fun j hj => a8 j (by omega)
    have kk8 := keep_nine (T := tNote) (o1 := o) (by intro hh; rcases hh with hh | hh | hh <;> omega) kk7 (Ag.refl _ _) k8
    have z8 := k8.size
    refine nn_of (ldP_of (x := some ⟨h8.st, 0, none⟩) (by rw [add_mk]; exact r8.self.cell 1) ?_)
    refine cl_of ok25 (putA r8 (own_rdl hO8) hO8.news (by omega) (fun j hj _ hh => by rw [hs8 j hj] at hh; exact absurd hh (by decide)) (fun x hx => wi_fl hnv (hswi x hx)) (by have := hL.wd; show (words S.ar.cs).length + _ + 1 ≤ _; omega) (by have := hL.ac; show S.ar.cs.length + 1 ≤ _; omega) true) fun e w9 ⟨he, hN9⟩ => ⟨_, _, he, ?_⟩
    obtain ⟨o9, h9, r9, a9, k9, e9, n9⟩ := hN9.nine (by decide)
    obtain ⟨hO9, hs9'⟩ := n9 hO8 hs8
    have z9 := k9.size
    have a09 : Ag w o o9 := a08.trans a9 (by omega)
    have kk9 := keep_nine (T := tAr) (by decide) kk8 a08 k9
    refine cl_of ok40 (clone40 (own_rdl hO9) (by omega)) fun e w10 ⟨v, he, kp, kc, hv, hO10, hkn, k10⟩ => ?_
    subst hv
    refine ⟨kp, L.length, kc, he, ?_⟩
    have z10 := k10.size
    refine alc_at fun b48 w11 hb48 hB11 k11 => ?_
    have z11 := k11.size
    have k911 := k10.then0 k11
    have r11 := r9.keep0 k911
    have hkl := hO10.lt
    obtain ⟨o11, h11, r11', t11, hbk, hbo, est, ebk⟩ := r11.addHeld (bb := b48) (x := (kp, L.length, kc)) (d := newHd S L) hB11 (r9.nrm b48 (by omega)) (own_rdl (hO10.keep0 k11)) (fun j hj => ⟨r9.nrm j (hkn j hj), by have := hkl j hj; omega, by have := hkl j hj; omega⟩)
      (fun i ids hi k hk => by
        obtain ⟨d, hd, _⟩ := hW.w1 i k ids hi hk
        exact (List.getElem?_eq_some_iff.1 hd).1) hW.sh hW.le
    have hbk : h11.hb S.H.length = b48 := hbk
    have a11 : Ag w9 o9 o11 := fun j hj => by
      rcases t11 j with h1 | h1 | h1
      · exact h1
      · omega
      · have := hkn j h1; omega
    have a0' : Ag w o o11 := a09.trans a11 (by omega)
    have hO11 := hO9.keep0 k911
    have hs11 : ∀ j, ob sp j → o11 j = -9 := fun j hj => by rw [a11 j (hO9.lt j hj)]; exact hs9' j hj
    have kk11 := kk9.then0 k911
    have hPL := pushLe r11' (k := S.H.length) (by have := hW.lel; exact this)
      (K := fun w14 => jn (σ := Unit) (fun k55 =>
        pif (decide ((L.length : Int) > 1)) (
          ixA sp L.length 0 1 fun p58 =>
          ldI .i64 (World.drew w14) p58 fun x59 =>
          (0 : Int) ≤ 1 ∧ 1 ≤ (L.length : Int) ∧
          Vc.cl Try.prog 45 [.slice (slA sp sc (Int.toNat 1) 1) (L.length - (Int.toNat 1)) (sc - (Int.toNat 1)), .func (.func 46) #[Pt b] #[]] (World.drew w14) fun e61 w16 => ∃ x60 : Int, e61 = Ending.returned (.int .i64 x60) ∧
          (
            ldI .i64 w16 p58 fun x62 =>
            ((.int .i64 x62 : Value) = .int .i64 x59)) ∧
          Vc.cl Try.prog 28 [Pt b, Pt b48, .int .i64 x59, .int .i64 x60] w16 fun e63 w17 => e63 = Ending.returned (.tuple #[]) ∧
          k55 (()) w17) (
          k55 (()) w14)) fun s56 w15 => match s56 with
      | (_) =>
      Vc.cl Try.prog 47 [Pt b, .int .i64 back] w15 fun e65 w18 => e65 = Ending.returned (.tuple #[]) ∧
      ixA sp L.length 0 1 fun p67 =>
      ldI .i64 w18 p67 fun x68 =>
      Vc.cl Try.prog 48 [Pt b, .int .i64 x68, Pt b48] w18 fun e69 w19 => e69 = Ending.returned (.tuple #[]) ∧
      ((cl = [] ∧ (Value.tuple #[.slice sp L.length sc, .int .i64 back, .int .i64 0]) = .tuple #[.slice none 0 0, I (-1), I 0] ∧ Nx tMine noEx w b o h (deadS S) w19) ∨
      (cl ≠ [] ∧ ∃ p c o' h', (Value.tuple #[.slice sp L.length sc, .int .i64 back, .int .i64 0]) = .tuple #[.slice p L.length c, I back, I 0] ∧ Own w19 3 1 p L.length c (L.map I) ∧ (∀ j, ob p j → w.heap.size ≤ j ∧ o' j = -9) ∧ Rp noEx w19 b o' h' (learnT S back L) ∧ Ag w o o' ∧ Keep (fun i => tMine (o i)) w w19)))
      fun w14 hN14 => ?_
    · rw [hbk] at hPL
      exact hPL
    obtain ⟨o14, h14, r14, a14, k14, e14, n14⟩ := hN14.nine (by intro hh; rcases hh with hh | hh <;> omega)
    obtain ⟨hO14, hs14⟩ := n14 hO11 hs11
    have z14 := k14.size
    have a014 : Ag w o o14 := a0'.trans a14 (by omega)
    have kk14 := keep_nine (T := tLe) (by intro hh; rcases hh with hh | hh <;> omega) kk11 a0' k14
    have hbk14 : h14.hb S.H.length = b48 := by rw [e14]; exact hbk
    have eS : ({ (putAr (noteS { S with head := S.head, rest := S.rest, clash := false, dead := S.dead, bad := S.bad } false L) L) with H := S.H ++ [newHd S L], learnts := S.learnts ++ [S.H.length] } : ES) = heldS S L := rfl
    have r14' : Rp noEx w14 b o14 h14 (heldS S L) := r14
    obtain ⟨x0, xs, exs⟩ : ∃ x0 xs, L = x0 :: xs := by
      cases L with
      | nil => exact absurd rfl hsne
      | cons x0 xs => exact ⟨x0, xs, rfl⟩
    have hx0 : L[0]? = some x0 := by rw [exs]; rfl
    have ehd : L.headD 0 = x0 := by rw [exs]; rfl
    have hdK : (heldS S L).H[S.H.length]? = some (newHd S L) := by
      show (S.H ++ [newHd S L])[S.H.length]? = _
      rw [List.getElem?_append_right (Nat.le_refl _), Nat.sub_self]; rfl
    have lpos : 0 < L.length := by rw [exs]; simp
    refine ⟨fun _ W => ∃ o1 h1, Rp noEx W b o1 h1 (eyesS S L) ∧ Own W 3 1 sp L.length sc (L.map I) ∧ (∀ j, ob sp j → o1 j = -9) ∧ Ag w o o1 ∧ Keep (fun i => tMine (o i)) w W ∧ h1.hb S.H.length = b48, ?_, ?_⟩
    · refine pif_of (fun hq => ?_) fun hq => ?_
      · have hq : 1 < L.length := by have : (1 : Int) < (L.length : Int) := by simpa using hq
                                     omega
        have kd : Keep None w14 w14.drew := (Keep.refl _ _).drew
        have rd := r14'.keep0 kd
        have hOd := hO14.keep0 kd
        have hRdd := own_rdl hOd
        refine hRdd.ix (i := 0) lpos fun a x hx ha => ldI_of ha ⟨by omega, by omega, ?_⟩
        have : x = x0 := by rw [hx0] at hx; injection hx with hx; exact hx.symm
        subst this
        have hdrop : RdL w14.drew (slA sp sc (Int.toNat 1) 1) (L.length - (Int.toNat 1)) (L.drop 1) := Lits.RdL.drop hRdd hq hO14.le.1
        have exs2 : L.drop 1 = xs := by rw [exs]; rfl
        have etl : L.tail = xs := by rw [exs]; rfl
        have hxsne : L.drop 1 ≠ [] := fun e => by
          have := congrArg List.length e
          rw [List.length_drop] at this; simp only [List.length_nil] at this; omega
        have hmx : maxL S (L.drop 1) ∈ L := (List.drop_sublist 1 L).subset (maxL_mem S hxsne)
        refine cl_of ok45 (max45 rd hdrop hxsne (by show L.length - 1 ≤ _; omega) fun y hy => wi_fl hnv (hswi y ((List.drop_sublist 1 L).subset hy))) fun e w16 ⟨he, k16⟩ => ⟨_, he, ldI_of (k16.cell ha fun h => h) rfl, ?_⟩
        have emx : maxL (heldS S L) (L.drop 1) = maxL S L.tail := by rw [exs2, etl]; rfl
        rw [emx]
        have r16 := rd.keep0 k16
        have hx0w : Wi S.nv x := hswi x (List.mem_of_getElem? hx0)
        have hmw : Wi S.nv (maxL S L.tail) := by rw [etl, ← exs2]; exact hswi _ hmx
        have h28 := watch28 r16 hdK (a := x) (c := maxL S L.tail) hx0w hmw (fun i ids hi => by have := hW.len (i := i) (ids := ids) hi; have := hW.cl; omega) (fun hh => hh) (fun hh => hh)
        rw [hbk14] at h28
        refine cl_of ok28 h28 fun e w17 ⟨he, hN17⟩ => ⟨he, ?_⟩
        have kd16 := kd.then0 k16
        obtain ⟨o17, h17, r17, a17, k17, e17, n17⟩ := hN17.nine (by intro hh; rcases hh with hh | hh | hh <;> omega)
        obtain ⟨hO17, hs17⟩ := n17 (hOd.keep0 k16) hs14
        have zz := kd16.size
        refine ⟨o17, h17, ?_, hO17, hs17, a014.trans a17 (by omega), keep_nine (T := tWat) (by intro hh; rcases hh with hh | hh | hh <;> omega) (kk14.then0 kd16) a014 k17, by rw [e17]; exact hbk14⟩
        have : eyesS S L = watchS (heldS S L) S.H.length (newHd S L) x (maxL S L.tail) := by unfold eyesS; rw [if_pos hq, ehd]
        rw [this]; exact r17
      · have hq : ¬ 1 < L.length := by have : ¬ (1 : Int) < (L.length : Int) := by simpa using hq
                                       omega
        have : eyesS S L = heldS S L := by unfold eyesS; rw [if_neg hq]
        exact ⟨o14, h14, by rw [this]; exact r14', hO14, hs14, a014, kk14, hbk14⟩
    rintro ⟨⟩ w15 ⟨o15, h15, r15, hO15, hs15, a15, kk15, hbk15⟩
    dsimp only
    have z15 := kk15.size
    have eyR : (eyesS S L).R = S.R ∧ (eyesS S L).L = S.L ∧ (eyesS S L).nv = S.nv ∧ (eyesS S L).H.length = S.H.length + 1 ∧ ∃ d, (eyesS S L).H[S.H.length]? = some d ∧ d.at_ = atN S := by
      have hl1 : (S.H ++ [newHd S L]).length = S.H.length + 1 := by rw [List.length_append]; rfl
      unfold eyesS
      split
      · refine ⟨rfl, rfl, rfl, by show ((S.H ++ [newHd S L]).set _ _).length = _; rw [List.length_set, hl1], _, List.getElem?_set_self (by show _ < (S.H ++ [newHd S L]).length; omega), rfl⟩
      · exact ⟨rfl, rfl, rfl, hl1, _, hdK, rfl⟩
    obtain ⟨q1, q2, q3, q4, dk, hdk, hdat⟩ := eyR
    refine cl_of ok47 (cut47 r15 hb0 (by rw [q2]; exact hbl)) fun e w18 ⟨he, hN18⟩ => ⟨he, ?_⟩
    obtain ⟨o18, h18, r18, a18, k18, e18, n18⟩ := hN18.nine (by intro hh; rcases hh with hh | hh | hh <;> omega)
    obtain ⟨hO18, hs18⟩ := n18 hO15 hs15
    have kk18 := keep_nine (T := tPutE) (by intro hh; rcases hh with hh | hh | hh <;> omega) kk15 a15 k18
    have a018 : Ag w o o18 := a15.trans a18 z15
    have z18 := k18.size
    refine (own_rdl hO18).ix (i := 0) lpos fun a x hx ha => ldI_of ha ?_
    have : x = x0 := by rw [hx0] at hx; injection hx with hx; exact hx.symm
    subst this
    have hx0w : Wi S.nv x := hswi x (List.mem_of_getElem? hx0)
    have hfree : freeA (cutS (eyesS S L) back).nv (cutS (eyesS S L) back).R x = 0 := by
      show freeA (eyesS S L).nv (upto back (eyesS S L).R) x = 0
      rw [q1, q3, ← ehd]; exact hfr
    have h48 := put48 r18 (k := S.H.length) (d := dk) hdk (by rw [hdat]; unfold atN; omega) (l := x) (by have := hx0w.2.1; omega) hfree
    rw [show h18.hb S.H.length = b48 by rw [e18]; exact hbk15] at h48
    refine cl_of ok48 h48 fun e w19 ⟨he, hN19⟩ => ⟨he, Or.inr ⟨hcl, ?_⟩⟩
    obtain ⟨o19, h19, r19, a19, k19, e19, n19⟩ := hN19.nine (by intro hh; rcases hh with hh | hh | hh <;> omega)
    obtain ⟨hO19, hs19⟩ := n19 hO18 hs18
    refine ⟨sp, sc, o19, h19, rfl, hO19, fun j hj => ⟨hsnew j hj, hs19 j hj⟩, ?_, a018.trans a19 (by omega), keep_nine (T := tPutE) (by intro hh; rcases hh with hh | hh | hh <;> omega) kk18 a018 k19⟩
    have : learnT S back L = putS (cutS (eyesS S L) back) x dk.at_ := by unfold learnT; rw [ehd, hdat]
    rw [this]; exact r19
end Go.Proofs.Ytmhjehodfggleaa.Eng

/- Slices in memory: one taken out; the same clause. -/
set_option linter.unusedVariables false
set_option linter.unusedSimpArgs false
set_option linter.unusedSectionVars false
set_option maxRecDepth 100000
namespace Go.Proofs.Ytmhjehodfggleaa.Eng
open Go Go.Proofs.Ytmhjehodfggleaa.Vc Go.Proofs.Ytmhjehodfggleaa.T
open Go.Proofs.Ytmhjehodfggleaa.Apart (RdL own_rdl wrap_nat getE own_len take_snoc Sl sv New LL)
open Go.Proofs.Ytmhjehodfggleaa.Lits (fl fl_iff Ans ans_of formedP idx idx_range idx_inj indexP Td)
open Go.Proofs.Ytmhjehodfggleaa.Arn (Ar AR words off cw Got)
open Go.Proofs.Ytmhjehodfggleaa.Trail (TI Tr St valA levA reaA ownB Moved TLaid above upto freeA implA Open ent)
open Go.Proofs.Ytmhjehodfggleaa.Learn (En RdE LSpec Askd shr Learnt Shrunk)

/-- appending where there is room -/
theorem app_room {P : Program} {w : World} {t ty e : TypeId} {sz B : Nat} {z : Value} {g : Nat} {n c : Nat} {xs : List Value} {a : Addr} {m mc : Nat} {news : List Value}
    {K : Option Addr → Nat → Nat → World → Prop}
    (ht : P.underlying t = some (.slice e)) (hi0 : (P.info? e).map (fun i => (i.zero, i.size, i.bytes)) = some (some z, sz, B))
    (hO : Own w e sz (some ⟨g, 0, none⟩) n c xs) (hl : news.length = m * sz) (hnews : ∀ j u, news[j]? = some u → w.cell? (a.add j) = some u) (h1 : ∀ u ∈ news, u.oneCell' = true) (hroom : n + m ≤ c)
    (hk : ∀ w', Own w' e sz (some ⟨g, 0, none⟩) (n + m) c (xs ++ news) → Keep (One g) w w' → K (some ⟨g, 0, none⟩) (n + m) c w') :
    ∃ (p' : Option Addr) (n' c' : Nat), ∃ w' : World, (Builtin.append_ #[t, t] ty #[.slice (some ⟨g, 0, none⟩) n c, .slice (some a) m mc]).run P w = .ok (.slice p' n' c') w' ∧ K p' n' c' w' := by
  obtain ⟨i, hi, hi'⟩ := Option.map_eq_some_iff.1 hi0
  simp only [Prod.mk.injEq] at hi'
  obtain ⟨hz, rfl, rfl⟩ := hi'
  have hlen0 := hO.len
  rcases hO with ⟨h, _⟩ | ⟨g', cs, hp, hB, hnc, hcm, hcs, rfl⟩
  · cases h
  cases hp
  have hxs : (cs.take (n * i.size)).length = n * i.size := hlen0
  have hle : (n + m) * i.size ≤ c * i.size := Nat.mul_le_mul_right _ hroom
  rw [Nat.add_mul] at hle
  have hfit : n * i.size + news.length ≤ cs.toArray.size := by rw [hl, List.size_toArray, hcs]; exact hle
  have hr := run_append_room (P := P) w t ty e i ht hi g n c cs.toArray hB a m mc news hl hnews h1 hroom hfit
  refine ⟨_, _, _, _, hr, hk _ (Or.inr ⟨g, cs.take (n * i.size) ++ news ++ cs.drop (n * i.size + news.length), rfl, setRow_heap w g cs.toArray _ e _ hB, hroom, hcm, ?_, ?_⟩) ⟨rfl, rfl, rfl, by simp, fun k _ hk' => setRow_other w g k _ (fun e => hk' e)⟩⟩
  · simp only [List.length_append, hxs, List.length_drop, hl]
    omega
  · have hlen : (cs.take (n * i.size) ++ news).length = (n + m) * i.size := by rw [List.length_append, hxs, hl, Nat.add_mul]
    rw [← hlen]
    exact List.take_left
/-- places behind the end made nothing -/
theorem clearH {w : World} {xs : List Value} {k m n c cc : Nat} {b : Nat} {K : World → Prop} (h : Own w 68 1 (some ⟨b, 0, none⟩) k c xs) (hm : k + m ≤ c) {ty : TypeId}
    (hK : ∀ w', Own w' 68 1 (some ⟨b, 0, none⟩) k c xs → Keep (One b) w w' → K w') :
    ∃ w' : World, (Builtin.clear_ #[59] ty #[.slice (some ⟨b, k, none⟩) m cc]).run Try.prog w = .ok (.tuple #[]) w' ∧ K w' := by
  rcases h with ⟨h, _⟩ | ⟨b', cs, hp, hB, h1, h2, h3, rfl⟩
  · cases h
  cases hp
  have hz : ∀ w, (zeroValue 68).run Try.prog w = .ok (.pointer none) w := fun w => zeroT_spec (by kernel_rfl) w
  by_cases hm0 : m = 0
  · subst hm0
    exact ⟨w, by simp [Builtin.clear_, run_underlying Try.underlying59], hK w (Or.inr ⟨b, cs, rfl, hB, h1, h2, h3, rfl⟩) (Keep.refl _ _)⟩
  refine ⟨_, Lib.run_clear_slice w 59 68 ty (.pointer none) Try.underlying59 hz rfl rfl b k m cc (by omega) (fun j hj => ?_) (fun j hj => hB.frozen _), ?_⟩
  · rw [hB.cell, List.getElem?_eq_getElem (by omega)]; rfl
  · obtain ⟨cs', q1, q2, q3, q4⟩ := Lits.setCells_blk (List.replicate m (.pointer none)) b k w cs hB
    refine hK _ (Or.inr ⟨b, cs', rfl, q1, by omega, h2, by omega, ?_⟩) q4
    rw [Nat.mul_one, q3]
/-- one taken out of the learnt ones -/
theorem delete39 {w : World} {p : Option Addr} {n c : Nat} {f : Nat → Value} {ks : List Nat} (hf : ∀ k, (f k).oneCell' = true) (hO : Own w 68 1 p n c (ks.map f)) {i : Nat} (hi : i < n) (hn : n ≤ 17592186044416) :
    Calls Try.prog 39 #[.slice p n c, I i, I ((i : Int) + 1)] w fun e w' => e = .returned (.slice p (n - 1) c) ∧ Own w' 68 1 p (n - 1) c ((ks.eraseIdx i).map f) ∧ Keep (ob p) w w' := by
  refine (V39_calls p n c i ((i : Int) + 1) w (fun v w' => v = .slice p (n - 1) c ∧ Own w' 68 1 p (n - 1) c ((ks.eraseIdx i).map f) ∧ Keep (ob p) w w') ?_).mono fun e w' ⟨v, he, hv, hk⟩ => ⟨by rw [he, hv], hk⟩
  unfold V39
  have hle := hO.le
  have hkl : ks.length = n := by have := hO.len; simpa using this
  refine ⟨by omega, by omega, by omega, by omega, by omega, by omega, pif_f ?_ ⟨by omega, by omega, by omega, by omega, ?_⟩⟩
  · have : ¬ (i : Int) = (i : Int) + 1 := by omega
    simpa using this
  have kd : Keep None w w.drew := (Keep.refl _ _).drew
  have hO' := hO
  rcases hO with ⟨_, h0, _, _⟩ | ⟨g, cs, rfl, hB, h1, h2, h3, h4⟩
  · omega
  have hOd := hO'.keep0 kd
  have hcut := hOd.cut (m := i) (by omega)
  have e1 : Int.toNat ((i : Int) + 1) = i + 1 := by omega
  rw [Lits.slA_zero, Int.toNat_natCast, Nat.sub_zero, Nat.sub_zero, e1]
  have hsl : ∃ a, slA (some (⟨g, 0, none⟩ : Addr)) c (i + 1) 1 = some a ∧ ∀ j u, ((ks.map f).drop (i + 1))[j]? = some u → w.drew.cell? (a.add j) = some u := by
    unfold slA
    split
    · rename_i hc
      refine ⟨_, rfl, fun j u hu => ?_⟩
      have := (List.getElem?_eq_some_iff.1 hu).1
      rw [List.length_drop, List.length_map] at this
      omega
    · refine ⟨_, rfl, fun j u hu => ?_⟩
      rw [List.getElem?_drop] at hu
      show w.drew.cell? (((⟨g, 0, none⟩ : Addr).add ((i + 1) * 1)).add j) = _
      rw [add_mk, add_mk, Nat.mul_one, Nat.zero_add]
      have hj := (List.getElem?_eq_some_iff.1 hu).1
      rw [List.length_map] at hj
      rw [hOd.cell _ (by omega)]
      exact hu
  obtain ⟨a, ha, hcells⟩ := hsl
  rw [ha]
  refine app_room (e := 68) (sz := 1) (z := .pointer none) (B := 8) Try.underlying59 (by kernel_rfl) hcut (news := (ks.map f).drop (i + 1)) (by rw [List.length_drop, List.length_map]; omega) hcells (fun u hu => ?_) (by omega) fun w1 hO1 k1 => ?_
  · obtain ⟨k, _, rfl⟩ := List.mem_map.1 (List.mem_of_mem_drop hu)
    exact hf k
  have en : i + (n - (i + 1)) = n - 1 := by omega
  rw [en] at hO1 ⊢
  refine ⟨by omega, by omega, by omega, by omega, ?_⟩
  have exs : (ks.map f).take (i * 1) ++ (ks.map f).drop (i + 1) = (ks.eraseIdx i).map f := by
    rw [Nat.mul_one, List.eraseIdx_eq_take_drop_succ, List.map_append, List.map_take, List.map_drop]
  rw [exs] at hO1
  have es2 : slA (some (⟨g, 0, none⟩ : Addr)) c (Int.toNat ((n - 1 : Nat) : Int)) 1 = some ⟨g, n - 1, none⟩ := by
    rw [Int.toNat_natCast]
    unfold slA
    rw [if_neg (by omega)]
    simp [add_mk]
  rw [es2, Int.toNat_natCast, Int.toNat_natCast]
  refine clearH hO1 (n := n) (by omega) fun w2 hO2 k2 => ⟨rfl, hO2, ?_⟩
  exact (kd.none.trans k1 fun j _ hj => ⟨_, rfl, (show j = g from hj).symm⟩).trans k2 fun j _ hj => ⟨_, rfl, (show j = g from hj).symm⟩
section
variable {w : World} {p q : Option Addr} {n m c d : Nat} {xs ys : List Int}
theorem equal51 (hX : RdL w p n xs) (hY : RdL w q m ys) (hn : n ≤ 17592186044416) :
    Calls Try.prog 51 #[.slice p n c, .slice q m d] w fun e w' => e = .returned (.bool (decide (xs = ys))) ∧ Keep None w w' := by
  refine (V51_calls p n c q m d w (fun v w' => v = .bool (decide (xs = ys)) ∧ Keep None w w') ?_).mono fun e w' ⟨v, he, hv, hk⟩ => ⟨by rw [he, hv], hk⟩
  unfold V51
  have hx := hX.len
  have hy := hY.len
  refine pif_of (fun hq => ?_) fun hq => ?_
  · have hq : ¬ n = m := by have : ¬ (n : Int) = (m : Int) := by simpa using hq
                            omega
    refine ⟨?_, Keep.refl _ _⟩
    rw [decide_eq_false fun e => hq (by rw [← hx, ← hy, e])]
  have hq : n = m := by have : (n : Int) = (m : Int) := by simpa using hq
                        omega
  subst hq
  refine lp_of (fun s W => ∃ i : Nat, s.1 = (i : Int) ∧ i ≤ n ∧ xs.take i = ys.take i ∧ Keep None w W) (fun s _ => (n - s.1).toNat) ⟨0, rfl, Nat.zero_le _, rfl, Keep.refl _ _⟩ ?_
  rintro ⟨i', ⟨⟩⟩ W ⟨i, rfl, hi, ht, kW⟩
  dsimp only
  refine pif_of (fun hlt => ?_) fun hge => ?_
  · have hlt : i < n := by simpa using hlt
    rw [wrap_nat i (by omega)]
    have kd := kW.drew
    refine (hX.keep kd fun _ _ h => h).ix hlt fun a x hx ha => ldI_of ha ?_
    refine (hY.keep kd fun _ _ h => h).ix hlt fun a' y hy ha' => ldI_of ha' ?_
    refine pif_of (fun hq => ?_) fun hq => ?_
    · have hq : ¬ x = y := by simpa using hq
      refine ⟨?_, kd⟩
      rw [decide_eq_false fun e => hq (by rw [e, hy] at hx; injection hx with hx; exact hx.symm)]
    · have hq : x = y := by simpa using hq
      exact ⟨⟨i + 1, rfl, hlt, by rw [take_snoc hx, take_snoc hy, ht, hq], kd⟩, by omega⟩
  · have hge : i = n := by have : ¬ (i : Int) < (n : Int) := by simpa using hge
                           omega
    subst hge
    have h1 : xs.take i = xs := by rw [← hx, List.take_length]
    have h2 : ys.take i = ys := by rw [← hy, List.take_length]
    rw [h1, h2] at ht
    exact ⟨by rw [decide_eq_true ht], kW⟩
/-- the same clause, as a set -/
def sameB (xs ys : List Int) : Bool := (xs.all fl && ys.all fl) && (xs.all (fun x => decide (x ∈ ys)) && ys.all (fun x => decide (x ∈ xs)))
theorem same17 (hX : RdL w p n xs) (hY : RdL w q m ys) (hn : n ≤ 17592186044416) (hm : m ≤ 17592186044416) :
    Calls Try.prog 17 #[.slice p n c, .slice q m d] w fun e w' => e = .returned (.bool (sameB xs ys)) ∧ Keep None w w' := by
  refine (V17_calls p n c q m d w (fun v w' => v = .bool (sameB xs ys) ∧ Keep None w w') ?_).mono fun e w' ⟨v, he, hv, hk⟩ => ⟨by rw [he, hv], hk⟩
  unfold V17
  refine cl_of ok50 (Arn.sound50 hX hn) fun e w1 ⟨r, he, hr, k1⟩ => ⟨r, he, ?_⟩
  have all_of : ∀ {zs : List Int} {r : Bool}, (r = true ↔ ∀ x ∈ zs, fl x = true) → zs.all fl = r := fun {zs r} h => by
    cases r with
    | true => exact List.all_eq_true.2 (h.1 rfl)
    | false =>
      cases ha : zs.all fl with
      | false => rfl
      | true => exact absurd (h.2 (List.all_eq_true.1 ha)) (by decide)
  have ex := all_of hr
  cases r with
  | false =>
    refine gd_f rfl (gd_f rfl (gd_f rfl (gd_f rfl ⟨?_, k1⟩)))
    unfold sameB; rw [ex]; rfl
  | true =>
    refine gd_t rfl (cl_of ok50 (Arn.sound50 (hY.keep k1 fun _ _ h => h) hm) fun e w2 ⟨r2, he, hr2, k2⟩ => ⟨r2, he, ?_⟩)
    have ey := all_of hr2
    have k12 := k1.then0 k2
    cases r2 with
    | false =>
      refine gd_f rfl (gd_f rfl (gd_f rfl ⟨?_, k12⟩))
      unfold sameB; rw [ex, ey]; rfl
    | true =>
      refine gd_t rfl (cl_of ok27 (Lits.tidyP (hX.keep k12 fun _ _ h => h) hn) fun e w3 ⟨v, L1, he, hT1, p1, c1, hv, hO1, hn1, k3⟩ => ?_)
      subst hv
      refine ⟨p1, L1.length, c1, he, ?_⟩
      have k13 := k12.then0 k3
      refine gd_t rfl (cl_of ok27 (Lits.tidyP (hY.keep k13 fun _ _ h => h) hm) fun e w4 ⟨v, L2, he, hT2, p2, c2, hv, hO2, hn2, k4⟩ => ?_)
      subst hv
      refine ⟨p2, L2.length, c2, he, ?_⟩
      have k14 := k13.then0 k4
      have hl1 := hT1.len
      refine gd_t rfl (cl_of ok51 (equal51 ((own_rdl hO1).keep k4 fun _ _ h => h) (own_rdl hO2) (by show L1.length ≤ _; omega)) fun e w5 ⟨he, k5⟩ => ⟨_, he, ?_, k14.then0 k5⟩)
      have fx := hr.1 rfl
      have fy := hr2.1 rfl
      have key : decide (L1 = L2) = (xs.all (fun x => decide (x ∈ ys)) && ys.all (fun x => decide (x ∈ xs))) := by
        rw [Bool.eq_iff_iff, decide_eq_true_iff, Bool.and_eq_true, List.all_eq_true, List.all_eq_true]
        constructor
        · intro e
          refine ⟨fun x hx => decide_eq_true ?_, fun x hx => decide_eq_true ?_⟩
          · have := (hT1.mem x).2 ⟨hx, fx x hx⟩
            rw [e] at this
            exact ((hT2.mem x).1 this).1
          · have := (hT2.mem x).2 ⟨hx, fy x hx⟩
            rw [← e] at this
            exact ((hT1.mem x).1 this).1
        · rintro ⟨h1, h2⟩
          exact hT1.uniq hT2 fun x _ => ⟨fun hx => of_decide_eq_true (h1 x hx), fun hx => of_decide_eq_true (h2 x hx)⟩
      show Value.bool (cond (cond true true false) (decide (L1 = L2)) false) = .bool (sameB xs ys)
      unfold sameB
      rw [ex, ey, key]
      rfl
end
end Go.Proofs.Ytmhjehodfggleaa.Eng

/- An Engine in memory: a learnt clause forgotten. -/
set_option linter.unusedVariables false
set_option linter.unusedSimpArgs false
set_option linter.unusedSectionVars false
set_option maxRecDepth 100000
namespace Go.Proofs.Ytmhjehodfggleaa.Eng
open Go Go.Proofs.Ytmhjehodfggleaa.Vc Go.Proofs.Ytmhjehodfggleaa.T
open Go.Proofs.Ytmhjehodfggleaa.Apart (RdL own_rdl wrap_nat getE own_len take_snoc Sl sv New LL)
open Go.Proofs.Ytmhjehodfggleaa.Lits (fl fl_iff Ans ans_of formedP idx idx_range idx_inj indexP Td)
open Go.Proofs.Ytmhjehodfggleaa.Arn (Ar AR words off cw Got)
open Go.Proofs.Ytmhjehodfggleaa.Trail (TI Tr St valA levA reaA ownB Moved TLaid above upto freeA implA Open ent)
open Go.Proofs.Ytmhjehodfggleaa.Learn (En RdE LSpec Askd shr Learnt Shrunk)

def rsB (ls : List Int) (x : En) : Bool := decide (0 < x.rs.length) && sameB x.rs ls
theorem reason66 {w : World} {b2 hb : Nat} {t : TypeId} {x : Sl} {a e0 e1 : Int} {gone : Bool} {ls rs : List Int} {lit lev : Int} {q : Option Addr} {rn rc : Nat} (hB2 : Blk w b2 [Pt hb] t) (hBh : Blk w hb [I a, sv x, I e0, I e1, .bool gone] 71) (hC : RdL w x.1 x.2.1 ls) (hE : RdL w q rn rs) (hl : ls.length ≤ 1099511627776) (hr : rs.length ≤ 1099511627776) :
    Calls Try.prog 66 #[.agg #[I lit, I lev, .slice q rn rc], Pt b2] w fun e w' => e = .returned (.bool (rsB ls ⟨lit, lev, rs⟩)) ∧ Keep None w w' := by
  refine (V66_calls lit lev q rn rc ⟨b2, 0, none⟩ w (fun v w' => v = .bool (rsB ls ⟨lit, lev, rs⟩) ∧ Keep None w w') ?_).mono fun e w' ⟨v, he, hv, hk⟩ => ⟨by rw [he, hv], hk⟩
  unfold V66
  have hcl := hC.len
  have hel := hE.len
  refine alc_at fun b w1 hb' hB1 k1 => ?_
  have k1d := k1.drew
  have hB1d : Blk w1.drew b _ 120 := hB1.keep0 (Keep.refl None w1).drew
  have c2 : ∀ {K : Option Addr → Nat → Nat → Prop}, K q rn rc → ldC w1.drew ((⟨b, 0, none⟩ : Addr).add 2) K := fun hK => by
    rw [add_mk]; exact ldC_of (hB1d.cell 2) hK
  refine c2 ?_
  by_cases hpos : 0 < rn
  · have hd : decide ((rn : Int) > 0) = true := decide_eq_true (by omega)
    rw [hd]
    refine gd_t rfl (c2 (gd_t rfl (ldP_of (x := some ⟨hb, 0, none⟩) ((hB2.keep0 k1d).cell 0) (gd_t rfl (nn_of (gd_t rfl ?_))))))
    refine ldC_of (x := x.1) (n := x.2.1) (c := x.2.2) (by rw [add_mk]; exact (hBh.keep0 k1d).cell 1) (gd_t rfl ?_)
    refine cl_of ok17 (same17 (hE.keep k1d fun _ _ h => h) (hC.keep k1d fun _ _ h => h) (by show rn ≤ _; omega) (by show x.2.1 ≤ _; omega)) fun e w2 ⟨he, k2⟩ => ⟨_, he, ?_, k1d.then0 k2⟩
    unfold rsB
    rw [decide_eq_true (by show 0 < rs.length; omega)]
    rfl
  · have hd : decide ((rn : Int) > 0) = false := decide_eq_false (by omega)
    rw [hd]
    refine gd_f rfl (gd_f rfl (gd_f rfl (gd_f rfl (gd_f rfl ⟨?_, k1d⟩))))
    unfold rsB
    rw [decide_eq_false (by show ¬ 0 < rs.length; omega)]
    rfl
def reasonB (S : ES) (d : Hd) : Bool := (entS S).any (rsB d.ls)
section
variable {ex : Nat → Prop} {w : World} {b : Nat} {o : Nat → Int} {h : Hs} {S : ES}
theorem reason36 (hR : Rp ex w b o h S) {k : Nat} {d : Hd} (hd : S.H[k]? = some d) (hdl : d.ls.length ≤ 1099511627776) (hrs : ∀ x ∈ entS S, x.rs.length ≤ 1048576) (hw : (words S.ar.cs).length ≤ 17592186044416) :
    Calls Try.prog 36 #[Pt b, Pt (h.hb k)] w fun e w' => e = .returned (.bool (reasonB S d)) ∧ Keep None w w' := by
  refine (V36_calls (some ⟨b, 0, none⟩) (some ⟨h.hb k, 0, none⟩) w (fun v w' => v = .bool (reasonB S d) ∧ Keep None w w') ?_).mono fun e w' ⟨v, he, hv, hk⟩ => ⟨by rw [he, hv], hk⟩
  unfold V36
  refine alc_at fun b2 w1 hb2 hB2 k1 => ?_
  have hR1 := hR.keep0 k1
  refine cl_of ok41 (entries41 hR1 hw) fun e w2 ⟨tp, tc, he, hE2, hEf, k2⟩ => ⟨tp, _, tc, he, ?_⟩
  have k12 := k1.then0 k2
  have hR2 := hR.keep0 k12
  have hB22 := hB2.keep0 k2
  obtain ⟨hBh, _, hC, _⟩ := hR2.held k d hd
  have hsm := hR.tr.small
  have eel : (entS S).length ≤ 1048576 := by unfold entS; rw [List.length_map]; omega
  have hidx : Calls Try.prog 84 #[.slice tp (entS S).length tc, .func (.func 66) #[] #[Pt b2]] w2 fun e w' => ∃ v : Int, e = .returned (I v) ∧ decide (v ≥ 0) = reasonB S d ∧ Keep None w2 w' := by
    refine (V84_calls tp (entS S).length tc (.func (.func 66) #[] #[Pt b2]) w2 (fun v w' => ∃ x : Int, v = I x ∧ decide (x ≥ 0) = reasonB S d ∧ Keep None w2 w') ?_).mono fun e w' ⟨v, he, x, hv, hk⟩ => ⟨x, by rw [he, hv], hk⟩
    unfold V84
    refine lp_of (fun s W => ∃ i : Nat, s.1 = (i : Int) ∧ i ≤ (entS S).length ∧ ((entS S).take i).any (rsB d.ls) = false ∧ Keep None w2 W) (fun s _ => ((entS S).length - s.1).toNat) ⟨0, rfl, Nat.zero_le _, rfl, Keep.refl _ _⟩ ?_
    rintro ⟨i', ⟨⟩⟩ W ⟨i, rfl, hi, ht, kW⟩
    dsimp only
    refine pif_of (fun hlt => ?_) fun hge => ?_
    · have hlt : i < (entS S).length := by simpa using hlt
      rw [wrap_nat i (by omega)]
      obtain ⟨x, hx⟩ := getE hlt
      refine (hE2.keep0 kW).ix hx fun a ⟨q, rn, rc, c0, c1, c2, hr⟩ => ldI_of c0 (ldI_of c1 (ldC_of c2 (Learn.clF_of ?_)))
      have hxr := hrs x (List.mem_of_getElem? hx)
      refine cl_of ok66 (reason66 (lit := x.lit) (lev := x.lev) (rc := rc) (hB22.keep0 kW) (hBh.keep0 kW) (hC.keep kW fun _ _ h => h) hr hdl (by omega)) fun e w4 ⟨he, k4⟩ => ⟨_, he, ?_⟩
      have kk := kW.then0 k4
      refine pif_of (fun hq => ⟨i, rfl, ?_, kk⟩) fun hq => ⟨⟨i + 1, rfl, hlt, ?_, kk⟩, by omega⟩
      · rw [decide_eq_true (by omega)]
        exact (List.any_eq_true.2 ⟨x, List.mem_of_getElem? hx, hq⟩).symm
      · rw [take_snocN hx, List.any_append, ht]
        simpa using hq
    · have hge : i = (entS S).length := by
        have : ¬ (i : Int) < ((entS S).length : Int) := by simpa using hge
        omega
      subst hge
      rw [List.take_length] at ht
      exact ⟨-1, rfl, by unfold reasonB; rw [ht]; rfl, kW⟩
  refine cl_of ok65 (R' := fun e w' => e = .returned (.bool (reasonB S d)) ∧ Keep None w2 w') ?_ fun e w3 ⟨he, k3⟩ => ⟨_, he, rfl, k12.then0 k3⟩
  refine (V65_calls tp (entS S).length tc (.func (.func 66) #[] #[Pt b2]) w2 (fun v w' => v = .bool (reasonB S d) ∧ Keep None w2 w') ?_).mono fun e w' ⟨v, he, hv, hk⟩ => ⟨by rw [he, hv], hk⟩
  unfold V65
  exact cl_of ok84 hidx fun e w3 ⟨v, he, hv, k3⟩ => ⟨v, he, by rw [hv], k3⟩
/-- one literal true on level 0, each other one false there -/
def decidedB (S : ES) (d : Hd) : Bool := d.ls.all (fun l => decide (lvx S l = 0)) && decide ((d.ls.filter fun l => decide (0 < vl S l)).length = 1)
theorem decided37 (hR : Rp ex w b o h S) {k : Nat} {d : Hd} (hd : S.H[k]? = some d) (hdl : d.ls.length ≤ 1099511627776) (hf : ∀ x ∈ d.ls, fl x = true) :
    Calls Try.prog 37 #[Pt b, Pt (h.hb k)] w fun e w' => e = .returned (.bool (decidedB S d)) ∧ Keep None w w' := by
  refine (V37_calls (some ⟨b, 0, none⟩) (some ⟨h.hb k, 0, none⟩) w (fun v w' => v = .bool (decidedB S d) ∧ Keep None w w') ?_).mono fun e w' ⟨v, he, hv, hk⟩ => ⟨by rw [he, hv], hk⟩
  unfold V37
  obtain ⟨hB, _, hC, _⟩ := hR.held k d hd
  have hcl := hC.len
  refine nn_of (ldC_of (x := (h.hl k).1) (n := (h.hl k).2.1) (c := (h.hl k).2.2) (by rw [add_mk]; exact hB.cell 1) ?_)
  refine lp_of (fun s W => ∃ i : Nat, s.2.1 = (i : Int) ∧ i ≤ d.ls.length ∧ s.1 = (((d.ls.take i).filter fun l => decide (0 < vl S l)).length : Nat) ∧ (d.ls.take i).all (fun l => decide (lvx S l = 0)) = true ∧ Keep None w W) (fun s _ => (d.ls.length - s.2.1).toNat) ⟨0, rfl, Nat.zero_le _, rfl, rfl, Keep.refl _ _⟩ ?_
  rintro ⟨cnt, i', ⟨⟩⟩ W ⟨i, rfl, hi, hcnt, ha, kW⟩
  dsimp only at hcnt ⊢
  subst hcnt
  refine pif_of (fun hlt => ?_) fun hge => ?_
  · have hlt : i < d.ls.length := by
      have : (i : Int) < ((h.hl k).2.1 : Int) := by simpa using hlt
      omega
    rw [wrap_nat i (by omega)]
    obtain ⟨x, hx⟩ := getE hlt
    have hxf := fl_iff.1 (hf x (List.mem_of_getElem? hx))
    have hcl2 : ((d.ls.take i).filter fun l => decide (0 < vl S l)).length ≤ d.ls.length := Nat.le_trans (List.length_filter_le _ _) (by rw [List.length_take]; omega)
    refine ⟨fun s W' => s.1 = (((d.ls.take (i + 1)).filter fun l => decide (0 < vl S l)).length : Nat) ∧ (d.ls.take (i + 1)).all (fun l => decide (lvx S l = 0)) = true ∧ Keep None w W', ?_, ?_⟩
    · have kd := kW.drew
      have hRW := hR.keep0 kd
      refine (hC.keep kW fun _ _ h => h).ix (by omega) fun a y hy ha' => ldI_of ha' ?_
      have : y = x := by rw [hx] at hy; injection hy with hy; exact hy.symm
      subst this
      have c2 : ∀ {V : World}, Rp ex V b o h S → ∀ {K : Option Addr → Prop}, K (some ⟨h.T.t, 0, none⟩) → ldP V ((⟨b, 0, none⟩ : Addr).add 2) K := fun {V} hRV {K} hK => by
        rw [add_mk]; exact ldP_of (hRV.self.cell 2) hK
      refine nn_of (c2 hRW ?_)
      refine cl_of ok30 (Trail.var52 y _ (by omega)) fun e w3 ⟨he, hw3⟩ => ⟨_, he, ?_⟩
      subst hw3
      have ev : (if 1 ≤ y.natAbs ∧ y.natAbs ≤ 1048576 then (y.natAbs : Int) else 0) = y.natAbs := if_pos ⟨by omega, by omega⟩
      rw [ev]
      refine ⟨c2 hRW rfl, cl_of ok67 (hRW.tr.levelOf _ (by omega)) fun e w4 ⟨he, k4⟩ => ⟨_, he, ?_⟩⟩
      have k04 := kd.then0 k4
      have elv : levA S.nv S.R (y.natAbs : Int) = lvx S y := rfl
      rw [elv]
      refine pif_of (fun hq => ?_) fun hq => ?_
      · have hq : ¬ lvx S y = 0 := by simpa using hq
        refine ⟨?_, k04⟩
        have : d.ls.all (fun l => decide (lvx S l = 0)) = false := by
          rw [List.all_eq_false]
          exact ⟨y, List.mem_of_getElem? hx, by simpa using hq⟩
        unfold decidedB; rw [this]; rfl
      · have hq : lvx S y = 0 := by simpa using hq
        have hall : (d.ls.take (i + 1)).all (fun l => decide (lvx S l = 0)) = true := by
          rw [take_snocN hx, List.all_append, ha]; simpa using hq
        have hR4 := hR.keep0 k04
        refine hR4.trAt (hR4.val (by omega) fun w5 k5 => ⟨_, rfl, ?_⟩)
        have k05 := k04.then0 k5
        refine pif_of (fun hv => ⟨?_, hall, k05⟩) fun hv => ⟨?_, hall, k05⟩
        · have hv : 0 < vl S y := by simpa using hv
          rw [take_snocN hx, List.filter_append, List.length_append, List.filter_cons, if_pos (decide_eq_true hv)]
          exact wrap_nat _ (by omega)
        · have hv : ¬ 0 < vl S y := by simpa using hv
          rw [take_snocN hx, List.filter_append, List.length_append, List.filter_cons, if_neg (by simpa using hv)]
          rfl
    · rintro ⟨c', ⟨⟩⟩ W' ⟨h1, h2, h3⟩
      exact ⟨⟨i + 1, rfl, hlt, h1, h2, h3⟩, by omega⟩
  · have hge : i = d.ls.length := by
      have : ¬ (i : Int) < ((h.hl k).2.1 : Int) := by simpa using hge
      omega
    subst hge
    rw [List.take_length] at ha ⊢
    refine ⟨?_, kW⟩
    unfold decidedB
    rw [ha, Bool.true_and]
    congr 1
    rw [Bool.eq_iff_iff, beq_iff_eq, decide_eq_true_iff]
    omega
end
end Go.Proofs.Ytmhjehodfggleaa.Eng
