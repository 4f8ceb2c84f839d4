/- Watch, in plain: the invariant while clauses are gone through. -/
import Derived.Test.YtjpblaenebodlaaMWG
set_option linter.unusedVariables false
set_option linter.unusedSimpArgs false
set_option linter.unusedSectionVars false
set_option maxRecDepth 100000
namespace Go.Proofs.Ytjpblaenebodlaa.Wt
open Go Go.Proofs.Ytjpblaenebodlaa.Vc

section
variable {C : List (List Int)} {S : WS} {hd0 sz0 : Nat} {pend pend' : Nat → Int → Prop}
/-- fewer watches to be seen to -/
theorem Iv.pendTo (h : Iv C S hd0 sz0 pend) (hp : ∀ h' a, pend h' a → pend' h' a ∨ ∀ L u v, S.H h' = some (L, u, v) → u ≠ v → ∀ b : Int, (a = u ∧ b = v ∨ a = v ∧ b = u) → ∀ p : Nat, S.tr[p]? = some (-a) → p < S.hd → ∃ q, S.tr[q]? = some b ∧ Lq S.st p q ∧ (p < hd0 → q < sz0)) : Iv C S hd0 sz0 pend' :=
  ⟨h.wf, h.hdl, h.st0, h.hd0l, h.sz0g, h.sz0l, h.w1, h.w3, fun i h' L u v hi hH a b hab p hp1 hp2 => by
    rcases h.w4 i h' L u v hi hH a b hab p hp1 hp2 with hq | hq
    · rcases hp h' a hq with hq' | hq'
      · exact Or.inl hq'
      · obtain ⟨L', u', v', hH', _, _, hne, _⟩ := h.w1 i h' hi
        rw [hH] at hH'
        simp only [Option.some.injEq, Prod.mk.injEq] at hH'
        obtain ⟨rfl, rfl, rfl⟩ := hH'
        exact Or.inr (hq' L u v hH hne b hab p hp1 hp2)
    · exact Or.inr hq, h.dm, h.cov, h.src, h.cl, h.lop⟩
/-- a literal more is known -/
theorem Iv.put (h : Iv C S hd0 sz0 pend) {l : Int} (hl : Wi S.nv l) (hn : lv S.tr l = 0) : Iv C { S with tr := S.tr ++ [l] } hd0 sz0 pend := by
  have hc := cons_put h.wf.cons hn hl.1
  have hnd : (S.tr ++ [l]).Nodup := List.nodup_append.2 ⟨h.wf.nd, by simp, fun x hx y hy => by
    rw [List.mem_singleton.1 hy]
    rintro rfl
    exact (lv_nil.1 hn).1 hx⟩
  have hw : ∀ x ∈ S.tr ++ [l], Wi S.nv x := fun x hx => by
    rcases List.mem_append.1 hx with hx | hx
    · exact h.wf.wi x hx
    · rw [List.mem_singleton.1 hx]; exact hl
  have htl := tr_le hc hnd hw
  have hnv := h.wf.nvb
  have hdl := h.hdl
  have old : ∀ {p : Nat} {x : Int}, S.tr[p]? = some x → (S.tr ++ [l])[p]? = some x := fun {p x} hp => by
    rw [List.getElem?_append_left (List.getElem?_eq_some_iff.1 hp).1]; exact hp
  refine ⟨⟨hnv, hc, hnd, hw, by show (S.tr ++ [l]).length ≤ _; omega, h.wf.hel, h.wf.lsl, h.wf.lol⟩, by show S.hd ≤ (S.tr ++ [l]).length; simp; omega, h.st0, h.hd0l, h.sz0g, by show sz0 ≤ (S.tr ++ [l]).length; have := h.sz0l; simp; omega, h.w1, h.w3,
    fun i h' L u v hi hH a b hab p hp1 hp2 => ?_, h.dm, fun c hc => ?_, h.src, h.cl, h.lop⟩
  · have hp2' : p < S.hd := hp2
    have hp1' : (S.tr ++ [l])[p]? = some (-a) := hp1
    rw [List.getElem?_append_left (by omega)] at hp1'
    rcases h.w4 i h' L u v hi hH a b hab p hp1' hp2' with hq | ⟨q, hq1, hq2⟩
    · exact Or.inl hq
    · exact Or.inr ⟨q, old hq1, hq2⟩
  · rcases h.cov c hc with hq | hq | ⟨x, hx, q, hq1, hq2⟩
    · exact Or.inl hq
    · exact Or.inr (Or.inl hq)
    · exact Or.inr (Or.inr ⟨x, hx, q, old hq1, hq2⟩)
/-- a list in another order -/
theorem Iv.perm {i : Nat} {A B : List Nat} (h : Iv C { S with ls := S.ls.set i A } hd0 sz0 pend) (hi : i < S.ls.length) (hp : A.Perm B) : Iv C { S with ls := S.ls.set i B } hd0 sz0 pend := by
  have hh : ∀ j h', hIn (S.ls.set i B) j h' ↔ hIn (S.ls.set i A) j h' := fun j h' => by rw [hIn_set hi, hIn_set hi, hp.mem_iff]
  have at' : ∀ {j : Nat} {ids : List Nat}, (S.ls.set i B)[j]? = some ids → ∃ ids', (S.ls.set i A)[j]? = some ids' ∧ ids'.Perm ids := fun {j ids} hj => by
    by_cases hji : j = i
    · subst hji
      rw [List.getElem?_set_self hi] at hj ⊢
      injection hj with hj; subst hj
      exact ⟨A, rfl, hp⟩
    · rw [List.getElem?_set_ne (fun e => hji e.symm)] at hj ⊢
      exact ⟨ids, hj, List.Perm.refl _⟩
  refine ⟨⟨h.wf.nvb, h.wf.cons, h.wf.nd, h.wf.wi, h.wf.trl, h.wf.hel, fun j ids hj => ?_, h.wf.lol⟩, h.hdl, h.st0, h.hd0l, h.sz0g, h.sz0l, fun j h' hj => ?_, fun j ids hj => ?_, fun j h' L u v hj => h.w4 j h' L u v ((hh j h').1 hj), h.dm, fun c hc => ?_, h.src, h.cl, h.lop.1, fun y hy j hj => h.lop.2 y hy j ((hh j y).1 hj)⟩
  · obtain ⟨ids', h1, h2⟩ := at' hj
    obtain ⟨q1, q2⟩ := h.wf.lsl j ids' h1
    exact ⟨by rw [← h2.length_eq]; exact q1, fun x hx => q2 x (h2.mem_iff.2 hx)⟩
  · obtain ⟨L, u, v, q1, q2, q3, q4, q5, q6, q7⟩ := h.w1 j h' ((hh j h').1 hj)
    exact ⟨L, u, v, q1, q2, q3, q4, q5, (hh _ _).2 q6, (hh _ _).2 q7⟩
  · obtain ⟨ids', h1, h2⟩ := at' hj
    exact h2.nodup_iff.1 (h.w3 j ids' h1)
  · rcases h.cov c hc with hq | ⟨h', L, u, v, q1, q2, q3⟩ | hq
    · exact Or.inl hq
    · exact Or.inr (Or.inl ⟨h', L, u, v, q1, q2, q3.imp id (hh _ _).2⟩)
    · exact Or.inr (Or.inr hq)
theorem len_cap {i : Nat} {ids : List Nat} (h : Iv C S hd0 sz0 pend) (hi : S.ls[i]? = some ids) : ids.length ≤ cap := by
  obtain ⟨dom, hd, hm⟩ := h.dm
  refine Nat.le_trans (nodup_le (h.w3 i ids hi) fun x hx => hm x ?_) (Nat.le_trans hd h.cl)
  obtain ⟨L, u, v, hH, _⟩ := h.w1 i x ⟨ids, hi, hx⟩
  rw [hH]; simp
end
/-- while the clauses that watch l are gone through -/
structure Pv (C : List (List Int)) (hd0 sz0 : Nat) (K : List Int) (l : Int) (rem : List Nat) (S : WS) (st : List Nat) (ok : Bool) : Prop where
  iv : Iv C { S with ls := S.ls.set (idxN l) (rem ++ st) } hd0 sz0 (fun h a => a = l ∧ (ok = false ∨ h ∈ rem))
  at' : S.tr[S.hd - 1]? = some (-l)
  hdg : hd0 < S.hd
  der : ∀ x ∈ S.tr, Der C K x
  bad : ok = false → ∃ c ∈ C, ∀ x ∈ c, -x ∈ S.tr
  wl : Wi S.nv l
  il : S.ls.length = 2 * S.nv
section
variable {C : List (List Int)} {hd0 sz0 : Nat} {K : List Int} {l : Int} {h : Nat} {ids : List Nat} {S : WS} {st : List Nat} {ok : Bool}
theorem Pv.lt (hp : Pv C hd0 sz0 K l ids S st ok) : idxN l < S.ls.length := by rw [hp.il]; exact idxN_lt hp.wl
theorem Pv.hin (hp : Pv C hd0 sz0 K l (h :: ids) S st ok) : hIn (S.ls.set (idxN l) (h :: ids ++ st)) (idxN l) h := ⟨_, List.getElem?_set_self hp.lt, by simp⟩
theorem perm1 (h : Nat) (ids st : List Nat) : (h :: ids ++ st).Perm (ids ++ (st ++ [h])) := by
  rw [← List.append_assoc]
  exact (List.perm_append_singleton h (ids ++ st)).symm
theorem Pv.who (hp : Pv C hd0 sz0 K l (h :: ids) S st ok) : ∃ L u v, S.H h = some (L, u, v) ∧ u ∈ L ∧ v ∈ L ∧ u ≠ v ∧ (l = u ∨ l = v) ∧ hIn (S.ls.set (idxN l) (h :: ids ++ st)) (idxN u) h ∧ hIn (S.ls.set (idxN l) (h :: ids ++ st)) (idxN v) h := by
  obtain ⟨L, u, v, hH, hu, hv, hne, hi, h1, h2⟩ := hp.iv.w1 (idxN l) h hp.hin
  obtain ⟨hw, _⟩ := hp.iv.wf.hel h L u v hH
  refine ⟨L, u, v, hH, hu, hv, hne, ?_, h1, h2⟩
  rcases hi with hi | hi
  · exact Or.inl (idxN_inj hp.iv.wf.nvb hp.wl (hw u hu) hi)
  · exact Or.inr (idxN_inj hp.iv.wf.nvb hp.wl (hw v hv) hi)
theorem Pv.neg (hp : Pv C hd0 sz0 K l ids S st ok) : -l ∈ S.tr := List.mem_of_getElem? hp.at'
theorem othr_of {u v b : Int} (hne : u ≠ v) (hab : l = u ∧ b = v ∨ l = v ∧ b = u) : othr u v l = b := by
  unfold othr
  rcases hab with ⟨e1, e2⟩ | ⟨e1, e2⟩
  · rw [if_pos e1.symm, e2]
  · rw [if_neg (fun e => hne (e.trans e1)), e2]
/-- the other watched literal is known: nothing more to see to -/
theorem Pv.done (hp : Pv C hd0 sz0 K l (h :: ids) S st true) {L : List Int} {u v : Int} (hH : S.H h = some (L, u, v)) (ho : othr u v l ∈ S.tr) : Pv C hd0 sz0 K l ids S (st ++ [h]) true := by
  refine ⟨((hp.iv.pendTo fun h' a ha => ?_).perm hp.lt (perm1 h ids st)), hp.at', hp.hdg, hp.der, (fun hh => by cases hh), hp.wl, hp.il⟩
  obtain ⟨rfl, hr⟩ := ha
  rcases hr with hr | hr
  · cases hr
  rcases List.mem_cons.1 hr with rfl | hr
  · refine Or.inr fun L' u' v' hH' hne b hab p hp1 hp2 => ?_
    have hH'' : S.H h' = some (L', u', v') := hH'
    rw [hH] at hH''
    simp only [Option.some.injEq, Prod.mk.injEq] at hH''
    obtain ⟨rfl, rfl, rfl⟩ := hH''
    rw [othr_of hne hab] at ho
    obtain ⟨q, hq1, hq2⟩ := List.mem_iff_getElem.1 ho
    have hpq := pos_uniq hp.iv.wf.nd hp1 hp.at'
    have hg := hp.hdg
    refine ⟨q, (List.getElem?_eq_getElem hq1).trans (by rw [hq2]), fun s hs _ => ?_, fun hlt => by omega⟩
    have := hp.iv.st0 s hs
    omega
  · exact Or.inl ⟨rfl, Or.inr hr⟩
theorem vinv (C : List (List Int)) (hd0 sz0 : Nat) (K : List Int) (l : Int) : VInv l (Pv C hd0 sz0 K l) where
  wf := fun {ids S st ok} hp => by
    have h1 := hp.iv.wf
    refine ⟨⟨h1.nvb, h1.cons, h1.nd, h1.wi, h1.trl, h1.hel, fun i ids' hi => ?_, h1.lol⟩, ?_⟩
    · by_cases hil : i = idxN l
      · subst hil
        have hi' : (S.ls.set (idxN l) [])[idxN l]? = some ids' := hi
        rw [List.getElem?_set_self hp.lt] at hi'
        injection hi' with hi'; subst hi'
        exact ⟨by simp, fun x hx => by cases hx⟩
      · have hi' : (S.ls.set (idxN l) [])[i]? = some ids' := hi
        rw [List.getElem?_set_ne (fun e => hil e.symm)] at hi'
        exact h1.lsl i ids' (by show (S.ls.set (idxN l) (ids ++ st))[i]? = _; rw [List.getElem?_set_ne (fun e => hil e.symm)]; exact hi')
    · have := len_cap hp.iv (i := idxN l) (List.getElem?_set_self hp.lt)
      rw [List.length_append] at this
      unfold cap at this
      omega
  att := fun {h ids S st ok} hp => by
    obtain ⟨L, u, v, hH, hu, hv, _⟩ := hp.who
    exact ⟨L, u, v, hH, hu, hv⟩
  skip := fun {h ids S st} hp => ⟨((hp.iv.pendTo fun h' a ha => Or.inl ⟨ha.1, Or.inl rfl⟩).perm hp.lt (perm1 h ids st)), hp.at', hp.hdg, hp.der, hp.bad, hp.wl, hp.il⟩
  one := fun {h ids S st L u v} hp hH ho => hp.done hH (lv_one.1 ho)
  bad := fun {h ids S st L u v} hp hH ho hall => by
    refine ⟨((hp.iv.pendTo fun h' a ha => Or.inl ⟨ha.1, Or.inl rfl⟩).perm hp.lt (perm1 h ids st)), hp.at', hp.hdg, hp.der, fun _ => ?_, hp.wl, hp.il⟩
    obtain ⟨c, hc, hcl⟩ := hp.iv.src h L u v hH
    refine ⟨c, hc, fun x hx => ?_⟩
    by_cases h1 : x = othr u v l
    · rw [h1]; exact (lv_no hp.iv.wf.cons).1 ho
    · by_cases h2 : x = l
      · rw [h2]; exact hp.neg
      · exact (lv_no hp.iv.wf.cons).1 (hall x ((hcl x).2 hx) h1 h2)
  put := fun {h ids S st L u v} hp hH ho hall => by
    obtain ⟨L', u', v', hH', hu, hv, hne, hl, _⟩ := hp.who
    rw [hH] at hH'
    simp only [Option.some.injEq, Prod.mk.injEq] at hH'
    obtain ⟨rfl, rfl, rfl⟩ := hH'
    obtain ⟨hw, _⟩ := hp.iv.wf.hel h L u v hH
    have hoL : othr u v l ∈ L := by unfold othr; split; exact hv; exact hu
    have hp' : Pv C hd0 sz0 K l (h :: ids) { S with tr := S.tr ++ [othr u v l] } st true := by
      refine ⟨hp.iv.put (hw _ hoL) ho, ?_, hp.hdg, fun x hx => ?_, (fun hh => by cases hh), hp.wl, hp.il⟩
      · show (S.tr ++ [othr u v l])[S.hd - 1]? = _
        rw [List.getElem?_append_left (List.getElem?_eq_some_iff.1 hp.at').1]; exact hp.at'
      · rcases List.mem_append.1 hx with hx | hx
        · exact hp.der x hx
        · rw [List.mem_singleton.1 hx]
          obtain ⟨c, hc, hcl⟩ := hp.iv.src h L u v hH
          refine Der.unit hc ((hcl _).1 hoL) fun y hy hne' => hp.der _ ?_
          by_cases h2 : y = l
          · rw [h2]; exact hp.neg
          · exact (lv_no hp.iv.wf.cons).1 (hall y ((hcl y).2 hy) hne' h2)
    exact hp'.done hH (by show othr u v l ∈ S.tr ++ [othr u v l]; simp)
  mv := fun {h ids S st L u v x} hp hH ho hxL hxo hxl hxv => by
    obtain ⟨L', u', v', hH', hu, hv, hne, hl, hi1, hi2⟩ := hp.who
    rw [hH] at hH'
    simp only [Option.some.injEq, Prod.mk.injEq] at hH'
    obtain ⟨rfl, rfl, rfl⟩ := hH'
    obtain ⟨hw, hLn, hLl⟩ := hp.iv.wf.hel h L u v hH
    have hnv := hp.iv.wf.nvb
    have hlt := hp.lt
    have hoL : othr u v l ∈ L := by unfold othr; split; exact hv; exact hu
    have hol : othr u v l ≠ l := by
      unfold othr
      split
      · rename_i e; rw [← e]; exact fun e' => hne e'.symm
      · assumption
    have hoio : hIn (S.ls.set (idxN l) (h :: ids ++ st)) (idxN (othr u v l)) h := by unfold othr; split; exact hi2; exact hi1
    have hix : idxN x ≠ idxN l := fun e => hxl (idxN_inj hnv (hw x hxL) hp.wl e)
    have hio : idxN (othr u v l) ≠ idxN l := fun e => hol (idxN_inj hnv (hw _ hoL) hp.wl e)
    have hixo : idxN x ≠ idxN (othr u v l) := fun e => hxo (idxN_inj hnv (hw x hxL) (hw _ hoL) e)
    have hxlt : idxN x < S.ls.length := by rw [hp.il]; exact idxN_lt (hw x hxL)
    have hnodup := hp.iv.w3 (idxN l) _ (List.getElem?_set_self hlt)
    have hnot : h ∉ ids ++ st := by
      have hnn : (h :: (ids ++ st)).Nodup := hnodup
      exact (List.nodup_cons.1 hnn).1
    have huv : ∀ j, j = idxN u ∨ j = idxN v → j = idxN l ∨ j = idxN (othr u v l) := fun j hj => by
      unfold othr
      rcases hl with e | e
      · rw [if_pos e.symm, e]; exact hj
      · rw [if_neg (fun e' => hne (e'.trans e)), e]; exact hj.symm
    -- who stands where, then and now
    have lenA : idxN l < (addW S.ls (idxN x) h).length := by rw [addW_len]; exact hlt
    have hin' : ∀ j h', hIn ((addW S.ls (idxN x) h).set (idxN l) (ids ++ st)) j h' ↔ (j = idxN l ∧ h' ∈ ids ++ st) ∨ (j ≠ idxN l ∧ (hIn S.ls j h' ∨ (j = idxN x ∧ h' = h))) := fun j h' => by rw [hIn_set lenA, hIn_addW hxlt]
    have hin0 : ∀ j h', hIn (S.ls.set (idxN l) (h :: ids ++ st)) j h' ↔ (j = idxN l ∧ h' ∈ h :: ids ++ st) ∨ (j ≠ idxN l ∧ hIn S.ls j h') := fun j h' => hIn_set hlt j h'
    have other : ∀ {j h' : Nat}, h' ≠ h → (hIn ((addW S.ls (idxN x) h).set (idxN l) (ids ++ st)) j h' ↔ hIn (S.ls.set (idxN l) (h :: ids ++ st)) j h') := fun {j h'} hne' => by
      rw [hin', hin0]
      constructor
      · rintro (⟨e, hm⟩ | ⟨e, hm | ⟨_, e'⟩⟩)
        · exact Or.inl ⟨e, List.mem_cons_of_mem _ hm⟩
        · exact Or.inr ⟨e, hm⟩
        · exact absurd e' hne'
      · rintro (⟨e, hm⟩ | ⟨e, hm⟩)
        · rcases List.mem_cons.1 hm with hm | hm
          · exact absurd hm hne'
          · exact Or.inl ⟨e, hm⟩
        · exact Or.inr ⟨e, Or.inl hm⟩
    have self : ∀ {j : Nat}, hIn ((addW S.ls (idxN x) h).set (idxN l) (ids ++ st)) j h → j = idxN (othr u v l) ∨ j = idxN x := fun {j} hj => by
      rcases (hin' j h).1 hj with ⟨_, hm⟩ | ⟨e, hm | ⟨e', _⟩⟩
      · exact absurd hm hnot
      · obtain ⟨L2, u2, v2, hH2, _, _, _, hj2, _⟩ := hp.iv.w1 j h ((hin0 j h).2 (Or.inr ⟨e, hm⟩))
        have hH2' : S.H h = some (L2, u2, v2) := hH2
        rw [hH] at hH2'
        simp only [Option.some.injEq, Prod.mk.injEq] at hH2'
        obtain ⟨rfl, rfl, rfl⟩ := hH2'
        rcases huv j hj2 with h' | h'
        · exact absurd h' e
        · exact Or.inl h'
      · exact Or.inr e'
    have inO : hIn ((addW S.ls (idxN x) h).set (idxN l) (ids ++ st)) (idxN (othr u v l)) h := (hin' _ _).2 (Or.inr ⟨hio, Or.inl (by
      rcases (hin0 _ _).1 hoio with ⟨e, _⟩ | ⟨_, hm⟩
      · exact absurd e hio
      · exact hm)⟩)
    have inX : hIn ((addW S.ls (idxN x) h).set (idxN l) (ids ++ st)) (idxN x) h := (hin' _ _).2 (Or.inr ⟨hix, Or.inr ⟨rfl, rfl⟩⟩)
    have Hh : upd S.H h (L, othr u v l, x) h = some (L, othr u v l, x) := if_pos rfl
    have Ho : ∀ {h' : Nat}, h' ≠ h → upd S.H h (L, othr u v l, x) h' = S.H h' := fun hne' => if_neg hne'
    -- the lists
    have w3' : ∀ (i : Nat) (ids' : List Nat), ((addW S.ls (idxN x) h).set (idxN l) (ids ++ st))[i]? = some ids' → ids'.Nodup := fun i ids' hi => by
      by_cases hil : i = idxN l
      · subst hil
        rw [List.getElem?_set_self lenA] at hi
        injection hi with hi; subst hi
        have hnn : (h :: (ids ++ st)).Nodup := hnodup
        exact (List.nodup_cons.1 hnn).2
      · rw [List.getElem?_set_ne (fun e => hil e.symm)] at hi
        have hids : S.ls[idxN x]? = some (S.ls[idxN x]) := List.getElem?_eq_getElem hxlt
        rw [addW_at hids] at hi
        have oldn : ∀ {j : Nat} {r : List Nat}, j ≠ idxN l → S.ls[j]? = some r → r.Nodup := fun {j r} hj hr => hp.iv.w3 j r (by show (S.ls.set (idxN l) (h :: ids ++ st))[j]? = _; rw [List.getElem?_set_ne (fun e => hj e.symm)]; exact hr)
        by_cases hixx : i = idxN x
        · subst hixx
          rw [List.getElem?_set_self hxlt] at hi
          injection hi with hi; subst hi
          refine List.nodup_append.2 ⟨oldn hix hids, by simp, fun y hy z hz => ?_⟩
          rw [List.mem_singleton.1 hz]
          rintro rfl
          obtain ⟨L2, u2, v2, hH2, _, _, _, hj2, _⟩ := hp.iv.w1 (idxN x) y ((hin0 _ _).2 (Or.inr ⟨hix, _, hids, hy⟩))
          have hH2' : S.H y = some (L2, u2, v2) := hH2
          rw [hH] at hH2'
          simp only [Option.some.injEq, Prod.mk.injEq] at hH2'
          obtain ⟨rfl, rfl, rfl⟩ := hH2'
          rcases huv _ hj2 with h' | h'
          · exact hix h'
          · exact hixo h'
        · rw [List.getElem?_set_ne (fun e => hixx e.symm)] at hi
          exact oldn hil hi
    have w1' : ∀ (i h' : Nat), hIn ((addW S.ls (idxN x) h).set (idxN l) (ids ++ st)) i h' → ∃ L' u' v', upd S.H h (L, othr u v l, x) h' = some (L', u', v') ∧ u' ∈ L' ∧ v' ∈ L' ∧ u' ≠ v' ∧ (i = idxN u' ∨ i = idxN v') ∧ hIn ((addW S.ls (idxN x) h).set (idxN l) (ids ++ st)) (idxN u') h' ∧ hIn ((addW S.ls (idxN x) h).set (idxN l) (ids ++ st)) (idxN v') h' := fun i h' hi => by
      by_cases hhh : h' = h
      · subst hhh
        exact ⟨L, othr u v l, x, Hh, hoL, hxL, fun e => hxo e.symm, self hi, inO, inX⟩
      · obtain ⟨L2, u2, v2, q1, q2, q3, q4, q5, q6, q7⟩ := hp.iv.w1 i h' ((other hhh).1 hi)
        exact ⟨L2, u2, v2, by rw [Ho hhh]; exact q1, q2, q3, q4, q5, (other hhh).2 q6, (other hhh).2 q7⟩
    have dm' : ∃ dom : List Nat, dom.length ≤ C.length ∧ ∀ h', upd S.H h (L, othr u v l, x) h' ≠ none → h' ∈ dom := by
      obtain ⟨dom, hd, hm⟩ := hp.iv.dm
      refine ⟨dom, hd, fun h' hh => hm h' ?_⟩
      by_cases hhh : h' = h
      · subst hhh
        show S.H h' ≠ none
        rw [hH]; simp
      · rwa [Ho hhh] at hh
    have lens : ∀ (i : Nat) (ids' : List Nat), ((addW S.ls (idxN x) h).set (idxN l) (ids ++ st))[i]? = some ids' → ids'.length ≤ cap := fun i ids' hi => by
      obtain ⟨dom, hd, hm⟩ := dm'
      refine Nat.le_trans (nodup_le (w3' i ids' hi) fun y hy => hm y ?_) (Nat.le_trans hd hp.iv.cl)
      obtain ⟨L2, u2, v2, q1, _⟩ := w1' i y ⟨ids', hi, hy⟩
      rw [q1]; simp
    refine ⟨⟨⟨hnv, hp.iv.wf.cons, hp.iv.wf.nd, hp.iv.wf.wi, hp.iv.wf.trl, fun h' L2 u2 v2 hH2 => ?_, fun i ids' hi => ⟨Nat.le_trans (lens i ids' hi) (by decide), fun y hy => ?_⟩, ?_⟩, hp.iv.hdl, hp.iv.st0, hp.iv.hd0l, hp.iv.sz0g, hp.iv.sz0l, w1', w3', ?_, dm', ?_, ?_, hp.iv.cl, hp.iv.lop.1, fun y hy j hj => hp.iv.lop.2 y hy j ((other fun e => hp.iv.lop.2 h (e ▸ hy) (idxN l) hp.hin).1 hj)⟩, hp.at', hp.hdg, hp.der, (fun hh => by cases hh), hp.wl, by show (addW S.ls (idxN x) h).length = _; rw [addW_len]; exact hp.il⟩
    · have hH2' : upd S.H h (L, othr u v l, x) h' = some (L2, u2, v2) := hH2
      by_cases hhh : h' = h
      · subst hhh
        rw [Hh] at hH2'
        simp only [Option.some.injEq, Prod.mk.injEq] at hH2'
        obtain ⟨rfl, rfl, rfl⟩ := hH2'
        exact ⟨hw, hLn, hLl⟩
      · rw [Ho hhh] at hH2'
        exact hp.iv.wf.hel h' L2 u2 v2 hH2'
    · obtain ⟨L2, u2, v2, q1, q2, q3, _⟩ := w1' i y ⟨ids', hi, hy⟩
      exact ⟨L2, u2, v2, q1, q2, q3⟩
    · refine ⟨hp.iv.wf.lol.1, fun y hy => ?_⟩
      obtain ⟨L2, u2, v2, q⟩ := hp.iv.wf.lol.2 y hy
      by_cases hyh : y = h
      · subst hyh; exact ⟨_, _, _, Hh⟩
      · exact ⟨L2, u2, v2, (Ho hyh).trans q⟩
    · intro i h' L2 u2 v2 hi hH2 a b hab p hp1 hp2
      have hH2' : upd S.H h (L, othr u v l, x) h' = some (L2, u2, v2) := hH2
      have hp1' : S.tr[p]? = some (-a) := hp1
      by_cases hhh : h' = h
      · subst hhh
        rw [Hh] at hH2'
        simp only [Option.some.injEq, Prod.mk.injEq] at hH2'
        obtain ⟨rfl, rfl, rfl⟩ := hH2'
        exfalso
        rcases hab with ⟨rfl, rfl⟩ | ⟨rfl, rfl⟩
        · -- the one that stays watched was false already: then l was known
          have hab' : othr u v l = u ∧ l = v ∨ othr u v l = v ∧ l = u := by
            unfold othr
            rcases hl with e | e
            · rw [if_pos e.symm]; exact Or.inr ⟨rfl, e⟩
            · rw [if_neg (fun e' => hne (e'.trans e))]; exact Or.inl ⟨rfl, e⟩
          rcases hp.iv.w4 (idxN l) h' L u v hp.hin hH (othr u v l) l hab' p hp1' hp2 with ⟨e, _⟩ | ⟨q, hq, _⟩
          · exact hol e
          · exact hp.iv.wf.cons _ (List.mem_of_getElem? hq) hp.neg
        · exact hxv ((lv_no hp.iv.wf.cons).2 (List.mem_of_getElem? hp1'))
      · rw [Ho hhh] at hH2'
        rcases hp.iv.w4 i h' L2 u2 v2 ((other hhh).1 hi) hH2' a b hab p hp1' hp2 with ⟨e, hr⟩ | hq
        · refine Or.inl ⟨e, hr.imp id fun hm => ?_⟩
          rcases List.mem_cons.1 hm with hm | hm
          · exact absurd hm hhh
          · exact hm
        · exact Or.inr hq
    · intro c hc
      rcases hp.iv.cov c hc with hq | ⟨h', L2, u2, v2, q1, q2, q3⟩ | hq
      · exact Or.inl hq
      · by_cases hhh : h' = h
        · subst hhh
          have q1' : S.H h' = some (L2, u2, v2) := q1
          rw [hH] at q1'
          simp only [Option.some.injEq, Prod.mk.injEq] at q1'
          obtain ⟨rfl, rfl, rfl⟩ := q1'
          exact Or.inr (Or.inl ⟨h', L, othr u v l, x, Hh, q2, Or.inr inO⟩)
        · exact Or.inr (Or.inl ⟨h', L2, u2, v2, (Ho hhh).trans q1, q2, q3.imp id (other hhh).2⟩)
      · exact Or.inr (Or.inr hq)
    · intro h' L2 u2 v2 hH2
      have hH2' : upd S.H h (L, othr u v l, x) h' = some (L2, u2, v2) := hH2
      by_cases hhh : h' = h
      · subst hhh
        rw [Hh] at hH2'
        simp only [Option.some.injEq, Prod.mk.injEq] at hH2'
        obtain ⟨rfl, rfl, rfl⟩ := hH2'
        exact hp.iv.src h' L u v hH
      · rw [Ho hhh] at hH2'
        exact hp.iv.src h' L2 u2 v2 hH2'
end
end Go.Proofs.Ytjpblaenebodlaa.Wt

/- Watch: all that is found; its walk. -/
set_option linter.unusedVariables false
set_option linter.unusedSimpArgs false
set_option linter.unusedSectionVars false
set_option maxRecDepth 100000
namespace Go.Proofs.Ytjpblaenebodlaa.Wt
open Go Go.Proofs.Ytjpblaenebodlaa.Vc Go.Proofs.Ytjpblaenebodlaa.T
open Go.Proofs.Ytjpblaenebodlaa.Apart (RdL own_rdl wrap_nat getE own_len copy same take_snoc Sl sv New)
open Go.Proofs.Ytjpblaenebodlaa.Lits (fl fl_iff idx idx_inj idx_range Ans ans_of indexP formedP)

theorem VInv.and {l : Int} {P : List Nat → WS → List Nat → Bool → Prop} {F : WS → Prop} (h : VInv l P) (h1 : ∀ S H ls, F S → F { S with H := H, ls := ls }) (h2 : ∀ S x, F S → F { S with tr := S.tr ++ [x] }) : VInv l fun rem S st ok => P rem S st ok ∧ F S where
  wf := fun hp => h.wf hp.1
  att := fun hp => h.att hp.1
  skip := fun hp => ⟨h.skip hp.1, hp.2⟩
  mv := fun hp a1 a2 a3 a4 a5 a6 => ⟨h.mv hp.1 a1 a2 a3 a4 a5 a6, h1 _ _ _ hp.2⟩
  one := fun hp a1 a2 => ⟨h.one hp.1 a1 a2, hp.2⟩
  bad := fun hp a1 a2 a3 => ⟨h.bad hp.1 a1 a2 a3, hp.2⟩
  put := fun hp a1 a2 a3 => ⟨h.put hp.1 a1 a2 a3, h2 _ _ hp.2⟩
/-- what a Run's steps leave as it was -/
structure Fr (S0 S : WS) : Prop where
  nv : S.nv = S0.nv
  st : S.st = S0.st
  lo : S.lo = S0.lo
  rest : S.rest = S0.rest
  clash : S.clash = S0.clash
  pre : S0.tr <+: S.tr
theorem Fr.refl (S : WS) : Fr S S := ⟨rfl, rfl, rfl, rfl, rfl, List.prefix_refl _⟩
theorem Fr.put {S0 S : WS} (h : Fr S0 S) (x : Int) : Fr S0 { S with tr := S.tr ++ [x] } := ⟨h.nv, h.st, h.lo, h.rest, h.clash, h.pre.trans (List.prefix_append _ _)⟩
section
variable {C : List (List Int)} {S : WS} {hd0 sz0 : Nat} {pend : Nat → Int → Prop}
/-- one literal more is gone through -/
theorem Iv.bump (h : Iv C S hd0 sz0 fun _ _ => False) {l : Int} (hl : S.tr[S.hd]? = some (-l)) {ids : List Nat} (hids : S.ls[idxN l]? = some ids) : Iv C { S with hd := S.hd + 1, ls := S.ls.set (idxN l) (ids ++ []) } hd0 sz0 fun h a => a = l ∧ (true = false ∨ h ∈ ids) := by
  have e : S.ls.set (idxN l) (ids ++ []) = S.ls := by
    rw [List.append_nil]
    apply List.ext_getElem?
    intro j
    by_cases hj : j = idxN l
    · subst hj
      rw [List.getElem?_set_self (List.getElem?_eq_some_iff.1 hids).1, hids]
    · rw [List.getElem?_set_ne (fun e => hj e.symm)]
  rw [e]
  have hlt := (List.getElem?_eq_some_iff.1 hl).1
  refine ⟨⟨h.wf.nvb, h.wf.cons, h.wf.nd, h.wf.wi, h.wf.trl, h.wf.hel, h.wf.lsl, h.wf.lol⟩, hlt, h.st0, Nat.le_trans h.hd0l (Nat.le_succ _), h.sz0g, h.sz0l, h.w1, h.w3, fun i h' L u v hi hH a b hab p hp1 hp2 => ?_, h.dm, h.cov, h.src, h.cl, h.lop⟩
  have hp2' : p < S.hd + 1 := hp2
  by_cases hp : p < S.hd
  · rcases h.w4 i h' L u v hi hH a b hab p hp1 hp with hq | hq
    · exact hq.elim
    · exact Or.inr hq
  · have : p = S.hd := by omega
    subst this
    have hp1' : S.tr[S.hd]? = some (-a) := hp1
    rw [hl] at hp1'
    injection hp1' with e1
    have ea : a = l := by omega
    refine Or.inl ⟨ea, Or.inr ?_⟩
    obtain ⟨L', u', v', hH', _, _, _, _, h1, h2⟩ := h.w1 i h' hi
    rw [hH] at hH'
    simp only [Option.some.injEq, Prod.mk.injEq] at hH'
    obtain ⟨rfl, rfl, rfl⟩ := hH'
    subst ea
    have hin : hIn S.ls (idxN a) h' := by
      rcases hab with ⟨e, _⟩ | ⟨e, _⟩
      · rw [e]; exact h1
      · rw [e]; exact h2
    obtain ⟨ids', hi1, hi2⟩ := hin
    rw [hids] at hi1
    injection hi1 with hi1
    rw [hi1]; exact hi2
/-- back to where the Run began -/
theorem Iv.back (h : Iv C S hd0 sz0 pend) (hp : ∀ h a, pend h a → ∃ p, S.tr[p]? = some (-a) ∧ hd0 ≤ p) : Iv C { S with tr := S.tr.take sz0, hd := hd0 } hd0 sz0 fun _ _ => False := by
  have hs := h.sz0l
  have hg := h.sz0g
  have hsub : (S.tr.take sz0).Sublist S.tr := List.take_sublist _ _
  have tk : ∀ {p : Nat} {x : Int}, (S.tr.take sz0)[p]? = some x → S.tr[p]? = some x ∧ p < sz0 := fun {p x} hh => by
    have := (List.getElem?_eq_some_iff.1 hh).1
    rw [List.length_take] at this
    rw [List.getElem?_take, if_pos (by omega)] at hh
    exact ⟨hh, by omega⟩
  have kt : ∀ {p : Nat} {x : Int}, S.tr[p]? = some x → p < sz0 → (S.tr.take sz0)[p]? = some x := fun {p x} hh hlt => by rw [List.getElem?_take, if_pos hlt]; exact hh
  refine ⟨⟨h.wf.nvb, fun l hl hl' => h.wf.cons l (hsub.subset hl) (hsub.subset hl'), hsub.nodup h.wf.nd, fun l hl => h.wf.wi l (hsub.subset hl), Nat.le_trans hsub.length_le h.wf.trl, h.wf.hel, h.wf.lsl, h.wf.lol⟩, by show hd0 ≤ (S.tr.take sz0).length; rw [List.length_take]; omega, h.st0, Nat.le_refl _, hg, by show sz0 ≤ (S.tr.take sz0).length; rw [List.length_take]; omega, h.w1, h.w3,
    fun i h' L u v hi hH a b hab p hp1 hp2 => ?_, h.dm, fun c hc => ?_, h.src, h.cl, h.lop⟩
  · have hp2' : p < hd0 := hp2
    obtain ⟨hp1', _⟩ := tk hp1
    rcases h.w4 i h' L u v hi hH a b hab p hp1' (by have := h.hd0l; omega) with hq | ⟨q, hq1, hq2, hq3⟩
    · obtain ⟨p', hp', hge⟩ := hp h' a hq
      have := pos_uniq h.wf.nd hp1' hp'
      omega
    · exact Or.inr ⟨q, kt hq1 (hq3 hp2'), hq2, hq3⟩
  · rcases h.cov c hc with hq | hq | ⟨x, hx, q, hq1, hq2⟩
    · exact Or.inl hq
    · exact Or.inr (Or.inl hq)
    · exact Or.inr (Or.inr ⟨x, hx, q, kt hq1 hq2.2, hq2⟩)
end
end Go.Proofs.Ytjpblaenebodlaa.Wt

/- Watch: spread. -/
set_option linter.unusedVariables false
set_option linter.unusedSimpArgs false
set_option linter.unusedSectionVars false
set_option maxRecDepth 100000
namespace Go.Proofs.Ytjpblaenebodlaa.Wt
open Go Go.Proofs.Ytjpblaenebodlaa.Vc Go.Proofs.Ytjpblaenebodlaa.T
open Go.Proofs.Ytjpblaenebodlaa.Apart (RdL own_rdl wrap_nat getE own_len copy same take_snoc Sl sv New)
open Go.Proofs.Ytjpblaenebodlaa.Lits (fl fl_iff idx idx_inj idx_range Ans ans_of indexP formedP)

section
variable {ex : Nat → Prop} {w w' : World} {b : Nat} {o : Nat → Int} {h : Hs} {S : WS}
/-- one of the Watch's own cells turned -/
theorem Rp.turnSelf (hR : Rp ex w b o h S) (hk : Keep (One b) w w') {S' : WS} {h' : Hs} (hB : Blk w' b [sv h'.vv, sv h'.tt, sv h'.ss, I S'.hd, sv h'.oo, sv h'.ll, .bool S'.rest, .bool S'.clash] 64)
    (e1 : h'.vv = h.vv ∧ h'.tt = h.tt ∧ h'.oo = h.oo ∧ h'.hh = h.hh) (e2 : S'.nv = S.nv ∧ S'.tr = S.tr ∧ S'.H = S.H ∧ S'.ls = S.ls)
    (hst : Own w' 3 1 h'.ss.1 h'.ss.2.1 h'.ss.2.2 (S'.st.map fun n : Nat => I n)) (hstO : ∀ i, ob h'.ss.1 i → o i = -3) (hlo : Own w' 74 1 h'.ll.1 h'.ll.2.1 h'.ll.2.2 (S'.lo.map Pt)) (hloO : ∀ i, ob h'.ll.1 i → o i = -5) : Rp ex w' b o h' S' := by
  have kk : Keep (fun j => (fun t : Int => t = -6) (o j)) w w' := hk.mono fun j _ hj => by rw [show j = b from hj]; exact hR.selfO
  obtain ⟨a1, a2, a3, a4⟩ := e1
  obtain ⟨c1, c2, c3, c4⟩ := e2
  refine ⟨hB, hR.selfO, ?_, by rw [a1]; exact hR.vaO, ?_, by rw [a2]; exact hR.trO, hst, hstO, ?_, by rw [a3]; exact hR.outO, by rw [a4, c1]; exact hR.hl, by rw [c4, c1]; exact hR.ll, ?_, ?_, hlo, hloO, ?_⟩
  · rw [a1, c1, c2]; exact Rp.own (T := fun t => t = -6) hR.va hR.vaO kk (by decide)
  · rw [a2, c2]; exact Rp.own (T := fun t => t = -6) hR.tr hR.trO kk (by decide)
  · rw [a3, a4]; exact Rp.own (T := fun t => t = -6) hR.out hR.outO kk (by decide)
  · rw [a4, c4]; exact Rp.innK (S := S) (h := h) (T := fun t => t = -6) hR kk (fun t ht hh => by omega)
  · rw [a4]; exact Rp.innOK (S := S) (h := h) hR kk
  · rw [c3]; exact Rp.helK (S := S) (T := fun t => t = -6) hR kk (by decide) (by decide)
theorem Rp.setHd (hR : Rp ex w b o h S) {n : Nat} {K : World → Prop} (hK : ∀ w', Rp ex w' b o h { S with hd := n } → Keep (One b) w w' → K w') : Vc.st w (((⟨b, 0, none⟩ : Addr).add 3).add 0) (.int .i64 n) K := by
  simp only [add_mk, Nat.zero_add, Nat.add_zero]
  refine st_of hR.self (by simp) rfl fun w1 hB k1 z1 => hK w1 ?_ k1
  have kk : Keep (fun j => (fun t : Int => t = -6) (o j)) w w1 := k1.mono fun j _ hj => by rw [show j = b from hj]; exact hR.selfO
  exact hR.turnSelf k1 (S' := { S with hd := n }) (h' := h) hB ⟨rfl, rfl, rfl, rfl⟩ ⟨rfl, rfl, rfl, rfl⟩ (Rp.own (T := fun t => t = -6) hR.st hR.stO kk (by decide)) hR.stO (Rp.own (T := fun t => t = -6) hR.lo hR.loO kk (by decide)) hR.loO
end
/-- a clause that is neither false nor unit -/
def Open (tr L : List Int) : Prop := (∃ x ∈ L, lv tr x = 1) ∨ ∃ x ∈ L, ∃ y ∈ L, x ≠ y ∧ lv tr x = 0 ∧ lv tr y = 0
def hdOf (W : World) (b : Nat) : Nat := match W.cell? ⟨b, 3, none⟩ with | some (.int _ x) => x.toNat | _ => 0
def tnOf (W : World) (b : Nat) : Nat := match W.cell? ⟨b, 1, none⟩ with | some (.slice _ n _) => n | _ => 0
theorem hdOf_eq {ex : Nat → Prop} {w : World} {b : Nat} {o : Nat → Int} {h : Hs} {S : WS} (hR : Rp ex w b o h S) : hdOf w b = S.hd := by
  unfold hdOf
  rw [hR.self.cell 3]
  simp
theorem tnOf_eq {ex : Nat → Prop} {w : World} {b : Nat} {o : Nat → Int} {h : Hs} {S : WS} (hR : Rp ex w b o h S) : tnOf w b = S.tr.length := by
  unfold tnOf
  rw [hR.self.cell 1]
  exact (own_len hR.tr).symm
/-- spread's state -/
structure Sp (C : List (List Int)) (S0 : WS) (w0 : World) (b : Nat) (o0 : Nat → Int) (W : World) (S : WS) : Prop where
  rp : ∃ o h, Rp noEx W b o h S ∧ Ag w0 o0 o
  iv : Iv C S S0.hd S0.tr.length fun _ _ => False
  fr : Fr S0 S
  der : ∀ x ∈ S.tr, Der C S0.tr x
  kp : Keep (fun i => tMine (o0 i)) w0 W
theorem Sp.then0 {C : List (List Int)} {S0 : WS} {w0 : World} {b : Nat} {o0 : Nat → Int} {W W' : World} {S : WS} (h : Sp C S0 w0 b o0 W S) (hk : Keep None W W') : Sp C S0 w0 b o0 W' S := by
  obtain ⟨o, h', hR, ha⟩ := h.rp
  exact ⟨⟨o, h', hR.keep0 hk, ha⟩, h.iv, h.fr, h.der, h.kp.then0 hk⟩
def SpOut (C : List (List Int)) (S0 : WS) (w0 : World) (b : Nat) (o0 : Nat → Int) (v : Value) (w' : World) : Prop :=
  (v = .bool true ∧ ∃ S, Sp C S0 w0 b o0 w' S ∧ S.hd = S.tr.length ∧ ∀ h ∈ S.lo, ∀ L u v, S.H h = some (L, u, v) → Open S.tr L) ∨
  (v = .bool false ∧ ∃ (S : WS) (pend : Nat → Int → Prop), (∃ o h, Rp noEx w' b o h S ∧ Ag w0 o0 o) ∧ Iv C S S0.hd S0.tr.length pend ∧ (∀ h a, pend h a → ∃ p, S.tr[p]? = some (-a) ∧ S0.hd ≤ p) ∧ Fr S0 S ∧ Clash C S0.tr ∧ Keep (fun i => tMine (o0 i)) w0 w')
theorem spread29 {C : List (List Int)} {S0 : WS} {w0 : World} {b : Nat} {o0 : Nat → Int} (hSp : Sp C S0 w0 b o0 w0 S0) :
    Calls Try.prog 29 #[Pt b] w0 fun e w' => ∃ v, e = .returned v ∧ SpOut C S0 w0 b o0 v w' := by
  refine V29_calls (some ⟨b, 0, none⟩) w0 (SpOut C S0 w0 b o0) ?_
  unfold V29
  have hnv0 := hSp.iv.wf.nvb
  refine lp_of (fun _ W => ∃ S, Sp C S0 w0 b o0 W S) (fun _ W => S0.nv + 1 - tnOf W b) ⟨S0, hSp⟩ ?_
  rintro ⟨⟩ W1 ⟨S1, hS1⟩
  simp only []
  -- inner: what is known is gone through
  refine lp_of (fun _ W => ∃ S, Sp C S0 w0 b o0 W S ∧ S1.tr.length ≤ S.tr.length) (fun _ W => S0.nv + 1 - hdOf W b) ⟨S1, hS1, Nat.le_refl _⟩ ?_
  rintro ⟨⟩ W2 ⟨S2, hS2, hge12⟩
  simp only []
  have kd : Keep None W2 W2.drew := (Keep.refl _ _).drew
  have kdd : Keep None W2 W2.drew.drew := kd.drew
  have hSd := hS2.then0 kd
  obtain ⟨o2, h2, hR2, ha2⟩ := hSd.rp
  have htl2 := own_len hR2.tr
  have hwf := hS2.iv.wf
  have htn := tr_le hwf.cons hwf.nd hwf.wi
  have hnve : S2.nv = S0.nv := hS2.fr.nv
  have hhdl := hS2.iv.hdl
  obtain ⟨o2', h2', hR2', _⟩ := hS2.rp
  have ehd : hdOf W2 b = S2.hd := hdOf_eq hR2'
  have etn1 : ∀ {V : World} {S : WS}, Sp C S0 w0 b o0 V S → tnOf V b = S.tr.length := fun hs => by obtain ⟨_, _, hr, _⟩ := hs.rp; exact tnOf_eq hr
  refine nn_of (ldI_of (by rw [add_mk]; exact hR2.self.cell 3) (nn_of (ldC_of (x := h2.tt.1) (n := h2.tt.2.1) (c := h2.tt.2.2) (by rw [add_mk]; exact hR2.self.cell 1) ?_)))
  refine pif_of (fun hlt => ?_) fun hge => ?_
  · have hlt : S2.hd < S2.tr.length := by have : (S2.hd : Int) < (h2.tt.2.1 : Int) := by simpa using hlt
                                          omega
    obtain ⟨o3, h3, hR3, ha3⟩ := (hS2.then0 kdd).rp
    have htl3 := own_len hR3.tr
    obtain ⟨x, hx⟩ := getE hlt
    refine nn_of (ldC_of (x := h3.tt.1) (n := h3.tt.2.1) (c := h3.tt.2.2) (by rw [add_mk]; exact hR3.self.cell 1) (nn_of (ldI_of (by rw [add_mk]; exact hR3.self.cell 3) ?_)))
    refine (own_rdl hR3.tr).ix (by omega) fun a y hy ha => ldI_of ha ?_
    rw [hx] at hy; injection hy with hy; subst hy
    refine nn_of (ldI_of (by rw [add_mk]; exact hR3.self.cell 3) (nn_of ?_))
    rw [wrap_nat S2.hd (by have := hwf.trl; omega)]
    refine hR3.setHd fun W3 hR3' k3 => ?_
    have hxw := hwf.wi x (List.mem_of_getElem? hx)
    have en : IntKind.wrap .i64 (0 - x) = -x := by
      obtain ⟨_, q1, q2⟩ := hxw
      rw [IntKind.wrap_i64]; omega
    rw [en]
    have hwl : Wi S2.nv (-x) := by obtain ⟨q0, q1, q2⟩ := hxw; exact ⟨by omega, by omega, by omega⟩
    obtain ⟨ids, hids⟩ := getE (show idxN (-x) < S2.ls.length by rw [hR3.ll]; exact idxN_lt hwl)
    have hx' : S2.tr[S2.hd]? = some (- -x) := by rw [Int.neg_neg]; exact hx
    have hbump := hS2.iv.bump hx' hids
    have hfrF : Fr S0 { S2 with hd := S2.hd + 1 } ∧ ({ S2 with hd := S2.hd + 1 } : WS).hd = S2.hd + 1 ∧ S2.tr.length ≤ ({ S2 with hd := S2.hd + 1 } : WS).tr.length := ⟨⟨hS2.fr.nv, hS2.fr.st, hS2.fr.lo, hS2.fr.rest, hS2.fr.clash, hS2.fr.pre⟩, rfl, Nat.le_refl _⟩
    have hVI := (vinv C S0.hd S0.tr.length S0.tr (-x)).and (F := fun S => Fr S0 S ∧ S.hd = S2.hd + 1 ∧ S2.tr.length ≤ S.tr.length)
      (fun S H ls hF => ⟨⟨hF.1.nv, hF.1.st, hF.1.lo, hF.1.rest, hF.1.clash, hF.1.pre⟩, hF.2.1, hF.2.2⟩) (fun S y hF => ⟨hF.1.put y, hF.2.1, by show S2.tr.length ≤ (S.tr ++ [y]).length; rw [List.length_append]; omega⟩)
    have hP0 : Pv C S0.hd S0.tr.length S0.tr (-x) ids { S2 with hd := S2.hd + 1 } [] true := ⟨hbump, by show S2.tr[S2.hd + 1 - 1]? = _; rw [Nat.add_sub_cancel]; exact hx', by show S0.hd < S2.hd + 1; have := hS2.iv.hd0l; omega, hS2.der, (fun hh => by cases hh), hwl, hR3.ll⟩
    have hlen := len_cap hS2.iv hids
    have z3 : w0.heap.size ≤ W3.heap.size := Nat.le_trans (hS2.then0 kdd).kp.size k3.size
    have ob3 : Keep (fun i => tMine (o0 i)) w0 W3 := (hS2.then0 kdd).kp.trans k3 fun j hj hh => by
      have e1 := ha3 j hj
      have e2 := hR3.selfO
      rw [← show j = b from hh] at e2
      show o0 j ≠ -9
      omega
    refine cl_of ok46 (visit46 hR3' hwl hids (by unfold cap at hlen; omega) hVI ⟨hP0, hfrF⟩) fun e w4 ⟨ok, S4, st, he, ⟨hP4, hF4, hh4, hl4⟩, o4, h4, hR4, ha4, k4⟩ => ⟨ok, he, ?_⟩
    have k04 : Keep (fun i => tMine (o0 i)) w0 w4 := ob3.trans k4 fun j hj hh => by
      have e1 := ha3 j hj
      have hh' : tMine (o3 j) := hh
      show o0 j ≠ -9
      rw [← e1]; exact hh'
    have ha04 : Ag w0 o0 o4 := ha3.trans ha4 (Nat.le_trans (hS2.then0 kdd).kp.size k3.size)
    have hiv4 := hP4.iv
    rw [List.nil_append] at hiv4
    cases ok with
    | false =>
      refine pif_t rfl (Or.inr ⟨rfl, _, _, ⟨o4, h4, hR4, ha04⟩, hiv4, fun h' a hpa => ⟨S4.hd - 1, by rw [hpa.1]; exact hP4.at', by have := hP4.hdg; omega⟩, ⟨hF4.nv, hF4.st, hF4.lo, hF4.rest, hF4.clash, hF4.pre⟩, ?_, k04⟩)
      obtain ⟨c, hc, hcl⟩ := hP4.bad rfl
      exact ⟨c, hc, fun y hy => hP4.der _ (hcl y hy)⟩
    | true =>
      refine pif_f rfl ?_
      have hiv4' : Iv C { S4 with ls := S4.ls.set (idxN (-x)) st } S0.hd S0.tr.length fun _ _ => False := hiv4.pendTo fun h' a hpa => by
        rcases hpa.2 with hh | hh
        · cases hh
        · cases hh
      refine ⟨⟨_, ⟨⟨o4, h4, hR4, ha04⟩, hiv4', ⟨hF4.nv, hF4.st, hF4.lo, hF4.rest, hF4.clash, hF4.pre⟩, hP4.der, k04⟩, by show S1.tr.length ≤ S4.tr.length; omega⟩, ?_⟩
      have e4 := hdOf_eq hR4
      have e4' : hdOf w4 b = S2.hd + 1 := e4.trans hh4
      show S0.nv + 1 - hdOf w4 b < S0.nv + 1 - hdOf W2 b
      rw [e4', ehd]
      omega
  · have hge : S2.hd = S2.tr.length := by have : ¬ (S2.hd : Int) < (h2.tt.2.1 : Int) := by simpa using hge
                                          omega
    refine nn_of (ldC_of (x := h2.tt.1) (n := h2.tt.2.1) (c := h2.tt.2.2) (by rw [add_mk]; exact hR2.self.cell 1) (nn_of (ldC_of (x := h2.ll.1) (n := h2.ll.2.1) (c := h2.ll.2.2) (by rw [add_mk]; exact hR2.self.cell 5) ?_)))
    have hlol := pts_len hR2.lo
    have hloH := hwf.lol
    refine lp_of (fun s W => ∃ (i : Nat) (S : WS), s.1 = (i : Int) ∧ i ≤ S2.lo.length ∧ Sp C S0 w0 b o0 W S ∧ (∃ o h, Rp noEx W b o h S ∧ Ag w0 o0 o ∧ Ag W2.drew o2 o) ∧ S2.tr.length ≤ S.tr.length ∧ S.hd = S2.hd ∧ S.H = S2.H ∧ S.lo = S2.lo ∧ Own W 74 1 h2.ll.1 h2.ll.2.1 h2.ll.2.2 (S2.lo.map Pt) ∧ (S.tr.length = S2.tr.length → S.tr = S2.tr ∧ ∀ j h', j < i → S2.lo[j]? = some h' → ∀ L u v, S2.H h' = some (L, u, v) → Open S2.tr L) ∧ W2.drew.heap.size ≤ W.heap.size) (fun s _ => (S2.lo.length - s.1).toNat)
      ⟨0, S2, rfl, Nat.zero_le _, hSd, ⟨o2, h2, hR2, ha2, Ag.refl _ _⟩, Nat.le_refl _, rfl, rfl, rfl, hR2.lo, (fun _ => ⟨rfl, fun j h' hj => by omega⟩), Nat.le_refl _⟩ ?_
    rintro ⟨i', ⟨⟩⟩ W5 ⟨i, S5, rfl, hi, hS5, ⟨o5, h5, hR5, ha5, ha25⟩, hle5, hhd5, hH5, hlo5, hOlo, hopen, zW0⟩
    simp only []
    refine pif_of (fun hlt => ?_) fun hge' => ?_
    · have zW := zW0
      have hlt : i < S2.lo.length := by have : (i : Int) < (h2.ll.2.1 : Int) := by simpa using hlt
                                        omega
      rw [wrap_nat i (by have := hloH.1; omega)]
      obtain ⟨hb, hhb⟩ := getE hlt
      obtain ⟨L, u, v, hHb⟩ := hloH.2 hb (List.mem_of_getElem? hhb)
      have hHb5 : S5.H hb = some (L, u, v) := by rw [hH5]; exact hHb
      obtain ⟨hLw, hLn, hLl⟩ := hS5.iv.wf.hel hb L u v hHb5
      refine hOlo.ix (by omega) (by omega) fun bq hbq => ?_
      have hOlo' := hOlo
      rw [hbq] at hOlo'
      refine ldP_of (x := some ⟨hb, 0, none⟩) (by rw [hOlo'.cell _ (by omega), Int.toNat_natCast, Nat.mul_one, List.getElem?_map, hhb]; rfl) ?_
      refine cl_of ok47 (look47 hR5 hS5.iv.wf.cons hS5.iv.wf.nvb hS5.iv.wf.trl hHb5 hLw hLl hLn) fun e w6 ⟨r, he, hLk⟩ => ?_
      rcases hLk with ⟨rfl, k6, hop⟩ | ⟨rfl, k6, hall⟩ | ⟨rfl, l, hlL, hl0, hall, hNx⟩
      · refine ⟨_, he, pif_f rfl ⟨⟨i + 1, S5, rfl, hlt, hS5.then0 k6, ⟨o5, h5, hR5.keep0 k6, ha5, ha25⟩, hle5, hhd5, hH5, hlo5, hOlo.keep0 k6, (fun htl => ?_), Nat.le_trans zW k6.size⟩, by omega⟩⟩
        obtain ⟨e5, hop5⟩ := hopen htl
        refine ⟨e5, fun j h' hj hjh L' u' v' hH' => ?_⟩
        by_cases hji : j = i
        · subst hji
          rw [hhb] at hjh; injection hjh with hjh; subst hjh
          rw [hHb] at hH'
          simp only [Option.some.injEq, Prod.mk.injEq] at hH'
          obtain ⟨rfl, _, _⟩ := hH'
          rw [← e5]; exact hop
        · exact hop5 j h' (by omega) hjh L' u' v' hH'
      · refine ⟨_, he, pif_t rfl (Or.inr ⟨rfl, S5, fun _ _ => False, ?_, hS5.iv, fun h' a hf => hf.elim, hS5.fr, ?_, (hS5.then0 k6).kp⟩)⟩
        · exact (hS5.then0 k6).rp
        · obtain ⟨c, hc, hcl⟩ := hS5.iv.src hb L u v hHb5
          exact ⟨c, hc, fun y hy => hS5.der _ ((lv_no hS5.iv.wf.cons).1 (hall y ((hcl y).2 hy)))⟩
      · obtain ⟨o6, h6, hR6, ha6, k6⟩ := hNx
        refine ⟨_, he, pif_f rfl ⟨⟨i + 1, { S5 with tr := S5.tr ++ [l] }, rfl, hlt, ⟨⟨o6, h6, hR6, ha5.trans ha6 hS5.kp.size⟩, hS5.iv.put (hLw l hlL) hl0, hS5.fr.put l, fun y hy => ?_, hS5.kp.trans k6 fun j hj hh => ?_⟩, ⟨o6, h6, hR6, ha5.trans ha6 hS5.kp.size, ha25.trans ha6 zW⟩, ?_, hhd5, hH5, hlo5, (hOlo.keep k6 fun j hj hh => ?_), (fun htl => ?_), Nat.le_trans zW k6.size⟩, by omega⟩⟩
        · rcases List.mem_append.1 hy with hy | hy
          · exact hS5.der y hy
          · rw [List.mem_singleton.1 hy]
            obtain ⟨c, hc, hcl⟩ := hS5.iv.src hb L u v hHb5
            exact Der.unit hc ((hcl _).1 hlL) fun z hz hne => hS5.der _ ((lv_no hS5.iv.wf.cons).1 (hall z ((hcl z).2 hz) hne))
        · have e1 := ha5 j hj
          have hh' : tPut (o5 j) := hh
          show o0 j ≠ -9
          rw [← e1]; rcases hh' with hh' | hh' | hh' <;> omega
        · show S2.tr.length ≤ (S5.tr ++ [l]).length
          rw [List.length_append]; omega
        · have e1 : o2 j = -5 := hR2.loO j hj
          have hh' : tPut (o5 j) := hh
          have hjw := ha25 j (hR2.lo.lt j hj)
          rcases hh' with hh' | hh' | hh' <;> omega
        · have htl' : (S5.tr ++ [l]).length = S2.tr.length := htl
          rw [List.length_append] at htl'
          simp at htl'
          omega
    · have hge' : i = S2.lo.length := by have : ¬ (i : Int) < (h2.ll.2.1 : Int) := by simpa using hge'
                                         omega
      subst hge'
      have htl5 := own_len hR5.tr
      refine nn_of (ldC_of (x := h5.tt.1) (n := h5.tt.2.1) (c := h5.tt.2.2) (by rw [add_mk]; exact hR5.self.cell 1) ?_)
      refine pif_of (fun heq => ?_) fun hne => ?_
      · have heq : S5.tr.length = S2.tr.length := by have : (h5.tt.2.1 : Int) = (h2.tt.2.1 : Int) := by simpa using heq
                                                     omega
        obtain ⟨e5, hop5⟩ := hopen heq
        refine Or.inl ⟨rfl, S5, hS5, by rw [hhd5, hge, e5], fun h' hh' L u v hH' => ?_⟩
        rw [hlo5] at hh'
        obtain ⟨j, hj, hje⟩ := List.mem_iff_getElem.1 hh'
        rw [hH5] at hH'
        rw [e5]
        exact hop5 j h' hj ((List.getElem?_eq_getElem hj).trans (by rw [hje])) L u v hH'
      · have hne : S5.tr.length ≠ S2.tr.length := fun e => by
          have : ¬ (h5.tt.2.1 : Int) = (h2.tt.2.1 : Int) := by simpa using hne
          omega
        refine ⟨⟨S5, hS5⟩, ?_⟩
        have q1 := etn1 hS5
        have q2 := etn1 hS1
        have q3 := tr_le hS5.iv.wf.cons hS5.iv.wf.nd hS5.iv.wf.wi
        have q4 : S5.nv = S0.nv := hS5.fr.nv
        rw [q1, q2]
        omega
end Go.Proofs.Ytjpblaenebodlaa.Wt

/- Watch: clauses attached at rest. -/
set_option linter.unusedVariables false
set_option linter.unusedSimpArgs false
set_option linter.unusedSectionVars false
set_option maxRecDepth 100000
namespace Go.Proofs.Ytjpblaenebodlaa.Wt
open Go Go.Proofs.Ytjpblaenebodlaa.Vc Go.Proofs.Ytjpblaenebodlaa.T
open Go.Proofs.Ytjpblaenebodlaa.Apart (RdL own_rdl wrap_nat getE own_len copy same take_snoc Sl sv New)
open Go.Proofs.Ytjpblaenebodlaa.Lits (fl fl_iff idx idx_inj idx_range Ans ans_of indexP formedP)

section
variable {C : List (List Int)} {S : WS} {hd0 sz0 : Nat} {pend : Nat → Int → Prop}
/-- what a Run leaves is where the next one begins -/
theorem Iv.rebase (h : Iv C S hd0 sz0 fun _ _ => False) : Iv C S S.hd S.tr.length fun _ _ => False :=
  ⟨h.wf, h.hdl, fun s hs => Nat.le_trans (h.st0 s hs) h.hd0l, Nat.le_refl _, h.hdl, Nat.le_refl _, h.w1, h.w3, fun i h' L u v hi hH a b hab p hp1 hp2 => by
    rcases h.w4 i h' L u v hi hH a b hab p hp1 hp2 with hq | ⟨q, hq1, hq2, _⟩
    · exact hq.elim
    · exact Or.inr ⟨q, hq1, hq2, fun _ => (List.getElem?_eq_some_iff.1 hq1).1⟩, h.dm, fun c hc => by
    rcases h.cov c hc with hq | hq | ⟨x, hx, q, hq1, hq2, _⟩
    · exact Or.inl hq
    · exact Or.inr (Or.inl hq)
    · exact Or.inr (Or.inr ⟨x, hx, q, hq1, hq2, (List.getElem?_eq_some_iff.1 hq1).1⟩), h.src, h.cl, h.lop⟩
/-- a clause that watches two literals that aren't false -/
theorem Iv.att (h : Iv C S hd0 sz0 fun _ _ => False) {hb : Nat} {L : List Int} {u0 v0 u v : Int} (hH : S.H hb = some (L, u0, v0)) (hu : u ∈ L) (hv : v ∈ L) (hne : u ≠ v) (hlu : 0 ≤ lv S.tr u) (hlv : 0 ≤ lv S.tr v) (hno : ∀ i, ¬ hIn S.ls i hb) (hll : S.ls.length = 2 * S.nv) {lo' : List Nat} (hl1 : lo'.Nodup) (hl2 : ∀ y ∈ lo', y ∈ S.lo) (hl3 : ∀ y ∈ S.lo, y = hb ∨ y ∈ lo') (hlo : hb ∉ lo') :
    Iv C { S with lo := lo', H := upd S.H hb (L, u, v), ls := addW (addW S.ls (idxN u) hb) (idxN v) hb } hd0 sz0 fun _ _ => False := by
  obtain ⟨hw, hLn, hLl⟩ := h.wf.hel hb L u0 v0 hH
  have hnv := h.wf.nvb
  have lu : idxN u < S.ls.length := by rw [hll]; exact idxN_lt (hw u hu)
  have lv' : idxN v < (addW S.ls (idxN u) hb).length := by rw [addW_len, hll]; exact idxN_lt (hw v hv)
  have huv : idxN u ≠ idxN v := fun e => hne (idxN_inj hnv (hw u hu) (hw v hv) e)
  have hin : ∀ j h', hIn (addW (addW S.ls (idxN u) hb) (idxN v) hb) j h' ↔ hIn S.ls j h' ∨ ((j = idxN u ∨ j = idxN v) ∧ h' = hb) := fun j h' => by
    rw [hIn_addW lv', hIn_addW lu]
    constructor
    · rintro ((h | ⟨a, b⟩) | ⟨a, b⟩)
      · exact Or.inl h
      · exact Or.inr ⟨Or.inl a, b⟩
      · exact Or.inr ⟨Or.inr a, b⟩
    · rintro (h | ⟨a | a, b⟩)
      · exact Or.inl (Or.inl h)
      · exact Or.inl (Or.inr ⟨a, b⟩)
      · exact Or.inr ⟨a, b⟩
  have Hh : upd S.H hb (L, u, v) hb = some (L, u, v) := if_pos rfl
  have Ho : ∀ {h' : Nat}, h' ≠ hb → upd S.H hb (L, u, v) h' = S.H h' := fun hne' => if_neg hne'
  have w1' : ∀ (i h' : Nat), hIn (addW (addW S.ls (idxN u) hb) (idxN v) hb) i h' → ∃ L' u' v', upd S.H hb (L, u, v) h' = some (L', u', v') ∧ u' ∈ L' ∧ v' ∈ L' ∧ u' ≠ v' ∧ (i = idxN u' ∨ i = idxN v') ∧ hIn (addW (addW S.ls (idxN u) hb) (idxN v) hb) (idxN u') h' ∧ hIn (addW (addW S.ls (idxN u) hb) (idxN v) hb) (idxN v') h' := fun i h' hi => by
    rcases (hin i h').1 hi with hi1 | ⟨hi2, rfl⟩
    · have hnb : h' ≠ hb := fun e => hno i (e ▸ hi1)
      obtain ⟨L2, u2, v2, q1, q2, q3, q4, q5, q6, q7⟩ := h.w1 i h' hi1
      exact ⟨L2, u2, v2, (Ho hnb).trans q1, q2, q3, q4, q5, (hin _ _).2 (Or.inl q6), (hin _ _).2 (Or.inl q7)⟩
    · exact ⟨L, u, v, Hh, hu, hv, hne, hi2, (hin _ _).2 (Or.inr ⟨Or.inl rfl, rfl⟩), (hin _ _).2 (Or.inr ⟨Or.inr rfl, rfl⟩)⟩
  have nodA : ∀ {ls : List (List Nat)} {k : Nat}, (∀ (i : Nat) (ids : List Nat), ls[i]? = some ids → ids.Nodup) → k < ls.length → ¬ hIn ls k hb → ∀ (i : Nat) (ids : List Nat), (addW ls k hb)[i]? = some ids → ids.Nodup := fun {ls k} hn hk hnot i ids hi => by
    have hids : ls[k]? = some ls[k] := List.getElem?_eq_getElem hk
    rw [addW_at hids] at hi
    by_cases hik : i = k
    · subst hik
      rw [List.getElem?_set_self hk] at hi
      injection hi with hi; subst hi
      refine List.nodup_append.2 ⟨hn _ _ hids, by simp, fun y hy z hz => ?_⟩
      rw [List.mem_singleton.1 hz]
      rintro rfl
      exact hnot ⟨_, hids, hy⟩
    · rw [List.getElem?_set_ne (fun e => hik e.symm)] at hi
      exact hn i ids hi
  have w3' := nodA (nodA h.w3 lu (hno _)) lv' (fun hh => by
    rcases (hIn_addW lu _ _).1 hh with h1 | ⟨h1, _⟩
    · exact hno _ h1
    · exact huv h1.symm)
  have dm' : ∃ dom : List Nat, dom.length ≤ C.length ∧ ∀ h', upd S.H hb (L, u, v) h' ≠ none → h' ∈ dom := by
    obtain ⟨dom, hd, hm⟩ := h.dm
    refine ⟨dom, hd, fun h' hh => hm h' ?_⟩
    by_cases hhh : h' = hb
    · subst hhh; rw [hH]; simp
    · rwa [Ho hhh] at hh
  have lens : ∀ (i : Nat) (ids' : List Nat), (addW (addW S.ls (idxN u) hb) (idxN v) hb)[i]? = some ids' → ids'.length ≤ cap := fun i ids' hi => by
    obtain ⟨dom, hd, hm⟩ := dm'
    refine Nat.le_trans (nodup_le (w3' i ids' hi) fun y hy => hm y ?_) (Nat.le_trans hd h.cl)
    obtain ⟨L2, u2, v2, q1, _⟩ := w1' i y ⟨ids', hi, hy⟩
    rw [q1]; simp
  have nofalse : ∀ {x : Int}, 0 ≤ lv S.tr x → ∀ p : Nat, S.tr[p]? ≠ some (-x) := fun {x} hx p hp => by
    have := (lv_no h.wf.cons).2 (List.mem_of_getElem? hp)
    omega
  refine ⟨⟨hnv, h.wf.cons, h.wf.nd, h.wf.wi, h.wf.trl, fun h' L2 u2 v2 hH2 => ?_, fun i ids' hi => ⟨Nat.le_trans (lens i ids' hi) (by decide), fun y hy => ?_⟩, Nat.le_trans (nodup_le hl1 hl2) h.wf.lol.1, fun y hy => ?_⟩, h.hdl, h.st0, h.hd0l, h.sz0g, h.sz0l, w1', w3', fun i h' L2 u2 v2 hi hH2 a b hab p hp1 hp2 => ?_, dm', fun c hc => ?_, fun h' L2 u2 v2 hH2 => ?_, h.cl, hl1, fun y hy j hj => ?_⟩
  · have hH2' : upd S.H hb (L, u, v) h' = some (L2, u2, v2) := hH2
    by_cases hhh : h' = hb
    · subst hhh
      rw [Hh] at hH2'
      simp only [Option.some.injEq, Prod.mk.injEq] at hH2'
      obtain ⟨rfl, rfl, rfl⟩ := hH2'
      exact ⟨hw, hLn, hLl⟩
    · rw [Ho hhh] at hH2'; exact h.wf.hel h' L2 u2 v2 hH2'
  · obtain ⟨L2, u2, v2, q1, q2, q3, _⟩ := w1' i y ⟨ids', hi, hy⟩
    exact ⟨L2, u2, v2, q1, q2, q3⟩
  · obtain ⟨L2, u2, v2, q⟩ := h.wf.lol.2 y (hl2 y hy)
    by_cases hyh : y = hb
    · subst hyh; exact ⟨_, _, _, Hh⟩
    · exact ⟨L2, u2, v2, (Ho hyh).trans q⟩
  · have hH2' : upd S.H hb (L, u, v) h' = some (L2, u2, v2) := hH2
    have hp1' : S.tr[p]? = some (-a) := hp1
    by_cases hhh : h' = hb
    · subst hhh
      rw [Hh] at hH2'
      simp only [Option.some.injEq, Prod.mk.injEq] at hH2'
      obtain ⟨rfl, rfl, rfl⟩ := hH2'
      exfalso
      rcases hab with ⟨rfl, _⟩ | ⟨rfl, _⟩
      · exact nofalse hlu p hp1'
      · exact nofalse hlv p hp1'
    · rw [Ho hhh] at hH2'
      have hi' : hIn S.ls i h' := by
        rcases (hin i h').1 hi with hi | ⟨_, e⟩
        · exact hi
        · exact absurd e hhh
      exact h.w4 i h' L2 u2 v2 hi' hH2' a b hab p hp1' hp2
  · rcases h.cov c hc with hq | ⟨h', L2, u2, v2, q1, q2, q3⟩ | hq
    · exact Or.inl hq
    · by_cases hhh : h' = hb
      · subst hhh
        rw [hH] at q1
        simp only [Option.some.injEq, Prod.mk.injEq] at q1
        obtain ⟨rfl, rfl, rfl⟩ := q1
        exact Or.inr (Or.inl ⟨h', L, u, v, Hh, q2, Or.inr ((hin _ _).2 (Or.inr ⟨Or.inl rfl, rfl⟩))⟩)
      · exact Or.inr (Or.inl ⟨h', L2, u2, v2, (Ho hhh).trans q1, q2, q3.imp (fun q => (hl3 _ q).resolve_left hhh) fun q => (hin _ _).2 (Or.inl q)⟩)
    · exact Or.inr (Or.inr hq)
  · have hH2' : upd S.H hb (L, u, v) h' = some (L2, u2, v2) := hH2
    by_cases hhh : h' = hb
    · subst hhh
      rw [Hh] at hH2'
      simp only [Option.some.injEq, Prod.mk.injEq] at hH2'
      obtain ⟨rfl, rfl, rfl⟩ := hH2'
      exact h.src h' L u0 v0 hH
    · rw [Ho hhh] at hH2'; exact h.src h' L2 u2 v2 hH2'
  · rcases (hin j y).1 hj with hj | ⟨_, e⟩
    · exact h.lop.2 y (hl2 y hy) j hj
    · exact hlo (e ▸ hy)
end
end Go.Proofs.Ytjpblaenebodlaa.Wt

/- Watch: tighten. -/
set_option linter.unusedVariables false
set_option linter.unusedSimpArgs false
set_option linter.unusedSectionVars false
set_option maxRecDepth 100000
namespace Go.Proofs.Ytjpblaenebodlaa.Wt
open Go Go.Proofs.Ytjpblaenebodlaa.Vc Go.Proofs.Ytjpblaenebodlaa.T
open Go.Proofs.Ytjpblaenebodlaa.Apart (RdL own_rdl wrap_nat getE own_len copy same take_snoc Sl sv New)
open Go.Proofs.Ytjpblaenebodlaa.Lits (fl fl_iff idx idx_inj idx_range Ans ans_of indexP formedP)

section
variable {ex : Nat → Prop} {w : World} {b : Nat} {o : Nat → Int} {h : Hs} {S : WS}
theorem is49 (hR : Rp ex w b o h S) (hc : Cons S.tr) (hnv : S.nv ≤ 1048576) {bx : Nat} {ty : TypeId} (hB : Blk w bx [Pt b] ty) {l : Int} (hl : Wi S.nv l) :
    Calls Try.prog 49 #[I l, Pt bx] w fun e w' => e = .returned (.bool (lv S.tr l == 1)) ∧ Keep None w w' := by
  refine ans_of (V49_calls l ⟨bx, 0, none⟩ w (Ans w _) ?_)
  unfold V49
  refine ldP_of (x := some ⟨b, 0, none⟩) (hB.cell 0) ?_
  exact cl_of ok26 (of26 hR hc hnv hl) fun e w1 ⟨he, k1⟩ => ⟨_, he, rfl, k1⟩
theorem any63 (hR : Rp ex w b o h S) (hc : Cons S.tr) (hnv : S.nv ≤ 1048576) {bx : Nat} {ty : TypeId} (hB : Blk w bx [Pt b] ty) {lp : Option Addr} {ln lc : Nat} {L : List Int} (hRd : RdL w lp ln L) (hL : ∀ x ∈ L, Wi S.nv x) (hLl : L.length ≤ 2097153) :
    Calls Try.prog 63 #[.slice lp ln lc, .func (.func 49) #[] #[Pt bx]] w fun e w' => ∃ r : Int, e = .returned (I r) ∧ (0 ≤ r ↔ ∃ x ∈ L, lv S.tr x = 1) ∧ Keep None w w' := by
  refine (V63_calls lp ln lc (.func (.func 49) #[] #[Pt bx]) w (fun v w' => ∃ r : Int, v = I r ∧ (0 ≤ r ↔ ∃ x ∈ L, lv S.tr x = 1) ∧ Keep None w w') ?_).mono fun e w' ⟨v, he, r, hv, hk⟩ => ⟨r, by rw [he, hv], hk⟩
  unfold V63
  have hll := hRd.len
  refine lp_of (fun s W => ∃ i : Nat, s.1 = (i : Int) ∧ i ≤ ln ∧ Keep None w W ∧ ∀ x ∈ L.take i, lv S.tr x ≠ 1) (fun s _ => (ln - s.1).toNat) ⟨0, rfl, Nat.zero_le _, Keep.refl _ _, fun x hx => by simp at hx⟩ ?_
  rintro ⟨i', ⟨⟩⟩ W ⟨i, rfl, hi, kW, hv⟩
  simp only [] at hv ⊢
  refine pif_of (fun hlt => ?_) fun hge => ?_
  · have hlt : i < ln := by simpa using hlt
    rw [wrap_nat i (by omega)]
    refine (hRd.keep0 kW).ix hlt fun a x hx ha => ldI_of ha ?_
    have hxL := List.mem_of_getElem? hx
    refine ⟨_, _, _, rfl, cl_of ok49 (is49 (hR.keep0 kW) hc hnv (hB.keep0 kW) (hL x hxL)) fun e w3 ⟨he, k3⟩ => ⟨_, he, ?_⟩⟩
    refine pif_of (fun h1 => ?_) fun h1 => ?_
    · exact ⟨i, rfl, ⟨fun _ => ⟨x, hxL, by simpa using h1⟩, fun _ => by omega⟩, kW.then0 k3⟩
    · refine ⟨⟨i + 1, rfl, hlt, kW.then0 k3, fun y hy => ?_⟩, by omega⟩
      rw [take_snoc hx] at hy
      rcases List.mem_append.1 hy with hy | hy
      · exact hv y hy
      · rw [List.mem_singleton.1 hy]; simpa using h1
  · have hge : i = ln := by simp at hge; omega
    subst hge
    rw [← hll, List.take_length] at hv
    exact ⟨-1, rfl, ⟨fun hh => by omega, fun ⟨x, hx, h1⟩ => absurd h1 (hv x hx)⟩, kW⟩
theorem has48 (hR : Rp ex w b o h S) (hc : Cons S.tr) (hnv : S.nv ≤ 1048576) {bx : Nat} {ty : TypeId} (hB : Blk w bx [Pt b] ty) {lp : Option Addr} {ln lc : Nat} {L : List Int} (hRd : RdL w lp ln L) (hL : ∀ x ∈ L, Wi S.nv x) (hLl : L.length ≤ 2097153) :
    Calls Try.prog 48 #[.slice lp ln lc, .func (.func 49) #[] #[Pt bx]] w fun e w' => ∃ r : Bool, e = .returned (.bool r) ∧ (r = true ↔ ∃ x ∈ L, lv S.tr x = 1) ∧ Keep None w w' := by
  refine (V48_calls lp ln lc (.func (.func 49) #[] #[Pt bx]) w (fun v w' => ∃ r : Bool, v = .bool r ∧ (r = true ↔ ∃ x ∈ L, lv S.tr x = 1) ∧ Keep None w w') ?_).mono fun e w' ⟨v, he, r, hv, hk⟩ => ⟨r, by rw [he, hv], hk⟩
  unfold V48
  exact cl_of ok63 (any63 hR hc hnv hB hRd hL hLl) fun e w1 ⟨r, he, hr, k1⟩ => ⟨_, he, _, rfl, by simpa using hr, k1⟩
end
/-- a loose clause that is true for ever is let go -/
theorem Iv.drop {C : List (List Int)} {S : WS} {hd0 sz0 : Nat} (h : Iv C S hd0 sz0 fun _ _ => False) {hb : Nat} {lo' : List Nat} {L : List Int} {u v x : Int} (hH : S.H hb = some (L, u, v)) (hx : x ∈ L) (hx1 : lv S.tr x = 1) (hst : S.st = []) (hsz : sz0 = S.tr.length) (hl1 : lo'.Nodup) (hl2 : ∀ y ∈ lo', y ∈ S.lo) (hl3 : ∀ y ∈ S.lo, y = hb ∨ y ∈ lo') :
    Iv C { S with lo := lo' } hd0 sz0 fun _ _ => False := by
  refine ⟨⟨h.wf.nvb, h.wf.cons, h.wf.nd, h.wf.wi, h.wf.trl, h.wf.hel, h.wf.lsl, Nat.le_trans (nodup_le hl1 hl2) h.wf.lol.1, fun y hy => h.wf.lol.2 y (hl2 y hy)⟩, h.hdl, h.st0, h.hd0l, h.sz0g, h.sz0l, h.w1, h.w3, h.w4, h.dm, fun c hc => ?_, h.src, h.cl, hl1, fun y hy j => h.lop.2 y (hl2 y hy) j⟩
  rcases h.cov c hc with hq | ⟨h', L2, u2, v2, q1, q2, q3⟩ | hq
  · exact Or.inl hq
  · by_cases hhh : h' = hb
    · subst hhh
      rw [hH] at q1
      simp only [Option.some.injEq, Prod.mk.injEq] at q1
      obtain ⟨rfl, rfl, rfl⟩ := q1
      obtain ⟨q, hq1, hq2⟩ := List.mem_iff_getElem.1 (lv_one.1 hx1)
      exact Or.inr (Or.inr ⟨x, (q2 x).1 hx, q, (List.getElem?_eq_getElem hq1).trans (by rw [hq2]), (fun s hs => by rw [show ({ S with lo := lo' } : WS).st = [] from hst] at hs; cases hs), by omega⟩)
    · exact Or.inr (Or.inl ⟨h', L2, u2, v2, q1, q2, q3.imp (fun q => (hl3 _ q).resolve_left hhh) id⟩)
  · exact Or.inr (Or.inr hq)
theorem nodup_leG {α : Type} [DecidableEq α] {l dom : List α} (hn : l.Nodup) (hs : ∀ x ∈ l, x ∈ dom) : l.length ≤ dom.length := by
  induction l generalizing dom with
  | nil => simp
  | cons a l ih =>
    rw [List.nodup_cons] at hn
    have ha := hs a (by simp)
    have := ih (dom := dom.erase a) hn.2 fun x hx => (List.mem_erase_of_ne (fun (e : x = a) => hn.1 (e ▸ hx))).2 (hs x (by simp [hx]))
    rw [List.length_erase_of_mem ha] at this
    have hp : 0 < dom.length := List.length_pos_of_mem ha
    simp only [List.length_cons]
    omega
theorem nf_two {tr L : List Int} (hnd : L.Nodup) (h : Open tr L) (hno : ¬ ∃ x ∈ L, lv tr x = 1) : 2 ≤ (nf tr L).length := by
  rcases h with h | ⟨x, hx, y, hy, hne, h1, h2⟩
  · exact absurd h hno
  · have h3 := nodup_leG (l := [x, y]) (dom := nf tr L) (by simp [hne]) fun z hz => by
      simp only [List.mem_cons, List.not_mem_nil, or_false] at hz
      rcases hz with rfl | rfl
      · exact List.mem_filter.2 ⟨hx, by simp [h1]⟩
      · exact List.mem_filter.2 ⟨hy, by simp [h2]⟩
    simpa using h3
def tTig (t : Int) : Prop := t = -7 ∨ t = -4 ∨ 0 ≤ t ∨ t = -6
theorem tighten30 {C : List (List Int)} {w : World} {b : Nat} {o : Nat → Int} {h : Hs} {S : WS} (hR : Rp noEx w b o h S) {hd0 sz0 : Nat} (hI : Iv C S hd0 sz0 fun _ _ => False) (hst : S.st = []) (hsz : sz0 = S.tr.length) (hop : ∀ h ∈ S.lo, ∀ L u v, S.H h = some (L, u, v) → Open S.tr L) :
    Calls Try.prog 30 #[Pt b] w fun e w' => e = .returned (.tuple #[]) ∧ ∃ S' : WS, Nx tTig noEx w b o S' w' ∧ Iv C S' hd0 sz0 (fun _ _ => False) ∧ S'.lo = [] ∧ S'.nv = S.nv ∧ S'.tr = S.tr ∧ S'.st = S.st ∧ S'.hd = S.hd ∧ S'.rest = S.rest ∧ S'.clash = S.clash := by
  refine (V30_calls (some ⟨b, 0, none⟩) w (fun v w' => v = .tuple #[] ∧ ∃ S' : WS, Nx tTig noEx w b o S' w' ∧ Iv C S' hd0 sz0 (fun _ _ => False) ∧ S'.lo = [] ∧ S'.nv = S.nv ∧ S'.tr = S.tr ∧ S'.st = S.st ∧ S'.hd = S.hd ∧ S'.rest = S.rest ∧ S'.clash = S.clash) ?_).mono fun e w' ⟨v, he, hv, hk⟩ => ⟨by rw [he, hv], hk⟩
  unfold V30
  let o0 : Nat → Int := fun i => if i < w.heap.size then o i else -9
  have ha0 : Ag w o o0 := fun i hi => if_pos hi
  have hn0 : ∀ i, w.heap.size ≤ i → o0 i = -9 := fun i hi => if_neg (by omega)
  have hR := hR.reown ha0
  refine alc_at fun bx w1 hbx hBx k1 => ?_
  have hR1 := hR.keep0 k1
  have z1 := k1.size
  have hbo : o0 bx = -9 := hn0 bx (by omega)
  refine ldP_of (x := some ⟨b, 0, none⟩) (hBx.cell 0) (nn_of (ldC_of (x := h.ll.1) (n := h.ll.2.1) (c := h.ll.2.2) (by rw [add_mk]; exact hR1.self.cell 5) ?_))
  have hlol := pts_len hR1.lo
  have hll := hI.wf.lol.1
  refine lp_of (fun s W => ∃ (i : Nat) (S1 : WS), s.1 = (i : Int) ∧ i ≤ S.lo.length ∧ Nx tAtt noEx w1 b o0 S1 W ∧ Iv C { S1 with lo := S.lo.drop i } hd0 sz0 (fun _ _ => False) ∧ S1.lo = S.lo ∧ S1.nv = S.nv ∧ S1.tr = S.tr ∧ S1.st = S.st ∧ S1.hd = S.hd ∧ S1.rest = S.rest ∧ S1.clash = S.clash ∧ (∀ h ∈ S.lo.drop i, S1.H h = S.H h)) (fun s _ => (S.lo.length - s.1).toNat)
    ⟨0, S, rfl, Nat.zero_le _, Nx.same hR1 (Keep.refl _ _), hI, rfl, rfl, rfl, rfl, rfl, rfl, rfl, fun _ _ => rfl⟩ ?_
  rintro ⟨i', ⟨⟩⟩ W ⟨i, S1, rfl, hi, ⟨o1, h1, hRW, haW, kW⟩, hI1, e1, e2, e3, e4, e5, e6, e7, hHH⟩
  simp only []
  have hBW : Blk W bx [Pt b] 22 := hBx.keep kW (by intro hh; have hh' : tAtt (o0 bx) := hh; rw [hbo] at hh'; unfold tAtt at hh'; omega)
  have hLoW : Own W 74 1 h.ll.1 h.ll.2.1 h.ll.2.2 (S.lo.map Pt) := hR1.lo.keep kW fun j hj hh => by
    have hh' : tAtt (o0 j) := hh
    rw [hR1.loO j hj] at hh'
    unfold tAtt at hh'; omega
  refine pif_of (fun hlt => ?_) fun hge => ?_
  · have hlt : i < S.lo.length := by have : (i : Int) < (h.ll.2.1 : Int) := by simpa using hlt
                                     omega
    rw [wrap_nat i (by omega)]
    obtain ⟨hb, hhb⟩ := getE hlt
    have hdrop : S.lo.drop i = hb :: S.lo.drop (i + 1) := by
      rw [List.drop_eq_getElem_cons hlt]
      rw [List.getElem?_eq_getElem hlt] at hhb
      injection hhb with hhb
      rw [hhb]
    have hnn : (S.lo.drop i).Nodup := hI1.lop.1
    rw [hdrop, List.nodup_cons] at hnn
    obtain ⟨L, u, v, hHb⟩ := hI1.wf.lol.2 hb (by show hb ∈ S.lo.drop i; rw [hdrop]; simp)
    have hHb : S1.H hb = some (L, u, v) := hHb
    have hHb0 : S.H hb = some (L, u, v) := by rw [← hHH hb (by rw [hdrop]; simp)]; exact hHb
    obtain ⟨hLw, hLn, hLl⟩ := hI1.wf.hel hb L u v hHb
    have hLw : ∀ x ∈ L, Wi S1.nv x := hLw
    obtain ⟨eo, lp, ln, lc, hBh, hRd, hO⟩ := hRW.hel hb L u v hHb
    have hcW : Cons S1.tr := hI1.wf.cons
    have hnvW : S1.nv ≤ 1048576 := hI1.wf.nvb
    refine ⟨fun _ W' => ∃ (S2 : WS), Nx tAtt noEx w1 b o0 S2 W' ∧ Iv C { S2 with lo := S.lo.drop (i + 1) } hd0 sz0 (fun _ _ => False) ∧ S2.lo = S.lo ∧ S2.nv = S.nv ∧ S2.tr = S.tr ∧ S2.st = S.st ∧ S2.hd = S.hd ∧ S2.rest = S.rest ∧ S2.clash = S.clash ∧ (∀ h ∈ S.lo.drop (i + 1), S2.H h = S.H h), ?_, ?_⟩
    rotate_left
    · rintro ⟨⟩ W' ⟨S2, a1, a2, a3, a4, a5, a6, a7, a8, a9, a10⟩
      exact ⟨⟨i + 1, S2, rfl, hlt, a1, a2, a3, a4, a5, a6, a7, a8, a9, a10⟩, by omega⟩
    refine hLoW.ix (by omega) (by omega) fun bq hbq => ?_
    have hLoW' := hLoW
    rw [hbq] at hLoW'
    refine ldP_of (x := some ⟨hb, 0, none⟩) (by rw [hLoW'.cell _ (by omega), Int.toNat_natCast, Nat.mul_one, List.getElem?_map, hhb]; rfl) ?_
    refine nn_of (ldC_of (x := lp) (n := ln) (c := lc) (by rw [add_mk]; exact hBh.cell 0) ?_)
    refine cl_of ok48 (has48 hRW hcW hnvW hBW hRd hLw hLl) fun e w3 ⟨r, he, hr, k3⟩ => ⟨r, he, ?_⟩
    have hRW3 := hRW.keep0 k3
    have l1 : (S.lo.drop (i + 1)).Nodup := hnn.2
    have l2 : ∀ y ∈ S.lo.drop (i + 1), y ∈ S.lo.drop i := fun y hy => by rw [hdrop]; exact List.mem_cons_of_mem _ hy
    have l3 : ∀ y ∈ S.lo.drop i, y = hb ∨ y ∈ S.lo.drop (i + 1) := fun y hy => by rw [hdrop] at hy; exact List.mem_cons.1 hy
    have z1W : w1.heap.size ≤ W.heap.size := kW.size
    refine pif_of (fun hn => ?_) fun hn => ?_
    · have hn : r = false := by simpa using hn
      subst hn
      have hno : ¬ ∃ x ∈ L, lv S1.tr x = 1 := fun hh => by cases hr.2 hh
      refine ldP_of (x := some ⟨b, 0, none⟩) ((hBW.keep0 k3).cell 0) ?_
      refine cl_of ok43 (attach43 hRW3 hcW hnvW hHb hLw hLl fun i ids hi => (hI1.wf.lsl i ids hi).1) fun e w4 ⟨v4, he4, hA⟩ => ?_
      have h2 := nf_two hLn (e3 ▸ hop hb (List.mem_of_getElem? hhb) L u v hHb0) hno
      rcases hA with ⟨hlt2, _⟩ | ⟨x, y, r, hnf, rfl, o4, h4, hR4, ha4, k4⟩
      · omega
      refine ⟨true, he4, { S1 with H := upd S1.H hb (L, x, y), ls := addW (addW S1.ls (idxN x) hb) (idxN y) hb }, ⟨o4, h4, hR4, haW.trans ha4 (Nat.le_trans z1W k3.size), (kW.then0 k3).trans k4 fun j hj hh => ?_⟩, ?_, e1, e2, e3, e4, e5, e6, e7, fun h' hh => ?_⟩
      · have hh' : tAtt (o1 j) := hh
        rw [haW j hj] at hh'
        exact hh'
      · have hxm : x ∈ nf S1.tr L := by rw [hnf]; simp
        have hym : y ∈ nf S1.tr L := by rw [hnf]; simp
        have hnn2 : (nf S1.tr L).Nodup := List.Nodup.sublist List.filter_sublist hLn
        have hne : x ≠ y := fun e => by
          rw [hnf, e] at hnn2
          exact (List.nodup_cons.1 hnn2).1 (by simp)
        obtain ⟨x1, x2⟩ := List.mem_filter.1 hxm
        obtain ⟨y1, y2⟩ := List.mem_filter.1 hym
        exact hI1.att (S := { S1 with lo := S.lo.drop i }) (lo' := S.lo.drop (i + 1)) hHb x1 y1 hne (by simpa using x2) (by simpa using y2) (hI1.lop.2 hb (by show hb ∈ S.lo.drop i; rw [hdrop]; simp)) hRW.ll l1 l2 l3 hnn.1
      · show upd S1.H hb (L, x, y) h' = S.H h'
        unfold upd
        rw [if_neg (fun (e : h' = hb) => hnn.1 (by rw [← e]; exact hh))]
        exact hHH h' (l2 h' hh)
    · have hn : r = true := by simpa using hn
      subst hn
      obtain ⟨x, hx, hx1⟩ := hr.1 rfl
      exact ⟨S1, ⟨o1, h1, hRW3, haW, kW.then0 k3⟩, hI1.drop (S := { S1 with lo := S.lo.drop i }) hHb hx hx1 (e4.trans hst) (by rw [hsz]; exact (congrArg List.length e3).symm) l1 l2 l3, e1, e2, e3, e4, e5, e6, e7, fun h' hh => hHH h' (l2 h' hh)⟩
  · have hge : i = S.lo.length := by have : ¬ (i : Int) < (h.ll.2.1 : Int) := by simpa using hge
                                     omega
    subst hge
    refine ldP_of (x := some ⟨b, 0, none⟩) (hBW.cell 0) (nn_of ?_)
    simp only [add_mk, Nat.zero_add, Nat.add_zero]
    refine st_of hRW.self (by simp) rfl fun w5 hB k5 z5 => ⟨trivial, { S1 with lo := [] }, ⟨o1, { h1 with ll := (none, 0, 0) }, ?_, ?_, ?_⟩, ?_, rfl, e2, e3, e4, e5, e6, e7⟩
    · have kk : Keep (fun j => (fun t : Int => t = -6) (o1 j)) W w5 := k5.mono fun j _ hj => by rw [show j = b from hj]; exact hRW.selfO
      exact hRW.turnSelf k5 (S' := { S1 with lo := [] }) (h' := { h1 with ll := (none, 0, 0) }) hB ⟨rfl, rfl, rfl, rfl⟩ ⟨rfl, rfl, rfl, rfl⟩ (Rp.own (T := fun t => t = -6) hRW.st hRW.stO kk (by decide)) hRW.stO (Own.nil _ _ _) (fun j ⟨a, hh, _⟩ => by cases hh)
    · exact (fun j hj => (haW j (by omega)).trans (ha0 j hj))
    · refine ((k1.none (S := fun i => tTig (o i))).trans kW fun j hj hh => ?_).trans k5 fun j hj hh => ?_
      · have hh' : tAtt (o0 j) := hh
        rw [ha0 j hj] at hh'
        show tTig (o j)
        unfold tAtt at hh'; unfold tTig; omega
      · have hjb : j = b := hh
        show tTig (o j)
        have h6 := hR.selfO
        rw [← ha0 j hj, hjb, h6]
        exact Or.inr (Or.inr (Or.inr rfl))
    · have hI2 := hI1
      rw [List.drop_length] at hI2
      exact hI2
end Go.Proofs.Ytjpblaenebodlaa.Wt

/- Watch: Run. -/
set_option linter.unusedVariables false
set_option linter.unusedSimpArgs false
set_option linter.unusedSectionVars false
set_option maxRecDepth 100000
namespace Go.Proofs.Ytjpblaenebodlaa.Wt
open Go Go.Proofs.Ytjpblaenebodlaa.Vc Go.Proofs.Ytjpblaenebodlaa.T
open Go.Proofs.Ytjpblaenebodlaa.Apart (RdL own_rdl wrap_nat getE own_len copy same take_snoc Sl sv New)
open Go.Proofs.Ytjpblaenebodlaa.Lits (fl fl_iff idx idx_inj idx_range Ans ans_of indexP formedP)

theorem Iv.flags {C : List (List Int)} {S : WS} {hd0 sz0 : Nat} {pend : Nat → Int → Prop} (h : Iv C S hd0 sz0 pend) (r c : Bool) : Iv C { S with rest := r, clash := c } hd0 sz0 pend :=
  ⟨⟨h.wf.nvb, h.wf.cons, h.wf.nd, h.wf.wi, h.wf.trl, h.wf.hel, h.wf.lsl, h.wf.lol⟩, h.hdl, h.st0, h.hd0l, h.sz0g, h.sz0l, h.w1, h.w3, h.w4, h.dm, h.cov, h.src, h.cl, h.lop⟩
section
variable {ex : Nat → Prop} {w : World} {b : Nat} {o : Nat → Int} {h : Hs} {S : WS}
theorem Rp.setRest (hR : Rp ex w b o h S) {r : Bool} {K : World → Prop} (hK : ∀ w', Rp ex w' b o h { S with rest := r } → Keep (One b) w w' → K w') : Vc.st w (((⟨b, 0, none⟩ : Addr).add 6).add 0) (.bool r) K := by
  simp only [add_mk, Nat.zero_add, Nat.add_zero]
  refine st_of hR.self (by simp) rfl fun w1 hB k1 z1 => hK w1 ?_ k1
  have kk : Keep (fun j => (fun t : Int => t = -6) (o j)) w w1 := k1.mono fun j _ hj => by rw [show j = b from hj]; exact hR.selfO
  exact hR.turnSelf k1 (S' := { S with rest := r }) (h' := h) hB ⟨rfl, rfl, rfl, rfl⟩ ⟨rfl, rfl, rfl, rfl⟩ (Rp.own (T := fun t => t = -6) hR.st hR.stO kk (by decide)) hR.stO (Rp.own (T := fun t => t = -6) hR.lo hR.loO kk (by decide)) hR.loO
theorem Rp.setClash (hR : Rp ex w b o h S) {r : Bool} {K : World → Prop} (hK : ∀ w', Rp ex w' b o h { S with clash := r } → Keep (One b) w w' → K w') : Vc.st w (((⟨b, 0, none⟩ : Addr).add 7).add 0) (.bool r) K := by
  simp only [add_mk, Nat.zero_add, Nat.add_zero]
  refine st_of hR.self (by simp) rfl fun w1 hB k1 z1 => hK w1 ?_ k1
  have kk : Keep (fun j => (fun t : Int => t = -6) (o j)) w w1 := k1.mono fun j _ hj => by rw [show j = b from hj]; exact hR.selfO
  exact hR.turnSelf k1 (S' := { S with clash := r }) (h' := h) hB ⟨rfl, rfl, rfl, rfl⟩ ⟨rfl, rfl, rfl, rfl⟩ (Rp.own (T := fun t => t = -6) hR.st hR.stO kk (by decide)) hR.stO (Rp.own (T := fun t => t = -6) hR.lo hR.loO kk (by decide)) hR.loO
theorem Rp.stLen (hR : Rp ex w b o h S) : S.st.length = h.ss.2.1 := by
  have := hR.st.len
  rw [List.length_map] at this
  omega
theorem depth14 (hR : Rp ex w b o h S) : Calls Try.prog 14 #[Pt b] w fun e w' => e = .returned (I (S.st.length : Nat)) ∧ Keep None w w' := by
  refine ans_of (V14_calls (some ⟨b, 0, none⟩) w (Ans w _) ?_)
  unfold V14
  refine nn_of (ldC_of (x := h.ss.1) (n := h.ss.2.1) (c := h.ss.2.2) (by rw [add_mk]; exact hR.self.cell 2) ?_)
  rw [← hR.stLen]
  exact ⟨rfl, Keep.refl _ _⟩
end
/-- nothing more follows -/
def Closed (C : List (List Int)) (tr : List Int) : Prop := ∀ c ∈ C, (∃ x ∈ c, -x ∈ c) ∨ (∃ x ∈ c, x ∈ tr) ∨ ∃ x ∈ c, ∃ y ∈ c, x ≠ y ∧ -x ∉ tr ∧ -y ∉ tr
theorem Iv.closed {C : List (List Int)} {S : WS} {hd0 sz0 : Nat} (h : Iv C S hd0 sz0 fun _ _ => False) (hhd : S.hd = S.tr.length) (hop : ∀ h ∈ S.lo, ∀ L u v, S.H h = some (L, u, v) → Open S.tr L) : Closed C S.tr := by
  intro c hc
  rcases h.cov c hc with hq | ⟨h', L, u, v, q1, q2, q3 | q3⟩ | ⟨x, hx, q, hq, _⟩
  · exact Or.inl hq
  · rcases hop h' q3 L u v q1 with ⟨x, hx, h1⟩ | ⟨x, hx, y, hy, hne, h1, h2⟩
    · exact Or.inr (Or.inl ⟨x, (q2 x).1 hx, lv_one.1 h1⟩)
    · exact Or.inr (Or.inr ⟨x, (q2 x).1 hx, y, (q2 y).1 hy, hne, (lv_nil.1 h1).2, (lv_nil.1 h2).2⟩)
  · obtain ⟨L2, u2, v2, e1, hu, hv, hne, _⟩ := h.w1 _ h' q3
    rw [q1] at e1
    simp only [Option.some.injEq, Prod.mk.injEq] at e1
    obtain ⟨rfl, rfl, rfl⟩ := e1
    have go : ∀ a b : Int, (a = u ∧ b = v ∨ a = v ∧ b = u) → -a ∈ S.tr → b ∈ S.tr := fun a b hab ha => by
      obtain ⟨p, hp1, hp2⟩ := List.mem_iff_getElem.1 ha
      rcases h.w4 _ h' L u v q3 q1 a b hab p ((List.getElem?_eq_getElem hp1).trans (by rw [hp2])) (by omega) with hf | ⟨q, hq, _⟩
      · exact hf.elim
      · exact List.mem_of_getElem? hq
    by_cases hnu : -u ∈ S.tr
    · exact Or.inr (Or.inl ⟨v, (q2 v).1 hv, go u v (Or.inl ⟨rfl, rfl⟩) hnu⟩)
    · by_cases hnv : -v ∈ S.tr
      · exact Or.inr (Or.inl ⟨u, (q2 u).1 hu, go v u (Or.inr ⟨rfl, rfl⟩) hnv⟩)
      · exact Or.inr (Or.inr ⟨u, (q2 u).1 hu, v, (q2 v).1 hv, hne, hnu, hnv⟩)
  · exact Or.inr (Or.inl ⟨x, hx, List.mem_of_getElem? hq⟩)
/-- what holds between calls -/
structure At (C : List (List Int)) (S : WS) : Prop where
  iv : Iv C S S.hd S.tr.length fun _ _ => False
  st1 : S.st.Pairwise (· ≤ ·)
  rest : S.rest = true → S.hd = S.tr.length ∧ Closed C S.tr
def RunOut (C : List (List Int)) (S : WS) (w : World) (b : Nat) (o : Nat → Int) (v : Bool) (w' : World) : Prop :=
  ∃ S', Nx tMine noEx w b o S' w' ∧ At C S' ∧ S'.nv = S.nv ∧ S'.st = S.st ∧ S'.rest = v ∧ S'.clash = (!v) ∧ (v = true → S.tr <+: S'.tr ∧ ∀ x ∈ S'.tr, Der C S.tr x) ∧ (v = false → S'.tr = S.tr ∧ Clash C S.tr)
theorem run10 {C : List (List Int)} {w : World} {b : Nat} {o : Nat → Int} {h : Hs} {S : WS} (hR : Rp noEx w b o h S) (hA : At C S) :
    Calls Try.prog 10 #[Pt b] w fun e w' => ∃ v : Bool, e = .returned (.bool v) ∧ RunOut C S w b o v w' := by
  refine (V10_calls (some ⟨b, 0, none⟩) w (fun r w' => ∃ v : Bool, r = .bool v ∧ RunOut C S w b o v w') ?_).mono fun e w' ⟨r, he, v, hv, hk⟩ => ⟨v, by rw [he, hv], hk⟩
  unfold V10
  have kd : Keep None w w.drew := (Keep.refl _ _).drew
  have hRd := hR.keep0 kd
  have htl := own_len hRd.tr
  have hwf := hA.iv.wf
  refine nn_of (ldC_of (x := h.tt.1) (n := h.tt.2.1) (c := h.tt.2.2) (by rw [add_mk]; exact hRd.self.cell 1) (nn_of (ldI_of (by rw [add_mk]; exact hRd.self.cell 3) ?_)))
  have hSp : Sp C S w.drew b o w.drew S := ⟨⟨o, h, hRd, Ag.refl _ _⟩, hA.iv, Fr.refl S, fun x hx => Der.fact hx, Keep.refl _ _⟩
  refine cl_of ok29 (spread29 hSp) fun e w1 ⟨v, he, hO⟩ => ?_
  rcases hO with ⟨rfl, S1, hS1, hhd1, hop1⟩ | ⟨rfl, S1, pend, ⟨o1, h1, hR1, ha1⟩, hI1, hpend, hF1, hcl, k1⟩
  · refine ⟨true, he, fun _ W' => W' = w1, pif_f rfl rfl, ?_⟩
    rintro ⟨⟩ W' rfl
    obtain ⟨o1, h1, hR1, ha1⟩ := hS1.rp
    have hI1 := hS1.iv.rebase
    have hclo := hI1.closed hhd1 hop1
    have k1 : Keep (fun i => tMine (o i)) w W' := (kd.none (S := fun i => tMine (o i))).trans hS1.kp fun j hj hh => hh
    refine ⟨fun _ W2 => ∃ S2, Nx tMine noEx w b o S2 W2 ∧ Iv C S2 S1.hd S1.tr.length (fun _ _ => False) ∧ S2.nv = S.nv ∧ S2.tr = S1.tr ∧ S2.st = S.st ∧ S2.hd = S1.hd, ?_, ?_⟩
    · refine gd_t rfl (cl_of ok14 (depth14 hR1) fun e w2 ⟨he2, k2⟩ => ⟨_, he2, ?_⟩)
      have hR2 := hR1.keep0 k2
      refine pif_of (fun h0 => ?_) fun h0 => ?_
      · have h0 : S1.st = [] := by
          have : (S1.st.length : Int) = 0 := by simpa using h0
          exact List.eq_nil_of_length_eq_zero (by omega)
        refine cl_of ok30 (tighten30 hR2 hI1 h0 rfl hop1) fun e w3 ⟨he3, S2, ⟨o2, h2, hR3, ha2, k3⟩, hI2, b1, b2, b3, b4, b5, _, _⟩ => ⟨he3, S2, ⟨o2, h2, hR3, ?_, ?_⟩, hI2, b2.trans hS1.fr.nv, b3, b4.trans hS1.fr.st, b5⟩
        · exact Ag.trans ha1 ha2 (Nat.le_trans hS1.kp.size k2.size)
        · refine (k1.then0 k2).trans k3 fun j hj hh => ?_
          have hh' : tTig (o1 j) := hh
          rw [ha1 j (Nat.lt_of_lt_of_le hj kd.size)] at hh'
          show o j ≠ -9
          unfold tTig at hh'; omega
      · exact ⟨S1, ⟨o1, h1, hR2, ha1, k1.then0 k2⟩, hI1, hS1.fr.nv, rfl, hS1.fr.st, rfl⟩
    · rintro ⟨⟩ W2 ⟨S2, ⟨o2, h2, hR2, ha2, k2⟩, hI2, b1, b2, b3, b4⟩
      simp only []
      refine nn_of (hR2.setRest fun w5 hR5 k5 => nn_of (hR5.setClash fun w6 hR6 k6 => ⟨true, rfl, _, ⟨o2, h2, hR6, ha2, ?_⟩, ⟨?_, by rw [show ({ S2 with rest := true, clash := !true } : WS).st = S.st from b3]; exact hA.st1, fun _ => ⟨by show S2.hd = S2.tr.length; rw [b4, b2]; exact hhd1, by show Closed C S2.tr; rw [b2]; exact hclo⟩⟩, b1, b3, rfl, rfl, fun _ => ⟨by show S.tr <+: S2.tr; rw [b2]; exact hS1.fr.pre, fun x hx => hS1.der x (by rw [← b2]; exact hx)⟩, fun hf => by cases hf⟩))
      · exact (k2.trans k5 fun j hj hh => by rw [show j = b from hh]; exact fun e => by have := ha2 b (by rw [← show j = b from hh]; exact hj); have := hR2.selfO; omega).trans k6 fun j hj hh => by rw [show j = b from hh]; exact fun e => by have := ha2 b (by rw [← show j = b from hh]; exact hj); have := hR2.selfO; omega
      · have := hI2.flags true (!true)
        rw [← b4, ← b2] at this
        exact this
  · have k1' : Keep (fun i => tMine (o i)) w w1 := (kd.none (S := fun i => tMine (o i))).trans k1 fun j hj hh => hh
    have hw1 := hI1.wf
    have hIb := hI1.back hpend
    have hpre : S1.tr.take S.tr.length = S.tr := (List.prefix_iff_eq_take.1 hF1.pre).symm
    have hhl := hI1.hdl
    refine ⟨false, he, fun _ W2 => Nx tMine noEx w b o { S1 with tr := S.tr, hd := S.hd } W2, ?_, ?_⟩
    · refine pif_t rfl ?_
      rw [← htl]
      refine cl_of ok28 (cut28 hR1 hw1.nvb hw1.cons hw1.nd hw1.wi (by have := hw1.trl; omega) hw1.trl hF1.pre.length_le) fun e w3 ⟨he3, o3, h3, hR3, ha3, k3⟩ => ⟨he3, nn_of (hR3.setHd fun w4 hR4 k4 => ?_)⟩
      rw [hpre] at hR4
      refine ⟨o3, h3, hR4, Ag.trans ha1 ha3 k1.size, (k1'.trans k3 fun j hj hh => ?_).trans k4 fun j hj hh => ?_⟩
      · have hh' : tPut (o1 j) := hh
        rw [ha1 j (Nat.lt_of_lt_of_le hj kd.size)] at hh'
        show o j ≠ -9
        unfold tPut at hh'; omega
      · rw [show j = b from hh]
        have h6 := hR.selfO
        exact fun e => by omega
    · rintro ⟨⟩ W2 ⟨o2, h2, hR2, ha2, k2⟩
      refine ⟨fun _ W3 => W3 = W2, gd_f rfl (pif_f rfl rfl), ?_⟩
      rintro ⟨⟩ W3 rfl
      have h6 := hR.selfO
      refine nn_of (hR2.setRest fun w5 hR5 k5 => nn_of (hR5.setClash fun w6 hR6 k6 => ⟨false, rfl, _, ⟨o2, h2, hR6, ha2, ?_⟩, ⟨?_, by show S1.st.Pairwise _; rw [hF1.st]; exact hA.st1, (fun hh => by cases hh)⟩, hF1.nv, hF1.st, rfl, rfl, (fun hf => by cases hf), fun _ => ⟨rfl, hcl⟩⟩))
      · exact (k2.trans k5 fun j hj hh => by rw [show j = b from hh]; exact fun e => by omega).trans k6 fun j hj hh => by rw [show j = b from hh]; exact fun e => by omega
      · rw [hpre] at hIb
        exact hIb.flags false (!false)
end Go.Proofs.Ytjpblaenebodlaa.Wt

/- Watch: tautologies; a literal's bounds. -/
set_option linter.unusedVariables false
set_option linter.unusedSimpArgs false
set_option linter.unusedSectionVars false
set_option maxRecDepth 100000
namespace Go.Proofs.Ytjpblaenebodlaa.Wt
open Go Go.Proofs.Ytjpblaenebodlaa.Vc Go.Proofs.Ytjpblaenebodlaa.T
open Go.Proofs.Ytjpblaenebodlaa.Apart (RdL own_rdl wrap_nat getE own_len copy same take_snoc Sl sv New)
open Go.Proofs.Ytjpblaenebodlaa.Lits (fl fl_iff idx idx_inj idx_range Ans ans_of indexP formedP tidyP Td Srt)

def taut (c : List Int) : Prop := ∃ x ∈ c, -x ∈ c
theorem taut_adj {L : List Int} (hs : Srt L) (hf : ∀ x ∈ L, fl x = true) : (∃ i x, L[i + 1]? = some x ∧ L[i]? = some (-x)) ↔ taut L := by
  constructor
  · rintro ⟨i, x, h1, h2⟩
    exact ⟨x, List.mem_of_getElem? h1, List.mem_of_getElem? h2⟩
  · rintro ⟨x, hx, hnx⟩
    obtain ⟨y, hy0, hy, hny⟩ : ∃ y : Int, 0 < y ∧ y ∈ L ∧ -y ∈ L := by
      have h0 := (fl_iff.1 (hf x hx)).1
      by_cases hlt : x < 0
      · exact ⟨-x, by omega, hnx, by rw [Int.neg_neg]; exact hx⟩
      · exact ⟨x, by omega, hx, hnx⟩
    obtain ⟨i, hi, hie⟩ := List.mem_iff_getElem.1 hy
    obtain ⟨j, hj, hje⟩ := List.mem_iff_getElem.1 hny
    have hp := List.pairwise_iff_getElem.1 hs
    have e1 : idx (-y) = idx y + 1 := by unfold idx; split <;> split <;> omega
    have hij : j = i + 1 := by
      rcases Nat.lt_trichotomy j (i + 1) with h | h | h
      · rcases Nat.lt_or_eq_of_le (Nat.le_of_lt_succ h) with h' | h'
        · have := hp j i hj hi h'
          rw [hie, hje] at this; omega
        · subst h'
          rw [hie] at hje; omega
      · exact h
      · have h1 := hp i (i + 1) hi (by omega) (by omega)
        have h2 := hp (i + 1) j (by omega) hj h
        rw [hie] at h1; rw [hje] at h2; omega
    subst hij
    exact ⟨i, -y, (List.getElem?_eq_getElem hj).trans (by rw [hje]), (List.getElem?_eq_getElem hi).trans (by rw [hie, Int.neg_neg])⟩
theorem taut42 {w : World} {p : Option Addr} {n c : Nat} {cs : List Int} (hRd : RdL w p n cs) (hn : n ≤ 17592186044416) (hf : ∀ x ∈ cs, fl x = true) :
    Calls Try.prog 42 #[.slice p n c] w fun e w' => ∃ r : Bool, e = .returned (.bool r) ∧ (r = true ↔ taut cs) ∧ Keep None w w' := by
  refine (V42_calls p n c w (fun v w' => ∃ r : Bool, v = .bool r ∧ (r = true ↔ taut cs) ∧ Keep None w w') ?_).mono fun e w' ⟨v, he, r, hv, hk⟩ => ⟨r, by rw [he, hv], hk⟩
  unfold V42
  refine cl_of ok40 (tidyP hRd hn) fun e w1 ⟨v, L, he, hT, g, gc, hv, hO, hg, k1⟩ => ⟨_, _, _, he.trans (congrArg Ending.returned hv), ?_⟩
  have hLf : ∀ x ∈ L, fl x = true := fun x hx => ((hT.mem x).1 hx).2
  have hm : ∀ x, x ∈ L ↔ x ∈ cs := fun x => ⟨fun h => ((hT.mem x).1 h).1, fun h => (hT.mem x).2 ⟨h, hf x h⟩⟩
  have htt : taut L ↔ taut cs := by unfold taut; simp only [hm]
  have hRL := own_rdl hO
  have hLl : L.length ≤ 2097153 := by
    have h1 : (L.map fun x => (idx x).toNat).Nodup := by
      rw [List.Nodup, List.pairwise_map]
      refine (List.Pairwise.and_mem.1 hT.srt).imp ?_
      rintro a b ⟨ha, hb, hlt⟩
      have := (idx_range (hLf a ha)).1
      omega
    have := nodup_le (dom := List.range 2097153) h1 fun x hx => by
      obtain ⟨y, hy, rfl⟩ := List.mem_map.1 hx
      have := idx_range (hLf y hy)
      exact List.mem_range.2 (by omega)
    simpa using this
  refine lp_of (fun s W => ∃ i : Nat, s.1 = (i + 1 : Nat) ∧ (i = 0 ∨ i + 1 ≤ L.length) ∧ Keep None w1 W ∧ ∀ j x, j < i → L[j + 1]? = some x → L[j]? ≠ some (-x)) (fun s _ => (L.length - s.1).toNat) ⟨0, rfl, Or.inl rfl, Keep.refl _ _, fun j x hj => by omega⟩ ?_
  rintro ⟨i', ⟨⟩⟩ W ⟨i, rfl, hi, kW, hv⟩
  simp only [] at hv ⊢
  have kd : Keep None w1 W.drew := kW.drew
  refine pif_of (fun hlt => ?_) fun hge => ?_
  · have hlt : i + 1 < L.length := by have := of_decide_eq_true hlt
                                      omega
    refine (hRL.keep0 kW).ix hlt fun a x hx ha => ldI_of (by first | exact ha | simpa using ha) ?_
    have e1 : IntKind.wrap .i64 (((i + 1 : Nat) : Int) - 1) = (i : Nat) := by rw [IntKind.wrap_i64]; omega
    rw [e1]
    refine (hRL.keep0 kd).ix (by omega) fun a2 y hy ha2 => ldI_of ha2 ?_
    have hyf := fl_iff.1 (hLf y (List.mem_of_getElem? hy))
    have e2 : IntKind.wrap .i64 (0 - y) = -y := by rw [IntKind.wrap_i64]; omega
    rw [e2]
    refine pif_of (fun h => ?_) fun h => ?_
    · have h : x = -y := by simpa using h
      exact ⟨true, rfl, ⟨fun _ => htt.1 ((taut_adj hT.srt hLf).1 ⟨i, x, hx, by rw [hy, h, Int.neg_neg]⟩), fun _ => rfl⟩, k1.then0 kd⟩
    · have h : x ≠ -y := by simpa using h
      rw [wrap_nat (i + 1) (by omega)]
      refine ⟨⟨i + 1, rfl, Or.inr (by omega), kd, fun j z hj hz hh => ?_⟩, by omega⟩
      rcases Nat.lt_or_eq_of_le (Nat.le_of_lt_succ hj) with hj | rfl
      · exact hv j z hj hz hh
      · rw [hx] at hz; injection hz with hz; subst hz
        rw [hy] at hh; injection hh with hh; omega
  · have hge : ¬ i + 1 < L.length := by intro hh; have := of_decide_eq_false hge
                                        omega
    refine ⟨false, rfl, ⟨fun hh => (by cases hh), fun hh => ?_⟩, k1.then0 kW⟩
    obtain ⟨j, x, h1, h2⟩ := (taut_adj hT.srt hLf).2 (htt.2 hh)
    have hjl := (List.getElem?_eq_some_iff.1 h1).1
    exact absurd h2 (hv j x (by omega) h1)
end Go.Proofs.Ytjpblaenebodlaa.Wt

/- Watch: a clause more. -/
set_option linter.unusedVariables false
set_option linter.unusedSimpArgs false
set_option linter.unusedSectionVars false
set_option maxRecDepth 100000
namespace Go.Proofs.Ytjpblaenebodlaa.Wt
open Go Go.Proofs.Ytjpblaenebodlaa.Vc Go.Proofs.Ytjpblaenebodlaa.T
open Go.Proofs.Ytjpblaenebodlaa.Apart (RdL own_rdl wrap_nat getE own_len copy same take_snoc Sl sv New)
open Go.Proofs.Ytjpblaenebodlaa.Lits (fl fl_iff idx idx_inj idx_range Ans ans_of indexP formedP tidyP Td Srt)

section
variable {C : List (List Int)} {S : WS} {hd0 sz0 : Nat} {pend : Nat → Int → Prop}
theorem Iv.tautC (h : Iv C S hd0 sz0 pend) {c : List Int} (ht : taut c) (hC : C.length + 1 ≤ cap) : Iv (C ++ [c]) S hd0 sz0 pend := by
  refine ⟨h.wf, h.hdl, h.st0, h.hd0l, h.sz0g, h.sz0l, h.w1, h.w3, h.w4, ?_, fun c' hc => ?_, fun h' L u v hH => ?_, by rw [List.length_append]; exact hC, h.lop⟩
  · obtain ⟨dom, hd, hm⟩ := h.dm
    exact ⟨dom, by rw [List.length_append]; omega, hm⟩
  · rcases List.mem_append.1 hc with hc | hc
    · exact h.cov c' hc
    · rw [List.mem_singleton.1 hc]; exact Or.inl ht
  · obtain ⟨c', hc, hcl⟩ := h.src h' L u v hH
    exact ⟨c', List.mem_append_left _ hc, hcl⟩
theorem Iv.more (h : Iv C S hd0 sz0 fun _ _ => False) {hb : Nat} {L c : List Int} (hH : S.H hb = none) (hw : ∀ x ∈ L, Wi S.nv x) (hn : L.Nodup) (hl : L.length ≤ 2097153) (hm : ∀ x, x ∈ L ↔ x ∈ c) (hC : C.length + 1 ≤ cap) :
    Iv (C ++ [c]) { S with H := upd S.H hb (L, 0, 0), lo := S.lo ++ [hb] } hd0 sz0 fun _ _ => False := by
  have Hh : upd S.H hb (L, 0, 0) hb = some (L, 0, 0) := if_pos rfl
  have Ho : ∀ {h' : Nat}, h' ≠ hb → upd S.H hb (L, 0, 0) h' = S.H h' := fun hne' => if_neg hne'
  have ne : ∀ {h' : Nat} {x : List Int × Int × Int}, S.H h' = some x → h' ≠ hb := fun hx e => by rw [e, hH] at hx; cases hx
  have nin : ∀ i, ¬ hIn S.ls i hb := fun i hi => by
    obtain ⟨L', u', v', q, _⟩ := h.w1 i hb hi
    rw [hH] at q; cases q
  have nlo : hb ∉ S.lo := fun hh => by
    obtain ⟨L', u', v', q⟩ := h.wf.lol.2 hb hh
    rw [hH] at q; cases q
  have hlo' : (S.lo ++ [hb]).Nodup := List.nodup_append.2 ⟨h.lop.1, by simp, fun x hx y hy => by
    rw [List.mem_singleton.1 hy]
    rintro rfl
    exact nlo hx⟩
  have dm' : ∃ dom : List Nat, dom.length ≤ (C ++ [c]).length ∧ ∀ h', upd S.H hb (L, 0, 0) h' ≠ none → h' ∈ dom := by
    obtain ⟨dom, hd, hmm⟩ := h.dm
    refine ⟨hb :: dom, by rw [List.length_append]; simp; omega, fun h' hh => ?_⟩
    by_cases hhh : h' = hb
    · rw [hhh]; simp
    · rw [Ho hhh] at hh
      exact List.mem_cons_of_mem _ (hmm h' hh)
  have lo2 : ∀ y ∈ S.lo ++ [hb], ∃ L' u' v', upd S.H hb (L, 0, 0) y = some (L', u', v') := fun y hy => by
    rcases List.mem_append.1 hy with hy | hy
    · obtain ⟨L', u', v', q⟩ := h.wf.lol.2 y hy
      exact ⟨L', u', v', (Ho (ne q)).trans q⟩
    · rw [List.mem_singleton.1 hy]; exact ⟨_, _, _, Hh⟩
  have lol : (S.lo ++ [hb]).length ≤ cap := by
    obtain ⟨dom, hd, hmm⟩ := dm'
    refine Nat.le_trans (nodup_le hlo' fun y hy => hmm y ?_) (Nat.le_trans hd (by rw [List.length_append]; exact hC))
    obtain ⟨L', u', v', q⟩ := lo2 y hy
    rw [q]; simp
  refine ⟨⟨h.wf.nvb, h.wf.cons, h.wf.nd, h.wf.wi, h.wf.trl, fun h' L2 u2 v2 hH2 => ?_, fun i ids hi => ⟨(h.wf.lsl i ids hi).1, fun y hy => ?_⟩, Nat.le_trans lol (by decide), lo2⟩, h.hdl, h.st0, h.hd0l, h.sz0g, h.sz0l, fun i h' hi => ?_, h.w3, fun i h' L2 u2 v2 hi hH2 => ?_, dm', fun c' hc => ?_, fun h' L2 u2 v2 hH2 => ?_, by rw [List.length_append]; exact hC, hlo', fun y hy i => ?_⟩
  · have hH2' : upd S.H hb (L, 0, 0) h' = some (L2, u2, v2) := hH2
    by_cases hhh : h' = hb
    · subst hhh
      rw [Hh] at hH2'
      simp only [Option.some.injEq, Prod.mk.injEq] at hH2'
      obtain ⟨rfl, rfl, rfl⟩ := hH2'
      exact ⟨hw, hn, hl⟩
    · rw [Ho hhh] at hH2'; exact h.wf.hel h' L2 u2 v2 hH2'
  · obtain ⟨L', u', v', q1, q2, q3⟩ := (h.wf.lsl i ids hi).2 y hy
    exact ⟨L', u', v', (Ho (ne q1)).trans q1, q2, q3⟩
  · obtain ⟨L', u', v', q1, q⟩ := h.w1 i h' hi
    exact ⟨L', u', v', (Ho (ne q1)).trans q1, q⟩
  · have hH2' : upd S.H hb (L, 0, 0) h' = some (L2, u2, v2) := hH2
    have hi' : hIn S.ls i h' := hi
    rw [Ho (fun e => nin i (e ▸ hi'))] at hH2'
    exact h.w4 i h' L2 u2 v2 hi' hH2'
  · rcases List.mem_append.1 hc with hc | hc
    · rcases h.cov c' hc with hq | ⟨h', L2, u2, v2, q1, q2, q3⟩ | hq
      · exact Or.inl hq
      · exact Or.inr (Or.inl ⟨h', L2, u2, v2, (Ho (ne q1)).trans q1, q2, q3.imp (fun q => List.mem_append_left _ q) id⟩)
      · exact Or.inr (Or.inr hq)
    · rw [List.mem_singleton.1 hc]
      exact Or.inr (Or.inl ⟨hb, L, 0, 0, Hh, hm, Or.inl (by show hb ∈ S.lo ++ [hb]; simp)⟩)
  · have hH2' : upd S.H hb (L, 0, 0) h' = some (L2, u2, v2) := hH2
    by_cases hhh : h' = hb
    · subst hhh
      rw [Hh] at hH2'
      simp only [Option.some.injEq, Prod.mk.injEq] at hH2'
      obtain ⟨rfl, rfl, rfl⟩ := hH2'
      exact ⟨c, by simp, hm⟩
    · rw [Ho hhh] at hH2'
      obtain ⟨c', hc', hcl⟩ := h.src h' L2 u2 v2 hH2'
      exact ⟨c', List.mem_append_left _ hc', hcl⟩
  · rcases List.mem_append.1 hy with hy | hy
    · exact h.lop.2 y hy i
    · rw [List.mem_singleton.1 hy]; exact nin i
end
section
variable {w w' : World} {b : Nat} {o : Nat → Int} {h : Hs} {S : WS}
/-- a clause's block, new -/
theorem Rp.addH {ex : Nat → Prop} (hR : Rp ex w b o h S) {hb : Nat} {lp : Option Addr} {ln lc : Nat} {L : List Int} {u v : Int} (ho : o hb = -7) (hB : Blk w hb [.slice lp ln lc, I u, I v] 77) (hL : RdL w lp ln L) (hO : ∀ j, ob lp j → o j = -8 ∧ j < w.heap.size) :
    Rp ex w b o h { S with H := upd S.H hb (L, u, v) } :=
  ⟨hR.self, hR.selfO, hR.va, hR.vaO, hR.tr, hR.trO, hR.st, hR.stO, hR.out, hR.outO, hR.hl, hR.ll, hR.inn, hR.innO, hR.lo, hR.loO, fun i L2 u2 v2 hH => by
    have hH' : upd S.H hb (L, u, v) i = some (L2, u2, v2) := hH
    unfold upd at hH'
    by_cases hi : i = hb
    · rw [if_pos hi] at hH'
      simp only [Option.some.injEq, Prod.mk.injEq] at hH'
      obtain ⟨rfl, rfl, rfl⟩ := hH'
      subst hi
      exact ⟨ho, lp, ln, lc, hB, hL, hO⟩
    · rw [if_neg hi] at hH'
      exact hR.hel i L2 u2 v2 hH'⟩
def tLo (t : Int) : Prop := t = -5 ∨ t = -6
/-- one loose clause more -/
theorem pushLo (hR : Rp noEx w b o h S) {hb bb : Nat} (hlen : S.lo.length ≤ 17592186044415) (hB : Blk w bb [Pt hb] 74) {K : World → Prop} (hK : ∀ w', Nx tLo noEx w b o { S with lo := S.lo ++ [hb] } w' → K w') :
    ∃ (p' : Option Addr) (n' c' : Nat), ∃ w' : World, (Builtin.append_ #[62, 62] 62 #[.slice h.ll.1 h.ll.2.1 h.ll.2.2, .slice (some (⟨bb, 0, none⟩ : Addr)) 1 1]).run Try.prog w = .ok (.slice p' n' c') w' ∧
      nn (some ⟨b, 0, none⟩) fun p20 => Vc.st w' ((p20.add 5).add 0) (.slice p' n' c') K := by
  have hO := hR.lo
  have hn := pts_len hO
  refine app_of2 (e := 74) (sz := 1) (z := .pointer none) (B := 8) Try.underlying62 (by kernel_rfl) rfl (by omega) hO hB.news1 (fun u hu => ?_) (by simp only [maxLen]; omega) (by omega) fun p' c' w' hO' hd => ?_
  · simp only [List.mem_singleton] at hu; subst hu; rfl
  have key : ∃ o' : Nat → Int, Ag w o o' ∧ (∀ j, ob p' j → o' j = -5) ∧ Keep (fun j => o j = -5) w w' := by
    rcases hd with ⟨e, _, _, kk⟩ | ⟨e, kk⟩
    · exact ⟨o, Ag.refl _ _, fun j hj => hR.loO j (by rw [e] at hj; exact hj), kk.mono fun j _ hj => hR.loO j hj⟩
    · exact ⟨fun j => if j < w.heap.size then o j else -5, fun j hj => if_pos hj, fun j hj => if_neg (by have := e j hj; omega), kk.none⟩
  obtain ⟨o', ha, hg, kk⟩ := key
  have hR' := hR.reown ha
  have k' : Keep (fun j => (fun t : Int => t = -5) (o' j)) w w' := kk.mono fun j hj hh => by show o' j = -5; rw [ha j hj]; exact hh
  have self' := Rp.selfK (T := fun t => t = -5) hR' k' (by decide)
  refine nn_of ?_
  simp only [add_mk, Nat.zero_add, Nat.add_zero]
  refine st_of self' (by simp) rfl fun w5 hB5 k5 z5 => hK w5 ?_
  have k56 : Keep (fun j => (fun t : Int => tLo t) (o' j)) w w5 := (k'.mono fun j _ hh => Or.inl hh).trans k5 fun j _ hj => Or.inr (by rw [show j = b from hj]; exact hR'.selfO)
  have one : ∀ j, One b j → o' j = -6 := fun j hj => by rw [show j = b from hj]; exact hR'.selfO
  have n5 : ∀ {t : Int}, t ≠ -5 → t ≠ -6 → ¬ tLo t := fun h1 h2 hh => by unfold tLo at hh; omega
  refine ⟨o', { h with ll := (p', h.ll.2.1 + 1, c') }, ⟨hB5, hR'.selfO, Rp.own (T := tLo) hR'.va hR'.vaO k56 (n5 (by decide) (by decide)), hR'.vaO, Rp.own (T := tLo) hR'.tr hR'.trO k56 (n5 (by decide) (by decide)), hR'.trO,
    Rp.own (T := tLo) hR'.st hR'.stO k56 (n5 (by decide) (by decide)), hR'.stO, Rp.own (T := tLo) hR'.out hR'.outO k56 (n5 (by decide) (by decide)), hR'.outO, hR'.hl, hR'.ll, Rp.innK (S := S) (h := h) (T := tLo) hR' k56 (fun t ht => n5 (by omega) (by omega)), Rp.innOK (S := S) (h := h) hR' k56,
    ?_, hg, Rp.helK (S := S) (T := tLo) hR' k56 (n5 (by decide) (by decide)) (n5 (by decide) (by decide))⟩, ha, ?_⟩
  · show Own w5 74 1 p' (h.ll.2.1 + 1) c' ((S.lo ++ [hb]).map Pt)
    rw [List.map_append]
    exact hO'.keep k5 fun j hj hh => by have := hg j hj; have := one j hh; omega
  · exact k56.mono fun j hj hh => by rw [ha j hj] at hh; exact hh
end
end Go.Proofs.Ytjpblaenebodlaa.Wt

/- Watch: hold. -/
set_option linter.unusedVariables false
set_option linter.unusedSimpArgs false
set_option linter.unusedSectionVars false
set_option maxRecDepth 100000
namespace Go.Proofs.Ytjpblaenebodlaa.Wt
open Go Go.Proofs.Ytjpblaenebodlaa.Vc Go.Proofs.Ytjpblaenebodlaa.T
open Go.Proofs.Ytjpblaenebodlaa.Apart (RdL own_rdl wrap_nat getE own_len copy same take_snoc Sl sv New)
open Go.Proofs.Ytjpblaenebodlaa.Lits (fl fl_iff idx idx_inj idx_range Ans ans_of indexP formedP tidyP Td Srt)

/-- what a clause more leaves as it was -/
structure Fh (S S' : WS) : Prop where
  nv : S'.nv = S.nv
  tr : S'.tr = S.tr
  st : S'.st = S.st
  hd : S'.hd = S.hd
  rest : S'.rest = S.rest
  clash : S'.clash = S.clash
theorem Fh.refl (S : WS) : Fh S S := ⟨rfl, rfl, rfl, rfl, rfl, rfl⟩
theorem upd_twice (H : Nat → Option (List Int × Int × Int)) (hb : Nat) (x y : List Int × Int × Int) : upd (upd H hb x) hb y = upd H hb y := by
  funext j
  unfold upd
  by_cases hj : j = hb
  · rw [if_pos hj, if_pos hj]
  · rw [if_neg hj, if_neg hj, if_neg hj]
theorem srt_len {L : List Int} (hs : Srt L) (hf : ∀ x ∈ L, fl x = true) : L.length ≤ 2097153 ∧ L.Nodup := by
  have h1 : (L.map fun x => (idx x).toNat).Nodup := by
    rw [List.Nodup, List.pairwise_map]
    refine (List.Pairwise.and_mem.1 hs).imp ?_
    rintro a b ⟨ha, hb, hlt⟩
    have := (idx_range (hf a ha)).1
    omega
  have := nodup_le (dom := List.range 2097153) h1 fun x hx => by
    obtain ⟨y, hy, rfl⟩ := List.mem_map.1 hx
    have := idx_range (hf y hy)
    exact List.mem_range.2 (by omega)
  exact ⟨by simpa using this, hs.imp fun h e => by rw [e] at h; omega⟩
theorem hold24 {C : List (List Int)} {w : World} {b : Nat} {o : Nat → Int} {h : Hs} {S : WS} (hR : Rp noEx w b o h S) {hd0 sz0 : Nat} (hI : Iv C S hd0 sz0 fun _ _ => False) {p : Option Addr} {n c : Nat} {cs : List Int} (hRd : RdL w p n cs) (hn : n ≤ 17592186044416) (hw : ∀ x ∈ cs, Wi S.nv x) (hC : C.length + 1 ≤ cap) :
    Calls Try.prog 24 #[Pt b, .slice p n c] w fun e w' => e = .returned (.tuple #[]) ∧ ∃ S' : WS, Nx tMine noEx w b o S' w' ∧ Iv (C ++ [cs]) S' hd0 sz0 (fun _ _ => False) ∧ Fh S S' := by
  refine (V24_calls (some ⟨b, 0, none⟩) p n c w (fun v w' => v = .tuple #[] ∧ ∃ S' : WS, Nx tMine noEx w b o S' w' ∧ Iv (C ++ [cs]) S' hd0 sz0 (fun _ _ => False) ∧ Fh S S') ?_).mono fun e w' ⟨v, he, hv, hk⟩ => ⟨by rw [he, hv], hk⟩
  unfold V24
  have hnv := hI.wf.nvb
  have hf : ∀ x ∈ cs, fl x = true := fun x hx => wi_fl hnv (hw x hx)
  refine cl_of ok42 (taut42 hRd hn hf) fun e w1 ⟨r, he, hr, k1⟩ => ⟨r, he, ?_⟩
  refine pif_of (fun ht => ⟨rfl, S, Nx.same hR k1, hI.tautC (hr.1 ht) hC, Fh.refl S⟩) fun ht => ?_
  refine cl_of ok40 (tidyP (hRd.keep0 k1) hn) fun e w2 ⟨v, L, he, hT, g, gc, hv, hO, hg, k2⟩ => ⟨_, _, _, he.trans (congrArg Ending.returned hv), ?_⟩
  have hm : ∀ x, x ∈ L ↔ x ∈ cs := fun x => ⟨fun h => ((hT.mem x).1 h).1, fun h => (hT.mem x).2 ⟨h, hf x h⟩⟩
  have hLw : ∀ x ∈ L, Wi S.nv x := fun x hx => hw x ((hm x).1 hx)
  obtain ⟨hLl, hLn⟩ := srt_len hT.srt fun x hx => ((hT.mem x).1 hx).2
  refine alc_at fun hb w3 hhb hB k3 => ?_
  have z1 := k1.size
  have z2 := k2.size
  have z3 := k3.size
  have k13 : Keep None w w3 := (k1.then0 k2).then0 k3
  let o1 : Nat → Int := fun i => if i < w.heap.size then o i else if i < w2.heap.size then -8 else -7
  have ha1 : Ag w o o1 := fun i hi => if_pos hi
  have hob : o1 hb = -7 := by show (if _ then _ else _) = _; rw [if_neg (by omega), if_neg (by omega)]
  have hO3 := hO.keep0 k3
  have hgo : ∀ j, ob g j → o1 j = -8 ∧ j < w3.heap.size := fun j hj => by
    have h1 := hg j hj
    have h2 := hO.lt j hj
    exact ⟨by show (if _ then _ else _) = _; rw [if_neg (by omega), if_pos h2], by omega⟩
  have hR3 := ((hR.reown ha1).keep0 k13).addH (L := L) hob hB (own_rdl hO3) hgo
  have hHn : S.H hb = none := by
    cases hq : S.H hb with
    | none => rfl
    | some x =>
      obtain ⟨L', u', v'⟩ := x
      obtain ⟨_, _, _, _, hB', _⟩ := hR.hel hb L' u' v' hq
      have := hB'.lt
      omega
  have hIm := hI.more (c := cs) hHn hLw hLn hLl hm hC
  refine cl_of ok14 (depth14 hR3) fun e w4 ⟨he4, k4⟩ => ⟨_, he4, ?_⟩
  have hR4 := hR3.keep0 k4
  have k14 := k13.then0 k4
  have hHb : upd S.H hb (L, 0, 0) hb = some (L, 0, 0) := if_pos rfl
  have hnin : ∀ i, ¬ hIn S.ls i hb := fun i hi => by
    obtain ⟨L', u', v', q, _⟩ := hI.w1 i hb hi
    rw [hHn] at q; cases q
  have hnlo : hb ∉ S.lo := fun hh => by
    obtain ⟨L', u', v', q⟩ := hI.wf.lol.2 hb hh
    rw [hHn] at q; cases q
  -- loose
  have loose : ∀ {W : World}, Keep None w4 W → ∀ {R : World → Prop}, (∀ w', (∃ S' : WS, Nx tMine noEx w b o S' w' ∧ Iv (C ++ [cs]) S' hd0 sz0 (fun _ _ => False) ∧ Fh S S') → R w') →
      nn (some ⟨b, 0, none⟩) fun p16 => ldC W (p16.add 5) fun x17 x17n x17c => alc W [.pointer (some (⟨hb, 0, none⟩ : Addr))] 74 fun b18 w7 =>
      ∃ (x19 : Option Addr) (x19n x19c : Nat), ∃ w8 : World, (Builtin.append_ #[62, 62] 62 #[.slice x17 x17n x17c, .slice (some (⟨b18, 0, none⟩ : Addr)) 1 1]).run Try.prog w7 = .ok (.slice x19 x19n x19c) w8 ∧
      nn (some ⟨b, 0, none⟩) fun p20 => Vc.st w8 ((p20.add 5).add 0) (.slice x19 x19n x19c) fun w9 => R w9 := fun {W} kW {R} hK => by
    have hRW := hR4.keep0 kW
    refine nn_of (ldC_of (x := h.ll.1) (n := h.ll.2.1) (c := h.ll.2.2) (by rw [add_mk]; exact hRW.self.cell 5) ?_)
    refine alc_at fun b18 w7 h18 hB7 k7 => ?_
    have hR7 := hRW.keep0 k7
    refine pushLo hR7 (by have := hI.wf.lol.1; show S.lo.length ≤ _; omega) hB7 fun w9 ⟨o9, h9, hR9, ha9, k9⟩ => hK w9 ⟨_, ⟨o9, h9, hR9, ?_, ?_⟩, hIm, rfl, rfl, rfl, rfl, rfl, rfl⟩
    · have z9 := ((k14.then0 kW).then0 k7).size
      exact ha1.trans ha9 z9
    · refine (((k14.then0 kW).then0 k7).none (S := fun i => tMine (o i))).trans k9 fun j hj hh => ?_
      have hh' : tLo (o1 j) := hh
      rw [ha1 j hj] at hh'
      show o j ≠ -9
      unfold tLo at hh'; omega
  refine gd_of (fun hd => ?_) fun hd => ?_
  · refine cl_of ok43 (attach43 hR4 hI.wf.cons hnv hHb hLw hLl fun i ids hi => (hI.wf.lsl i ids hi).1) fun e w5 ⟨v5, he5, hA⟩ => ?_
    have hd' : decide (((S.st.length : Nat) : Int) > 0) = false := by simpa using hd
    rcases hA with ⟨_, rfl, k5⟩ | ⟨x, y, r, hnf, rfl, o5, h5, hR5, ha5, k5⟩
    · refine ⟨false, he5, pif_t (by rw [hd']; rfl) ?_⟩
      exact loose k5 fun w' hw' => ⟨rfl, hw'⟩
    · refine ⟨true, he5, pif_f (by rw [hd']; rfl) ⟨rfl, _, ⟨o5, h5, hR5, ha1.trans ha5 k14.size, ?_⟩, ?_, rfl, rfl, rfl, rfl, rfl, rfl⟩⟩
      · refine (k14.none (S := fun i => tMine (o i))).trans k5 fun j hj hh => ?_
        have hh' : tAtt (o1 j) := hh
        rw [ha1 j hj] at hh'
        show o j ≠ -9
        unfold tAtt at hh'; omega
      · have hnf' : nf S.tr L = x :: y :: r := hnf
        have hxm : x ∈ nf S.tr L := by rw [hnf']; simp
        have hym : y ∈ nf S.tr L := by rw [hnf']; simp
        have hnn2 : (nf S.tr L).Nodup := List.Nodup.sublist List.filter_sublist hLn
        have hne : x ≠ y := fun e => by
          rw [hnf', e] at hnn2
          exact (List.nodup_cons.1 hnn2).1 (by simp)
        obtain ⟨x1, x2⟩ := List.mem_filter.1 hxm
        obtain ⟨y1, y2⟩ := List.mem_filter.1 hym
        exact hIm.att (lo' := S.lo) hHb x1 y1 hne (by simpa using x2) (by simpa using y2) hnin hR.ll hI.lop.1 (fun z hz => List.mem_append_left _ hz) (fun z hz => by
          rcases List.mem_append.1 hz with hz | hz
          · exact Or.inr hz
          · exact Or.inl (List.mem_singleton.1 hz)) hnlo
  · have hd' : decide (((S.st.length : Nat) : Int) > 0) = true := by simpa using hd
    refine pif_t (by rw [hd']; rfl) ?_
    exact loose (Keep.refl _ _) fun w' hw' => ⟨rfl, hw'⟩
end Go.Proofs.Ytjpblaenebodlaa.Wt

/- Watch: within, Add. -/
set_option linter.unusedVariables false
set_option linter.unusedSimpArgs false
set_option linter.unusedSectionVars false
set_option maxRecDepth 100000
namespace Go.Proofs.Ytjpblaenebodlaa.Wt
open Go Go.Proofs.Ytjpblaenebodlaa.Vc Go.Proofs.Ytjpblaenebodlaa.T
open Go.Proofs.Ytjpblaenebodlaa.Apart (RdL own_rdl wrap_nat getE own_len copy same take_snoc Sl sv New)
open Go.Proofs.Ytjpblaenebodlaa.Lits (fl fl_iff idx idx_inj idx_range Ans ans_of indexP formedP tidyP Td Srt)

section
variable {ex : Nat → Prop} {w : World} {b : Nat} {o : Nat → Int} {h : Hs} {S : WS}
theorem within25 (hR : Rp ex w b o h S) (hnv : S.nv ≤ 1048576) {p : Option Addr} {n c : Nat} {cs : List Int} (hRd : RdL w p n cs) (hn : n ≤ 17592186044416) :
    Calls Try.prog 25 #[Pt b, .slice p n c] w fun e w' => ∃ r : Bool, e = .returned (.bool r) ∧ (r = true ↔ ∀ x ∈ cs, Wi S.nv x) ∧ Keep None w w' := by
  refine (V25_calls (some ⟨b, 0, none⟩) p n c w (fun v w' => ∃ r : Bool, v = .bool r ∧ (r = true ↔ ∀ x ∈ cs, Wi S.nv x) ∧ Keep None w w') ?_).mono fun e w' ⟨v, he, r, hv, hk⟩ => ⟨r, by rw [he, hv], hk⟩
  unfold V25
  have hll := hRd.len
  have hvl := hR.va.len
  rw [vals_len] at hvl
  refine lp_of (fun s W => ∃ i : Nat, s.1 = (i : Int) ∧ i ≤ n ∧ Keep None w W ∧ ∀ x ∈ cs.take i, Wi S.nv x) (fun s _ => (n - s.1).toNat) ⟨0, rfl, Nat.zero_le _, Keep.refl _ _, fun x hx => by simp at hx⟩ ?_
  rintro ⟨i', ⟨⟩⟩ W ⟨i, rfl, hi, kW, hv⟩
  simp only [] at hv ⊢
  refine pif_of (fun hlt => ?_) fun hge => ?_
  · have hlt : i < n := by simpa using hlt
    rw [wrap_nat i (by omega)]
    refine (hRd.keep0 kW).ix hlt fun a x hx ha => ldI_of ha ?_
    have hxc := List.mem_of_getElem? hx
    refine cl_of ok44 (formedP x) fun e w2 ⟨he, k2⟩ => ⟨_, he, ?_⟩
    have kW2 : Keep None w w2 := kW.drew.then0 k2
    have hRW := hR.keep0 kW2
    have no : fl x = false → ¬ Wi S.nv x := fun hf hw => by rw [wi_fl hnv hw] at hf; cases hf
    cases hfx : fl x with
    | false =>
      refine gd_f rfl (gd_f rfl (gd_f rfl ⟨fun hh => (by cases hh), pif_t rfl ⟨false, rfl, ⟨fun hh => (by cases hh), fun hh => absurd (hh x hxc) (no hfx)⟩, kW2⟩⟩))
    | true =>
      have ld : ∀ {V : World}, Keep None w V → ∀ {K : Option Addr → Nat → Nat → Prop}, K h.vv.1 h.vv.2.1 h.vv.2.2 → ldC V ((⟨b, 0, none⟩ : Addr).add 0) K := fun {V} kV {K} hK => by
        rw [add_mk]
        exact ldC_of (x := h.vv.1) (n := h.vv.2.1) (c := h.vv.2.2) ((hR.keep0 kV).self.cell 0) hK
      refine gd_t rfl (nn_of (gd_t rfl (ld kW2 (gd_t rfl (cl_of ok45 (var45 hfx) fun e w3 ⟨he3, k3⟩ => ⟨_, he3, ?_⟩)))))
      refine ⟨fun _ => ld (kW2.then0 k3) rfl, ?_⟩
      have h3 := fl_iff.1 hfx
      refine pif_of (fun hh => ?_) fun hh => ?_
      · have hh : (h.vv.2.1 : Int) ≤ ((x.natAbs : Nat) : Int) := by simpa using hh
        exact ⟨false, rfl, ⟨fun hq => (by cases hq), fun hq => by have := hq x hxc; unfold Wi at this; omega⟩, kW2.then0 k3⟩
      · have hh : ((x.natAbs : Nat) : Int) < (h.vv.2.1 : Int) := by simpa using hh
        refine ⟨⟨i + 1, rfl, hlt, kW2.then0 k3, fun y hy => ?_⟩, by omega⟩
        rw [take_snoc hx] at hy
        rcases List.mem_append.1 hy with hy | hy
        · exact hv y hy
        · rw [List.mem_singleton.1 hy]
          unfold Wi
          omega
  · have hge : i = n := by simp at hge; omega
    subst hge
    rw [← hll, List.take_length] at hv
    exact ⟨true, rfl, ⟨fun _ => hv, fun _ => rfl⟩, kW⟩
end
theorem add12 {C : List (List Int)} {w : World} {b : Nat} {o : Nat → Int} {h : Hs} {S : WS} (hR : Rp noEx w b o h S) (hA : At C S) {p : Option Addr} {n c : Nat} {cs : List Int} (hRd : RdL w p n cs) (hn : n ≤ 17592186044416) (hC : C.length + 1 ≤ cap) :
    Calls Try.prog 12 #[Pt b, .slice p n c] w fun e w' => (e = .returned (I 1) ∧ (¬ ∀ x ∈ cs, Wi S.nv x) ∧ Keep None w w') ∨
      (e = .returned (I 0) ∧ (∀ x ∈ cs, Wi S.nv x) ∧ ∃ S', Nx tMine noEx w b o S' w' ∧ At (C ++ [cs]) S' ∧ S'.nv = S.nv ∧ S'.tr = S.tr ∧ S'.st = S.st ∧ S'.rest = false ∧ S'.clash = S.clash) := by
  refine (V12_calls (some ⟨b, 0, none⟩) p n c w (fun v w' => (v = I 1 ∧ (¬ ∀ x ∈ cs, Wi S.nv x) ∧ Keep None w w') ∨
      (v = I 0 ∧ (∀ x ∈ cs, Wi S.nv x) ∧ ∃ S', Nx tMine noEx w b o S' w' ∧ At (C ++ [cs]) S' ∧ S'.nv = S.nv ∧ S'.tr = S.tr ∧ S'.st = S.st ∧ S'.rest = false ∧ S'.clash = S.clash)) ?_).mono fun e w' ⟨v, he, hk⟩ => ?_
  · unfold V12
    refine cl_of ok25 (within25 hR hA.iv.wf.nvb hRd hn) fun e w1 ⟨r, he, hr, k1⟩ => ⟨r, he, ?_⟩
    refine pif_of (fun hq => Or.inl ⟨rfl, fun hh => ?_, k1⟩) fun hq => ?_
    · rw [hr.2 hh] at hq; cases hq
    · have hw := hr.1 (by simpa using hq)
      refine cl_of ok24 (hold24 (hR.keep0 k1) hA.iv (hRd.keep0 k1) hn hw hC) fun e w2 ⟨he2, S2, ⟨o2, h2, hR2, ha2, k2⟩, hI2, hF⟩ => ⟨he2, ?_⟩
      refine nn_of (hR2.setRest fun w3 hR3 k3 => Or.inr ⟨rfl, hw, _, ⟨o2, h2, hR3, fun j hj => ha2 j (by have := k1.size; omega), ?_⟩, ⟨?_, ?_, fun hh => by cases hh⟩, hF.nv, hF.tr, hF.st, rfl, hF.clash⟩)
      · refine ((k1.none (S := fun i => tMine (o i))).trans k2 fun j hj hh => hh).trans k3 fun j hj hh => ?_
        rw [show j = b from hh]
        have := hR.selfO
        exact fun e => by omega
      · have := hI2.flags false S2.clash
        rw [← hF.hd, ← hF.tr] at this
        exact this
      · show S2.st.Pairwise _
        rw [hF.st]; exact hA.st1
  · rcases hk with ⟨rfl, hk⟩ | ⟨rfl, hk⟩
    · exact Or.inl ⟨he, hk⟩
    · exact Or.inr ⟨he, hk⟩
end Go.Proofs.Ytjpblaenebodlaa.Wt

/- Watch: Undo. -/
set_option linter.unusedVariables false
set_option linter.unusedSimpArgs false
set_option linter.unusedSectionVars false
set_option maxRecDepth 100000
namespace Go.Proofs.Ytjpblaenebodlaa.Wt
open Go Go.Proofs.Ytjpblaenebodlaa.Vc Go.Proofs.Ytjpblaenebodlaa.T
open Go.Proofs.Ytjpblaenebodlaa.Apart (RdL own_rdl wrap_nat getE own_len copy same take_snoc Sl sv New)
open Go.Proofs.Ytjpblaenebodlaa.Lits (fl fl_iff idx idx_inj idx_range Ans ans_of indexP formedP tidyP Td Srt)

/-- the last assumption taken back -/
theorem Iv.undo {C : List (List Int)} {S : WS} {hd0 sz0 : Nat} (h : Iv C S hd0 sz0 fun _ _ => False) {st' : List Nat} {s : Nat} (hst : S.st = st' ++ [s]) (hs1 : S.st.Pairwise (· ≤ ·)) : Iv C { S with tr := S.tr.take s, hd := s, st := st' } s s fun _ _ => False := by
  have hsm : s ∈ S.st := by rw [hst]; simp
  have hsh := h.st0 s hsm
  have hh1 := h.hd0l
  have hh2 := h.hdl
  have hle : ∀ x ∈ st', x ≤ s := fun x hx => by
    rw [hst] at hs1
    exact (List.pairwise_append.1 hs1).2.2 x hx s (by simp)
  have hsub : (S.tr.take s).Sublist S.tr := List.take_sublist _ _
  have tk : ∀ {p : Nat} {x : Int}, (S.tr.take s)[p]? = some x → S.tr[p]? = some x ∧ p < s := fun {p x} hh => by
    have := (List.getElem?_eq_some_iff.1 hh).1
    rw [List.length_take] at this
    rw [List.getElem?_take, if_pos (by omega)] at hh
    exact ⟨hh, by omega⟩
  have kt : ∀ {p : Nat} {x : Int}, S.tr[p]? = some x → p < s → (S.tr.take s)[p]? = some x := fun {p x} hh hlt => by rw [List.getElem?_take, if_pos hlt]; exact hh
  have hlen : (S.tr.take s).length = s := by rw [List.length_take]; omega
  refine ⟨⟨h.wf.nvb, fun l hl hl' => h.wf.cons l (hsub.subset hl) (hsub.subset hl'), hsub.nodup h.wf.nd, fun l hl => h.wf.wi l (hsub.subset hl), Nat.le_trans hsub.length_le h.wf.trl, h.wf.hel, h.wf.lsl, h.wf.lol⟩, Nat.le_of_eq hlen.symm, hle, Nat.le_refl _, Nat.le_refl _, Nat.le_of_eq hlen.symm, h.w1, h.w3,
    fun i h' L u v hi hH a b hab p hp1 hp2 => ?_, h.dm, fun c hc => ?_, h.src, h.cl, h.lop⟩
  · have hp2' : p < s := hp2
    obtain ⟨hp1', _⟩ := tk hp1
    rcases h.w4 i h' L u v hi hH a b hab p hp1' (by omega) with hq | ⟨q, hq1, hq2, _⟩
    · exact hq.elim
    · have hqs : q < s := by
        rcases Nat.lt_or_ge q s with hh | hh
        · exact hh
        · have := hq2 s hsm hh; omega
      exact Or.inr ⟨q, kt hq1 hqs, fun x hx => hq2 x (by rw [hst]; exact List.mem_append_left _ hx), fun _ => hqs⟩
  · rcases h.cov c hc with hq | hq | ⟨x, hx, q, hq1, hq2, _⟩
    · exact Or.inl hq
    · exact Or.inr (Or.inl hq)
    · exact Or.inr (Or.inr ⟨x, hx, q, kt hq1 (hq2 s hsm), fun y hy => hq2 y (by rw [hst]; exact List.mem_append_left _ hy), hq2 s hsm⟩)
theorem At.undo {C : List (List Int)} {S : WS} (h : At C S) {st' : List Nat} {s : Nat} (hst : S.st = st' ++ [s]) : At C { S with tr := S.tr.take s, hd := s, st := st', rest := false } := by
  have hh := h.iv.undo hst h.st1
  have hl : (S.tr.take s).length = s := by
    have := h.iv.st0 s (by rw [hst]; simp)
    have := h.iv.hdl
    rw [List.length_take]; omega
  refine ⟨?_, ?_, fun hf => by cases hf⟩
  · have h2 := hh.flags false S.clash
    show Iv C _ s (S.tr.take s).length _
    rw [hl]; exact h2
  · have := h.st1
    rw [hst] at this
    exact (List.pairwise_append.1 this).1
theorem slA_z (p : Option Addr) (c sz : Nat) : slA p c 0 sz = p := by
  unfold slA
  split
  · rfl
  · cases p with
    | none => rfl
    | some a => simp [Addr.add]
def zap (vals : List Int) (ls : List Int) : List Int := ls.foldl (fun v l => v.set (l.natAbs - 1) 0) vals
theorem undo9 {C : List (List Int)} {w : World} {b : Nat} {o : Nat → Int} {h : Hs} {S : WS} (hR : Rp noEx w b o h S) (hA : At C S) (hsl : S.st.length ≤ 17592186044416) :
    Calls Try.prog 9 #[Pt b] w fun e w' => (e = .returned (I 3) ∧ S.st = [] ∧ Keep None w w') ∨
      (e = .returned (I 0) ∧ ∃ st' s, S.st = st' ++ [s] ∧ Nx tMine noEx w b o { S with tr := S.tr.take s, hd := s, st := st', rest := false } w') := by
  refine (V9_calls (some ⟨b, 0, none⟩) w (fun v w' => (v = I 3 ∧ S.st = [] ∧ Keep None w w') ∨
      (v = I 0 ∧ ∃ st' s, S.st = st' ++ [s] ∧ Nx tMine noEx w b o { S with tr := S.tr.take s, hd := s, st := st', rest := false } w')) ?_).mono fun e w' ⟨v, he, hk⟩ => ?_
  · unfold V9
    have hl := hR.stLen
    have hwf := hA.iv.wf
    have e1 : IntKind.wrap .i64 ((h.ss.2.1 : Int) - 1) = (h.ss.2.1 : Int) - 1 := by rw [IntKind.wrap_i64]; omega
    refine nn_of (ldC_of (x := h.ss.1) (n := h.ss.2.1) (c := h.ss.2.2) (by rw [add_mk]; exact hR.self.cell 2) ?_)
    rw [e1]
    refine pif_of (fun hq => Or.inl ⟨rfl, List.eq_nil_of_length_eq_zero (by have := of_decide_eq_true hq; omega), Keep.refl _ _⟩) fun hq => ?_
    have hpos : 0 < S.st.length := by have := of_decide_eq_false hq; omega
    obtain ⟨st', s, hst⟩ : ∃ st' s, S.st = st' ++ [s] := ⟨S.st.dropLast, S.st.getLast (fun e => by rw [e] at hpos; simp at hpos), (List.dropLast_concat_getLast _).symm⟩
    have hl' : st'.length + 1 = h.ss.2.1 := by rw [← hl, hst]; simp
    have e2 : (h.ss.2.1 : Int) - 1 = (st'.length : Nat) := by omega
    rw [e2]
    have hsh := hA.iv.st0 s (by rw [hst]; simp)
    have hhd := hA.iv.hdl
    refine nn_of (ldC_of (x := h.ss.1) (n := h.ss.2.1) (c := h.ss.2.2) (by rw [add_mk]; exact hR.self.cell 2) ?_)
    refine hR.st.ix (by omega) (by omega) fun bq hbq => ?_
    have hSt := hR.st
    rw [hbq] at hSt
    refine ldI_of (x := (s : Nat)) (by rw [hSt.cell _ (by omega), Int.toNat_natCast, Nat.mul_one, List.getElem?_map, hst, List.getElem?_append_right (Nat.le_refl _), Nat.sub_self]; rfl) ?_
    refine cl_of ok28 (cut28 hR hwf.nvb hwf.cons hwf.nd hwf.wi (by have := hwf.trl; omega) hwf.trl (n := s) (by omega)) fun e w1 ⟨he, o1, h1, hR1, ha1, k1⟩ => ⟨he, ?_⟩
    have hl1 : S.st.length = h1.ss.2.1 := hR1.stLen
    have hle1 := hR1.st.le
    refine nn_of (ldC_of (x := h1.ss.1) (n := h1.ss.2.1) (c := h1.ss.2.2) (by rw [add_mk]; exact hR1.self.cell 2) ⟨by omega, by omega, nn_of ?_⟩)
    rw [slA_z, Int.toNat_natCast, Nat.sub_zero, Nat.sub_zero]
    simp only [add_mk, Nat.zero_add, Nat.add_zero]
    refine st_of hR1.self (by simp) rfl fun w2 hB2 k2 z2 => ?_
    have kk : Keep (fun j => (fun t : Int => t = -6) (o1 j)) w1 w2 := k2.mono fun j _ hj => by rw [show j = b from hj]; exact hR1.selfO
    have hstC : Own w1 3 1 h1.ss.1 st'.length h1.ss.2.2 (st'.map fun n : Nat => I n) := by
      have h2 : Own w1 3 1 h1.ss.1 h1.ss.2.1 h1.ss.2.2 (S.st.map fun n : Nat => I n) := hR1.st
      have := h2.cut (m := st'.length) (by omega)
      rw [Nat.mul_one, ← List.map_take, hst, List.take_left] at this
      exact this
    have emin : min S.hd s = s := Nat.min_eq_right hsh
    have hR2 : Rp noEx w2 b o1 { h1 with ss := (h1.ss.1, st'.length, h1.ss.2.2) } { S with tr := S.tr.take s, hd := min S.hd s, st := st' } :=
      hR1.turnSelf k2 (S' := { S with tr := S.tr.take s, hd := min S.hd s, st := st' }) (h' := { h1 with ss := (h1.ss.1, st'.length, h1.ss.2.2) }) hB2 ⟨rfl, rfl, rfl, rfl⟩ ⟨rfl, rfl, rfl, rfl⟩ (Rp.own (T := fun t => t = -6) hstC hR1.stO kk (by decide)) hR1.stO (Rp.own (T := fun t => t = -6) hR1.lo hR1.loO kk (by decide)) hR1.loO
    rw [emin] at hR2
    have h6 := hR.selfO
    have hb6 : ∀ {j : Nat}, One b j → tMine (o j) := fun {j} hj => by rw [show j = b from hj]; exact fun e => by omega
    have h9 := hR2.setRest (r := false) (K := fun w' => Nx tMine noEx w b o { S with tr := S.tr.take s, hd := s, st := st', rest := false } w') fun w3 hR3 k3 => ⟨o1, _, hR3, ha1, ((k1.mono fun j hj hh => ?_).trans k2 fun j hj hh => hb6 hh).trans k3 fun j hj hh => hb6 hh⟩
    · simp only [add_mk, Nat.zero_add, Nat.add_zero] at h9
      refine nn_of ?_
      exact ⟨h9.1, h9.2.1, h9.2.2.1, Or.inr ⟨trivial, st', s, hst, h9.2.2.2⟩⟩
    · have hh' : tPut (o j) := hh
      show o j ≠ -9
      unfold tPut at hh'; omega
  · rcases hk with ⟨rfl, hk⟩ | ⟨rfl, hk⟩
    · exact Or.inl ⟨he, hk⟩
    · exact Or.inr ⟨he, hk⟩
end Go.Proofs.Ytjpblaenebodlaa.Wt

/- Watch: Assume. -/
set_option linter.unusedVariables false
set_option linter.unusedSimpArgs false
set_option linter.unusedSectionVars false
set_option maxRecDepth 100000
namespace Go.Proofs.Ytjpblaenebodlaa.Wt
open Go Go.Proofs.Ytjpblaenebodlaa.Vc Go.Proofs.Ytjpblaenebodlaa.T
open Go.Proofs.Ytjpblaenebodlaa.Apart (RdL own_rdl wrap_nat getE own_len copy same take_snoc Sl sv New)
open Go.Proofs.Ytjpblaenebodlaa.Lits (fl fl_iff idx idx_inj idx_range Ans ans_of indexP formedP tidyP Td Srt)

/-- one depth further -/
theorem Iv.deeper {C : List (List Int)} {S : WS} (h : Iv C S S.hd S.tr.length fun _ _ => False) (hr : S.hd = S.tr.length) : Iv C { S with st := S.st ++ [S.tr.length] } S.hd S.tr.length fun _ _ => False := by
  refine ⟨⟨h.wf.nvb, h.wf.cons, h.wf.nd, h.wf.wi, h.wf.trl, h.wf.hel, h.wf.lsl, h.wf.lol⟩, h.hdl, fun s hs => ?_, h.hd0l, h.sz0g, h.sz0l, h.w1, h.w3, fun i h' L u v hi hH a b hab p hp1 hp2 => ?_, h.dm, fun c hc => ?_, h.src, h.cl, h.lop⟩
  · rcases List.mem_append.1 hs with hs | hs
    · exact h.st0 s hs
    · rw [List.mem_singleton.1 hs]; omega
  · rcases h.w4 i h' L u v hi hH a b hab p hp1 hp2 with hq | ⟨q, hq1, hq2, hq3⟩
    · exact hq.elim
    · refine Or.inr ⟨q, hq1, fun s hs hle => ?_, hq3⟩
      rcases List.mem_append.1 hs with hs | hs
      · exact hq2 s hs hle
      · have := (List.getElem?_eq_some_iff.1 hq1).1
        have e := List.mem_singleton.1 hs
        have this' : q < S.tr.length := this
        omega
  · rcases h.cov c hc with hq | hq | ⟨x, hx, q, hq1, hq2, hq3⟩
    · exact Or.inl hq
    · exact Or.inr (Or.inl hq)
    · refine Or.inr (Or.inr ⟨x, hx, q, hq1, fun s hs => ?_, hq3⟩)
      rcases List.mem_append.1 hs with hs | hs
      · exact hq2 s hs
      · rw [List.mem_singleton.1 hs]; exact hq3
theorem At.assume {C : List (List Int)} {S : WS} (h : At C S) (hr : S.rest = true) {l : Int} (hl : Wi S.nv l) (hn : lv S.tr l = 0) : At C { S with st := S.st ++ [S.tr.length], tr := S.tr ++ [l], rest := false } := by
  have h1 := h.iv.deeper (h.rest hr).1
  have h2 := (h1.put hl hn).rebase.flags false S.clash
  refine ⟨h2, List.pairwise_append.2 ⟨h.st1, by simp, fun x hx y hy => ?_⟩, fun hf => by cases hf⟩
  rw [List.mem_singleton.1 hy]
  have := h.iv.st0 x hx
  have := h.iv.hdl
  omega
def tSt (t : Int) : Prop := t = -3 ∨ t = -6
/-- one start more -/
theorem pushSt {w : World} {b : Nat} {o : Nat → Int} {h : Hs} {S : WS} (hR : Rp noEx w b o h S) {m : Nat} {bb : Nat} (hlen : S.st.length ≤ 17592186044415) (hB : Blk w bb [I m] 3) {K : World → Prop} (hK : ∀ w', Nx tSt noEx w b o { S with st := S.st ++ [m] } w' → K w') :
    ∃ (p' : Option Addr) (n' c' : Nat), ∃ w' : World, (Builtin.append_ #[29, 29] 29 #[.slice h.ss.1 h.ss.2.1 h.ss.2.2, .slice (some (⟨bb, 0, none⟩ : Addr)) 1 1]).run Try.prog w = .ok (.slice p' n' c') w' ∧
      nn (some ⟨b, 0, none⟩) fun p20 => Vc.st w' ((p20.add 2).add 0) (.slice p' n' c') K := by
  have hO := hR.st
  have hn := hR.stLen
  refine app_of2 (e := 3) (sz := 1) (z := I 0) (B := 8) Try.underlying29 (by kernel_rfl) rfl (by omega) hO hB.news1 (fun u hu => ?_) (by simp only [maxLen]; omega) (by omega) fun p' c' w' hO' hd => ?_
  · simp only [List.mem_singleton] at hu; subst hu; rfl
  have key : ∃ o' : Nat → Int, Ag w o o' ∧ (∀ j, ob p' j → o' j = -3) ∧ Keep (fun j => o j = -3) w w' := by
    rcases hd with ⟨e, _, _, kk⟩ | ⟨e, kk⟩
    · exact ⟨o, Ag.refl _ _, fun j hj => hR.stO j (by rw [e] at hj; exact hj), kk.mono fun j _ hj => hR.stO j hj⟩
    · exact ⟨fun j => if j < w.heap.size then o j else -3, fun j hj => if_pos hj, fun j hj => if_neg (by have := e j hj; omega), kk.none⟩
  obtain ⟨o', ha, hg, kk⟩ := key
  have hR' := hR.reown ha
  have k' : Keep (fun j => (fun t : Int => t = -3) (o' j)) w w' := kk.mono fun j hj hh => by show o' j = -3; rw [ha j hj]; exact hh
  have self' := Rp.selfK (T := fun t => t = -3) hR' k' (by decide)
  refine nn_of ?_
  simp only [add_mk, Nat.zero_add, Nat.add_zero]
  refine st_of self' (by simp) rfl fun w5 hB5 k5 z5 => hK w5 ?_
  have k56 : Keep (fun j => (fun t : Int => tSt t) (o' j)) w w5 := (k'.mono fun j _ hh => Or.inl hh).trans k5 fun j _ hj => Or.inr (by rw [show j = b from hj]; exact hR'.selfO)
  have one : ∀ j, One b j → o' j = -6 := fun j hj => by rw [show j = b from hj]; exact hR'.selfO
  have n5 : ∀ {t : Int}, t ≠ -3 → t ≠ -6 → ¬ tSt t := fun h1 h2 hh => by unfold tSt at hh; omega
  refine ⟨o', { h with ss := (p', h.ss.2.1 + 1, c') }, ⟨hB5, hR'.selfO, Rp.own (T := tSt) hR'.va hR'.vaO k56 (n5 (by decide) (by decide)), hR'.vaO, Rp.own (T := tSt) hR'.tr hR'.trO k56 (n5 (by decide) (by decide)), hR'.trO,
    ?_, hg, Rp.own (T := tSt) hR'.out hR'.outO k56 (n5 (by decide) (by decide)), hR'.outO, hR'.hl, hR'.ll, Rp.innK (S := S) (h := h) (T := tSt) hR' k56 (fun t ht => n5 (by omega) (by omega)), Rp.innOK (S := S) (h := h) hR' k56,
    Rp.own (T := tSt) hR'.lo hR'.loO k56 (n5 (by decide) (by decide)), hR'.loO, Rp.helK (S := S) (T := tSt) hR' k56 (n5 (by decide) (by decide)) (n5 (by decide) (by decide))⟩, ha, ?_⟩
  · show Own w5 3 1 p' (h.ss.2.1 + 1) c' ((S.st ++ [m]).map fun n : Nat => I n)
    rw [List.map_append]
    exact hO'.keep k5 fun j hj hh => by have := hg j hj; have := one j hh; omega
  · exact k56.mono fun j hj hh => by rw [ha j hj] at hh; exact hh
end Go.Proofs.Ytjpblaenebodlaa.Wt
