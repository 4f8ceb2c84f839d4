/- Watch, in plain: the invariant while clauses are gone through. -/
import Derived.Test.YtjpblaenebodlaaWG
set_option linter.unusedVariables false
set_option linter.unusedSimpArgs false
set_option linter.unusedSectionVars false
set_option maxRecDepth 100000
namespace Go.Proofs.Ytjpblaenebodlaa.Wt
open Go Go.Proofs.Ytjpblaenebodlaa.Vc

section
variable {C : List (List Int)} {S : WS} {hd0 sz0 : Nat} {pend pend' : Nat → Int → Prop}
/-- fewer watches to be seen to -/
theorem Iv.pendTo (h : Iv C S hd0 sz0 pend) (hp : ∀ h' a, pend h' a → pend' h' a ∨ ∀ L u v, S.H h' = some (L, u, v) → u ≠ v → ∀ b : Int, (a = u ∧ b = v ∨ a = v ∧ b = u) → ∀ p : Nat, S.tr[p]? = some (-a) → p < S.hd → ∃ q, S.tr[q]? = some b ∧ Lq S.st p q ∧ (p < hd0 → q < sz0)) : Iv C S hd0 sz0 pend' :=
  ⟨h.wf, h.hdl, h.st0, h.hd0l, h.sz0g, h.sz0l, h.w1, h.w3, fun i h' L u v hi hH a b hab p hp1 hp2 => by
    rcases h.w4 i h' L u v hi hH a b hab p hp1 hp2 with hq | hq
    · rcases hp h' a hq with hq' | hq'
      · exact Or.inl hq'
      · obtain ⟨L', u', v', hH', _, _, hne, _⟩ := h.w1 i h' hi
        rw [hH] at hH'
        simp only [Option.some.injEq, Prod.mk.injEq] at hH'
        obtain ⟨rfl, rfl, rfl⟩ := hH'
        exact Or.inr (hq' L u v hH hne b hab p hp1 hp2)
    · exact Or.inr hq, h.dm, h.cov, h.src, h.cl, h.lop⟩
/-- a literal more is known -/
theorem Iv.put (h : Iv C S hd0 sz0 pend) {l : Int} (hl : Wi S.nv l) (hn : lv S.tr l = 0) : Iv C { S with tr := S.tr ++ [l] } hd0 sz0 pend := by
  have hc := cons_put h.wf.cons hn hl.1
  have hnd : (S.tr ++ [l]).Nodup := List.nodup_append.2 ⟨h.wf.nd, by simp, fun x hx y hy => by
    rw [List.mem_singleton.1 hy]
    rintro rfl
    exact (lv_nil.1 hn).1 hx⟩
  have hw : ∀ x ∈ S.tr ++ [l], Wi S.nv x := fun x hx => by
    rcases List.mem_append.1 hx with hx | hx
    · exact h.wf.wi x hx
    · rw [List.mem_singleton.1 hx]; exact hl
  have htl := tr_le hc hnd hw
  have hnv := h.wf.nvb
  have hdl := h.hdl
  have old : ∀ {p : Nat} {x : Int}, S.tr[p]? = some x → (S.tr ++ [l])[p]? = some x := fun {p x} hp => by
    rw [List.getElem?_append_left (List.getElem?_eq_some_iff.1 hp).1]; exact hp
  refine ⟨⟨hnv, hc, hnd, hw, by show (S.tr ++ [l]).length ≤ _; omega, h.wf.hel, h.wf.lsl, h.wf.lol⟩, by show S.hd ≤ (S.tr ++ [l]).length; simp; omega, h.st0, h.hd0l, h.sz0g, by show sz0 ≤ (S.tr ++ [l]).length; have := h.sz0l; simp; omega, h.w1, h.w3,
    fun i h' L u v hi hH a b hab p hp1 hp2 => ?_, h.dm, fun c hc => ?_, h.src, h.cl, h.lop⟩
  · have hp2' : p < S.hd := hp2
    have hp1' : (S.tr ++ [l])[p]? = some (-a) := hp1
    rw [List.getElem?_append_left (by omega)] at hp1'
    rcases h.w4 i h' L u v hi hH a b hab p hp1' hp2' with hq | ⟨q, hq1, hq2⟩
    · exact Or.inl hq
    · exact Or.inr ⟨q, old hq1, hq2⟩
  · rcases h.cov c hc with hq | hq | ⟨x, hx, q, hq1, hq2⟩
    · exact Or.inl hq
    · exact Or.inr (Or.inl hq)
    · exact Or.inr (Or.inr ⟨x, hx, q, old hq1, hq2⟩)
/-- a list in another order -/
theorem Iv.perm {i : Nat} {A B : List Nat} (h : Iv C { S with ls := S.ls.set i A } hd0 sz0 pend) (hi : i < S.ls.length) (hp : A.Perm B) : Iv C { S with ls := S.ls.set i B } hd0 sz0 pend := by
  have hh : ∀ j h', hIn (S.ls.set i B) j h' ↔ hIn (S.ls.set i A) j h' := fun j h' => by rw [hIn_set hi, hIn_set hi, hp.mem_iff]
  have at' : ∀ {j : Nat} {ids : List Nat}, (S.ls.set i B)[j]? = some ids → ∃ ids', (S.ls.set i A)[j]? = some ids' ∧ ids'.Perm ids := fun {j ids} hj => by
    by_cases hji : j = i
    · subst hji
      rw [List.getElem?_set_self hi] at hj ⊢
      injection hj with hj; subst hj
      exact ⟨A, rfl, hp⟩
    · rw [List.getElem?_set_ne (fun e => hji e.symm)] at hj ⊢
      exact ⟨ids, hj, List.Perm.refl _⟩
  refine ⟨⟨h.wf.nvb, h.wf.cons, h.wf.nd, h.wf.wi, h.wf.trl, h.wf.hel, fun j ids hj => ?_, h.wf.lol⟩, h.hdl, h.st0, h.hd0l, h.sz0g, h.sz0l, fun j h' hj => ?_, fun j ids hj => ?_, fun j h' L u v hj => h.w4 j h' L u v ((hh j h').1 hj), h.dm, fun c hc => ?_, h.src, h.cl, h.lop.1, fun y hy j hj => h.lop.2 y hy j ((hh j y).1 hj)⟩
  · obtain ⟨ids', h1, h2⟩ := at' hj
    obtain ⟨q1, q2⟩ := h.wf.lsl j ids' h1
    exact ⟨by rw [← h2.length_eq]; exact q1, fun x hx => q2 x (h2.mem_iff.2 hx)⟩
  · obtain ⟨L, u, v, q1, q2, q3, q4, q5, q6, q7⟩ := h.w1 j h' ((hh j h').1 hj)
    exact ⟨L, u, v, q1, q2, q3, q4, q5, (hh _ _).2 q6, (hh _ _).2 q7⟩
  · obtain ⟨ids', h1, h2⟩ := at' hj
    exact h2.nodup_iff.1 (h.w3 j ids' h1)
  · rcases h.cov c hc with hq | ⟨h', L, u, v, q1, q2, q3⟩ | hq
    · exact Or.inl hq
    · exact Or.inr (Or.inl ⟨h', L, u, v, q1, q2, q3.imp id (hh _ _).2⟩)
    · exact Or.inr (Or.inr hq)
theorem len_cap {i : Nat} {ids : List Nat} (h : Iv C S hd0 sz0 pend) (hi : S.ls[i]? = some ids) : ids.length ≤ cap := by
  obtain ⟨dom, hd, hm⟩ := h.dm
  refine Nat.le_trans (nodup_le (h.w3 i ids hi) fun x hx => hm x ?_) (Nat.le_trans hd h.cl)
  obtain ⟨L, u, v, hH, _⟩ := h.w1 i x ⟨ids, hi, hx⟩
  rw [hH]; simp
end
/-- while the clauses that watch l are gone through -/
structure Pv (C : List (List Int)) (hd0 sz0 : Nat) (K : List Int) (l : Int) (rem : List Nat) (S : WS) (st : List Nat) (ok : Bool) : Prop where
  iv : Iv C { S with ls := S.ls.set (idxN l) (rem ++ st) } hd0 sz0 (fun h a => a = l ∧ (ok = false ∨ h ∈ rem))
  at' : S.tr[S.hd - 1]? = some (-l)
  hdg : hd0 < S.hd
  der : ∀ x ∈ S.tr, Der C K x
  bad : ok = false → ∃ c ∈ C, ∀ x ∈ c, -x ∈ S.tr
  wl : Wi S.nv l
  il : S.ls.length = 2 * S.nv
section
variable {C : List (List Int)} {hd0 sz0 : Nat} {K : List Int} {l : Int} {h : Nat} {ids : List Nat} {S : WS} {st : List Nat} {ok : Bool}
theorem Pv.lt (hp : Pv C hd0 sz0 K l ids S st ok) : idxN l < S.ls.length := by rw [hp.il]; exact idxN_lt hp.wl
theorem Pv.hin (hp : Pv C hd0 sz0 K l (h :: ids) S st ok) : hIn (S.ls.set (idxN l) (h :: ids ++ st)) (idxN l) h := ⟨_, List.getElem?_set_self hp.lt, by simp⟩
theorem perm1 (h : Nat) (ids st : List Nat) : (h :: ids ++ st).Perm (ids ++ (st ++ [h])) := by
  rw [← List.append_assoc]
  exact (List.perm_append_singleton h (ids ++ st)).symm
theorem Pv.who (hp : Pv C hd0 sz0 K l (h :: ids) S st ok) : ∃ L u v, S.H h = some (L, u, v) ∧ u ∈ L ∧ v ∈ L ∧ u ≠ v ∧ (l = u ∨ l = v) ∧ hIn (S.ls.set (idxN l) (h :: ids ++ st)) (idxN u) h ∧ hIn (S.ls.set (idxN l) (h :: ids ++ st)) (idxN v) h := by
  obtain ⟨L, u, v, hH, hu, hv, hne, hi, h1, h2⟩ := hp.iv.w1 (idxN l) h hp.hin
  obtain ⟨hw, _⟩ := hp.iv.wf.hel h L u v hH
  refine ⟨L, u, v, hH, hu, hv, hne, ?_, h1, h2⟩
  rcases hi with hi | hi
  · exact Or.inl (idxN_inj hp.iv.wf.nvb hp.wl (hw u hu) hi)
  · exact Or.inr (idxN_inj hp.iv.wf.nvb hp.wl (hw v hv) hi)
theorem Pv.neg (hp : Pv C hd0 sz0 K l ids S st ok) : -l ∈ S.tr := List.mem_of_getElem? hp.at'
theorem othr_of {u v b : Int} (hne : u ≠ v) (hab : l = u ∧ b = v ∨ l = v ∧ b = u) : othr u v l = b := by
  unfold othr
  rcases hab with ⟨e1, e2⟩ | ⟨e1, e2⟩
  · rw [if_pos e1.symm, e2]
  · rw [if_neg (fun e => hne (e.trans e1)), e2]
/-- the other watched literal is known: nothing more to see to -/
theorem Pv.done (hp : Pv C hd0 sz0 K l (h :: ids) S st true) {L : List Int} {u v : Int} (hH : S.H h = some (L, u, v)) (ho : othr u v l ∈ S.tr) : Pv C hd0 sz0 K l ids S (st ++ [h]) true := by
  refine ⟨((hp.iv.pendTo fun h' a ha => ?_).perm hp.lt (perm1 h ids st)), hp.at', hp.hdg, hp.der, (fun hh => by cases hh), hp.wl, hp.il⟩
  obtain ⟨rfl, hr⟩ := ha
  rcases hr with hr | hr
  · cases hr
  rcases List.mem_cons.1 hr with rfl | hr
  · refine Or.inr fun L' u' v' hH' hne b hab p hp1 hp2 => ?_
    have hH'' : S.H h' = some (L', u', v') := hH'
    rw [hH] at hH''
    simp only [Option.some.injEq, Prod.mk.injEq] at hH''
    obtain ⟨rfl, rfl, rfl⟩ := hH''
    rw [othr_of hne hab] at ho
    obtain ⟨q, hq1, hq2⟩ := List.mem_iff_getElem.1 ho
    have hpq := pos_uniq hp.iv.wf.nd hp1 hp.at'
    have hg := hp.hdg
    refine ⟨q, (List.getElem?_eq_getElem hq1).trans (by rw [hq2]), fun s hs _ => ?_, fun hlt => by omega⟩
    have := hp.iv.st0 s hs
    omega
  · exact Or.inl ⟨rfl, Or.inr hr⟩
theorem vinv (C : List (List Int)) (hd0 sz0 : Nat) (K : List Int) (l : Int) : VInv l (Pv C hd0 sz0 K l) where
  wf := fun {ids S st ok} hp => by
    have h1 := hp.iv.wf
    refine ⟨⟨h1.nvb, h1.cons, h1.nd, h1.wi, h1.trl, h1.hel, fun i ids' hi => ?_, h1.lol⟩, ?_⟩
    · by_cases hil : i = idxN l
      · subst hil
        have hi' : (S.ls.set (idxN l) [])[idxN l]? = some ids' := hi
        rw [List.getElem?_set_self hp.lt] at hi'
        injection hi' with hi'; subst hi'
        exact ⟨by simp, fun x hx => by cases hx⟩
      · have hi' : (S.ls.set (idxN l) [])[i]? = some ids' := hi
        rw [List.getElem?_set_ne (fun e => hil e.symm)] at hi'
        exact h1.lsl i ids' (by show (S.ls.set (idxN l) (ids ++ st))[i]? = _; rw [List.getElem?_set_ne (fun e => hil e.symm)]; exact hi')
    · have := len_cap hp.iv (i := idxN l) (List.getElem?_set_self hp.lt)
      rw [List.length_append] at this
      unfold cap at this
      omega
  att := fun {h ids S st ok} hp => by
    obtain ⟨L, u, v, hH, hu, hv, _⟩ := hp.who
    exact ⟨L, u, v, hH, hu, hv⟩
  skip := fun {h ids S st} hp => ⟨((hp.iv.pendTo fun h' a ha => Or.inl ⟨ha.1, Or.inl rfl⟩).perm hp.lt (perm1 h ids st)), hp.at', hp.hdg, hp.der, hp.bad, hp.wl, hp.il⟩
  one := fun {h ids S st L u v} hp hH ho => hp.done hH (lv_one.1 ho)
  bad := fun {h ids S st L u v} hp hH ho hall => by
    refine ⟨((hp.iv.pendTo fun h' a ha => Or.inl ⟨ha.1, Or.inl rfl⟩).perm hp.lt (perm1 h ids st)), hp.at', hp.hdg, hp.der, fun _ => ?_, hp.wl, hp.il⟩
    obtain ⟨c, hc, hcl⟩ := hp.iv.src h L u v hH
    refine ⟨c, hc, fun x hx => ?_⟩
    by_cases h1 : x = othr u v l
    · rw [h1]; exact (lv_no hp.iv.wf.cons).1 ho
    · by_cases h2 : x = l
      · rw [h2]; exact hp.neg
      · exact (lv_no hp.iv.wf.cons).1 (hall x ((hcl x).2 hx) h1 h2)
  put := fun {h ids S st L u v} hp hH ho hall => by
    obtain ⟨L', u', v', hH', hu, hv, hne, hl, _⟩ := hp.who
    rw [hH] at hH'
    simp only [Option.some.injEq, Prod.mk.injEq] at hH'
    obtain ⟨rfl, rfl, rfl⟩ := hH'
    obtain ⟨hw, _⟩ := hp.iv.wf.hel h L u v hH
    have hoL : othr u v l ∈ L := by unfold othr; split; exact hv; exact hu
    have hp' : Pv C hd0 sz0 K l (h :: ids) { S with tr := S.tr ++ [othr u v l] } st true := by
      refine ⟨hp.iv.put (hw _ hoL) ho, ?_, hp.hdg, fun x hx => ?_, (fun hh => by cases hh), hp.wl, hp.il⟩
      · show (S.tr ++ [othr u v l])[S.hd - 1]? = _
        rw [List.getElem?_append_left (List.getElem?_eq_some_iff.1 hp.at').1]; exact hp.at'
      · rcases List.mem_append.1 hx with hx | hx
        · exact hp.der x hx
        · rw [List.mem_singleton.1 hx]
          obtain ⟨c, hc, hcl⟩ := hp.iv.src h L u v hH
          refine Der.unit hc ((hcl _).1 hoL) fun y hy hne' => hp.der _ ?_
          by_cases h2 : y = l
          · rw [h2]; exact hp.neg
          · exact (lv_no hp.iv.wf.cons).1 (hall y ((hcl y).2 hy) hne' h2)
    exact hp'.done hH (by show othr u v l ∈ S.tr ++ [othr u v l]; simp)
  mv := fun {h ids S st L u v x} hp hH ho hxL hxo hxl hxv => by
    obtain ⟨L', u', v', hH', hu, hv, hne, hl, hi1, hi2⟩ := hp.who
    rw [hH] at hH'
    simp only [Option.some.injEq, Prod.mk.injEq] at hH'
    obtain ⟨rfl, rfl, rfl⟩ := hH'
    obtain ⟨hw, hLn, hLl⟩ := hp.iv.wf.hel h L u v hH
    have hnv := hp.iv.wf.nvb
    have hlt := hp.lt
    have hoL : othr u v l ∈ L := by unfold othr; split; exact hv; exact hu
    have hol : othr u v l ≠ l := by
      unfold othr
      split
      · rename_i e; rw [← e]; exact fun e' => hne e'.symm
      · assumption
    have hoio : hIn (S.ls.set (idxN l) (h :: ids ++ st)) (idxN (othr u v l)) h := by unfold othr; split; exact hi2; exact hi1
    have hix : idxN x ≠ idxN l := fun e => hxl (idxN_inj hnv (hw x hxL) hp.wl e)
    have hio : idxN (othr u v l) ≠ idxN l := fun e => hol (idxN_inj hnv (hw _ hoL) hp.wl e)
    have hixo : idxN x ≠ idxN (othr u v l) := fun e => hxo (idxN_inj hnv (hw x hxL) (hw _ hoL) e)
    have hxlt : idxN x < S.ls.length := by rw [hp.il]; exact idxN_lt (hw x hxL)
    have hnodup := hp.iv.w3 (idxN l) _ (List.getElem?_set_self hlt)
    have hnot : h ∉ ids ++ st := by
      have hnn : (h :: (ids ++ st)).Nodup := hnodup
      exact (List.nodup_cons.1 hnn).1
    have huv : ∀ j, j = idxN u ∨ j = idxN v → j = idxN l ∨ j = idxN (othr u v l) := fun j hj => by
      unfold othr
      rcases hl with e | e
      · rw [if_pos e.symm, e]; exact hj
      · rw [if_neg (fun e' => hne (e'.trans e)), e]; exact hj.symm
    -- who stands where, then and now
    have lenA : idxN l < (addW S.ls (idxN x) h).length := by rw [addW_len]; exact hlt
    have hin' : ∀ j h', hIn ((addW S.ls (idxN x) h).set (idxN l) (ids ++ st)) j h' ↔ (j = idxN l ∧ h' ∈ ids ++ st) ∨ (j ≠ idxN l ∧ (hIn S.ls j h' ∨ (j = idxN x ∧ h' = h))) := fun j h' => by rw [hIn_set lenA, hIn_addW hxlt]
    have hin0 : ∀ j h', hIn (S.ls.set (idxN l) (h :: ids ++ st)) j h' ↔ (j = idxN l ∧ h' ∈ h :: ids ++ st) ∨ (j ≠ idxN l ∧ hIn S.ls j h') := fun j h' => hIn_set hlt j h'
    have other : ∀ {j h' : Nat}, h' ≠ h → (hIn ((addW S.ls (idxN x) h).set (idxN l) (ids ++ st)) j h' ↔ hIn (S.ls.set (idxN l) (h :: ids ++ st)) j h') := fun {j h'} hne' => by
      rw [hin', hin0]
      constructor
      · rintro (⟨e, hm⟩ | ⟨e, hm | ⟨_, e'⟩⟩)
        · exact Or.inl ⟨e, List.mem_cons_of_mem _ hm⟩
        · exact Or.inr ⟨e, hm⟩
        · exact absurd e' hne'
      · rintro (⟨e, hm⟩ | ⟨e, hm⟩)
        · rcases List.mem_cons.1 hm with hm | hm
          · exact absurd hm hne'
          · exact Or.inl ⟨e, hm⟩
        · exact Or.inr ⟨e, Or.inl hm⟩
    have self : ∀ {j : Nat}, hIn ((addW S.ls (idxN x) h).set (idxN l) (ids ++ st)) j h → j = idxN (othr u v l) ∨ j = idxN x := fun {j} hj => by
      rcases (hin' j h).1 hj with ⟨_, hm⟩ | ⟨e, hm | ⟨e', _⟩⟩
      · exact absurd hm hnot
      · obtain ⟨L2, u2, v2, hH2, _, _, _, hj2, _⟩ := hp.iv.w1 j h ((hin0 j h).2 (Or.inr ⟨e, hm⟩))
        have hH2' : S.H h = some (L2, u2, v2) := hH2
        rw [hH] at hH2'
        simp only [Option.some.injEq, Prod.mk.injEq] at hH2'
        obtain ⟨rfl, rfl, rfl⟩ := hH2'
        rcases huv j hj2 with h' | h'
        · exact absurd h' e
        · exact Or.inl h'
      · exact Or.inr e'
    have inO : hIn ((addW S.ls (idxN x) h).set (idxN l) (ids ++ st)) (idxN (othr u v l)) h := (hin' _ _).2 (Or.inr ⟨hio, Or.inl (by
      rcases (hin0 _ _).1 hoio with ⟨e, _⟩ | ⟨_, hm⟩
      · exact absurd e hio
      · exact hm)⟩)
    have inX : hIn ((addW S.ls (idxN x) h).set (idxN l) (ids ++ st)) (idxN x) h := (hin' _ _).2 (Or.inr ⟨hix, Or.inr ⟨rfl, rfl⟩⟩)
    have Hh : upd S.H h (L, othr u v l, x) h = some (L, othr u v l, x) := if_pos rfl
    have Ho : ∀ {h' : Nat}, h' ≠ h → upd S.H h (L, othr u v l, x) h' = S.H h' := fun hne' => if_neg hne'
    -- the lists
    have w3' : ∀ (i : Nat) (ids' : List Nat), ((addW S.ls (idxN x) h).set (idxN l) (ids ++ st))[i]? = some ids' → ids'.Nodup := fun i ids' hi => by
      by_cases hil : i = idxN l
      · subst hil
        rw [List.getElem?_set_self lenA] at hi
        injection hi with hi; subst hi
        have hnn : (h :: (ids ++ st)).Nodup := hnodup
        exact (List.nodup_cons.1 hnn).2
      · rw [List.getElem?_set_ne (fun e => hil e.symm)] at hi
        have hids : S.ls[idxN x]? = some (S.ls[idxN x]) := List.getElem?_eq_getElem hxlt
        rw [addW_at hids] at hi
        have oldn : ∀ {j : Nat} {r : List Nat}, j ≠ idxN l → S.ls[j]? = some r → r.Nodup := fun {j r} hj hr => hp.iv.w3 j r (by show (S.ls.set (idxN l) (h :: ids ++ st))[j]? = _; rw [List.getElem?_set_ne (fun e => hj e.symm)]; exact hr)
        by_cases hixx : i = idxN x
        · subst hixx
          rw [List.getElem?_set_self hxlt] at hi
          injection hi with hi; subst hi
          refine List.nodup_append.2 ⟨oldn hix hids, by simp, fun y hy z hz => ?_⟩
          rw [List.mem_singleton.1 hz]
          rintro rfl
          obtain ⟨L2, u2, v2, hH2, _, _, _, hj2, _⟩ := hp.iv.w1 (idxN x) y ((hin0 _ _).2 (Or.inr ⟨hix, _, hids, hy⟩))
          have hH2' : S.H y = some (L2, u2, v2) := hH2
          rw [hH] at hH2'
          simp only [Option.some.injEq, Prod.mk.injEq] at hH2'
          obtain ⟨rfl, rfl, rfl⟩ := hH2'
          rcases huv _ hj2 with h' | h'
          · exact hix h'
          · exact hixo h'
        · rw [List.getElem?_set_ne (fun e => hixx e.symm)] at hi
          exact oldn hil hi
    have w1' : ∀ (i h' : Nat), hIn ((addW S.ls (idxN x) h).set (idxN l) (ids ++ st)) i h' → ∃ L' u' v', upd S.H h (L, othr u v l, x) h' = some (L', u', v') ∧ u' ∈ L' ∧ v' ∈ L' ∧ u' ≠ v' ∧ (i = idxN u' ∨ i = idxN v') ∧ hIn ((addW S.ls (idxN x) h).set (idxN l) (ids ++ st)) (idxN u') h' ∧ hIn ((addW S.ls (idxN x) h).set (idxN l) (ids ++ st)) (idxN v') h' := fun i h' hi => by
      by_cases hhh : h' = h
      · subst hhh
        exact ⟨L, othr u v l, x, Hh, hoL, hxL, fun e => hxo e.symm, self hi, inO, inX⟩
      · obtain ⟨L2, u2, v2, q1, q2, q3, q4, q5, q6, q7⟩ := hp.iv.w1 i h' ((other hhh).1 hi)
        exact ⟨L2, u2, v2, by rw [Ho hhh]; exact q1, q2, q3, q4, q5, (other hhh).2 q6, (other hhh).2 q7⟩
    have dm' : ∃ dom : List Nat, dom.length ≤ C.length ∧ ∀ h', upd S.H h (L, othr u v l, x) h' ≠ none → h' ∈ dom := by
      obtain ⟨dom, hd, hm⟩ := hp.iv.dm
      refine ⟨dom, hd, fun h' hh => hm h' ?_⟩
      by_cases hhh : h' = h
      · subst hhh
        show S.H h' ≠ none
        rw [hH]; simp
      · rwa [Ho hhh] at hh
    have lens : ∀ (i : Nat) (ids' : List Nat), ((addW S.ls (idxN x) h).set (idxN l) (ids ++ st))[i]? = some ids' → ids'.length ≤ cap := fun i ids' hi => by
      obtain ⟨dom, hd, hm⟩ := dm'
      refine Nat.le_trans (nodup_le (w3' i ids' hi) fun y hy => hm y ?_) (Nat.le_trans hd hp.iv.cl)
      obtain ⟨L2, u2, v2, q1, _⟩ := w1' i y ⟨ids', hi, hy⟩
      rw [q1]; simp
    refine ⟨⟨⟨hnv, hp.iv.wf.cons, hp.iv.wf.nd, hp.iv.wf.wi, hp.iv.wf.trl, fun h' L2 u2 v2 hH2 => ?_, fun i ids' hi => ⟨Nat.le_trans (lens i ids' hi) (by decide), fun y hy => ?_⟩, ?_⟩, hp.iv.hdl, hp.iv.st0, hp.iv.hd0l, hp.iv.sz0g, hp.iv.sz0l, w1', w3', ?_, dm', ?_, ?_, hp.iv.cl, hp.iv.lop.1, fun y hy j hj => hp.iv.lop.2 y hy j ((other fun e => hp.iv.lop.2 h (e ▸ hy) (idxN l) hp.hin).1 hj)⟩, hp.at', hp.hdg, hp.der, (fun hh => by cases hh), hp.wl, by show (addW S.ls (idxN x) h).length = _; rw [addW_len]; exact hp.il⟩
    · have hH2' : upd S.H h (L, othr u v l, x) h' = some (L2, u2, v2) := hH2
      by_cases hhh : h' = h
      · subst hhh
        rw [Hh] at hH2'
        simp only [Option.some.injEq, Prod.mk.injEq] at hH2'
        obtain ⟨rfl, rfl, rfl⟩ := hH2'
        exact ⟨hw, hLn, hLl⟩
      · rw [Ho hhh] at hH2'
        exact hp.iv.wf.hel h' L2 u2 v2 hH2'
    · obtain ⟨L2, u2, v2, q1, q2, q3, _⟩ := w1' i y ⟨ids', hi, hy⟩
      exact ⟨L2, u2, v2, q1, q2, q3⟩
    · refine ⟨hp.iv.wf.lol.1, fun y hy => ?_⟩
      obtain ⟨L2, u2, v2, q⟩ := hp.iv.wf.lol.2 y hy
      by_cases hyh : y = h
      · subst hyh; exact ⟨_, _, _, Hh⟩
      · exact ⟨L2, u2, v2, (Ho hyh).trans q⟩
    · intro i h' L2 u2 v2 hi hH2 a b hab p hp1 hp2
      have hH2' : upd S.H h (L, othr u v l, x) h' = some (L2, u2, v2) := hH2
      have hp1' : S.tr[p]? = some (-a) := hp1
      by_cases hhh : h' = h
      · subst hhh
        rw [Hh] at hH2'
        simp only [Option.some.injEq, Prod.mk.injEq] at hH2'
        obtain ⟨rfl, rfl, rfl⟩ := hH2'
        exfalso
        rcases hab with ⟨rfl, rfl⟩ | ⟨rfl, rfl⟩
        · -- the one that stays watched was false already: then l was known
          have hab' : othr u v l = u ∧ l = v ∨ othr u v l = v ∧ l = u := by
            unfold othr
            rcases hl with e | e
            · rw [if_pos e.symm]; exact Or.inr ⟨rfl, e⟩
            · rw [if_neg (fun e' => hne (e'.trans e))]; exact Or.inl ⟨rfl, e⟩
          rcases hp.iv.w4 (idxN l) h' L u v hp.hin hH (othr u v l) l hab' p hp1' hp2 with ⟨e, _⟩ | ⟨q, hq, _⟩
          · exact hol e
          · exact hp.iv.wf.cons _ (List.mem_of_getElem? hq) hp.neg
        · exact hxv ((lv_no hp.iv.wf.cons).2 (List.mem_of_getElem? hp1'))
      · rw [Ho hhh] at hH2'
        rcases hp.iv.w4 i h' L2 u2 v2 ((other hhh).1 hi) hH2' a b hab p hp1' hp2 with ⟨e, hr⟩ | hq
        · refine Or.inl ⟨e, hr.imp id fun hm => ?_⟩
          rcases List.mem_cons.1 hm with hm | hm
          · exact absurd hm hhh
          · exact hm
        · exact Or.inr hq
    · intro c hc
      rcases hp.iv.cov c hc with hq | ⟨h', L2, u2, v2, q1, q2, q3⟩ | hq
      · exact Or.inl hq
      · by_cases hhh : h' = h
        · subst hhh
          have q1' : S.H h' = some (L2, u2, v2) := q1
          rw [hH] at q1'
          simp only [Option.some.injEq, Prod.mk.injEq] at q1'
          obtain ⟨rfl, rfl, rfl⟩ := q1'
          exact Or.inr (Or.inl ⟨h', L, othr u v l, x, Hh, q2, Or.inr inO⟩)
        · exact Or.inr (Or.inl ⟨h', L2, u2, v2, (Ho hhh).trans q1, q2, q3.imp id (other hhh).2⟩)
      · exact Or.inr (Or.inr hq)
    · intro h' L2 u2 v2 hH2
      have hH2' : upd S.H h (L, othr u v l, x) h' = some (L2, u2, v2) := hH2
      by_cases hhh : h' = h
      · subst hhh
        rw [Hh] at hH2'
        simp only [Option.some.injEq, Prod.mk.injEq] at hH2'
        obtain ⟨rfl, rfl, rfl⟩ := hH2'
        exact hp.iv.src h' L u v hH
      · rw [Ho hhh] at hH2'
        exact hp.iv.src h' L2 u2 v2 hH2'
end
end Go.Proofs.Ytjpblaenebodlaa.Wt
