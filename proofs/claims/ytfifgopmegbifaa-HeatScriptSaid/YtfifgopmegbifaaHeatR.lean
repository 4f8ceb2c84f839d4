/- A script's heat and the lists that went out of it. -/
import Derived.Test.YtfifgopmegbifaaHeatC
set_option linter.unusedVariables false
set_option linter.unusedSimpArgs false
set_option maxRecDepth 100000
namespace Go.Proofs.Ytfifgopmegbifaa.Heat
open Go Go.Proofs.Ytfifgopmegbifaa.Vc Go.Proofs.Ytfifgopmegbifaa.T
open Go.Proofs.Ytfifgopmegbifaa.Apart (RdL own_rdl wrap_nat Ls Sl sv Ag Lists getE own_len)

abbrev i64 (x : Int) : Prop := -9223372036854775808 ≤ x ∧ x ≤ 9223372036854775807
/-- what a law knows of the scores -/
structure Jok (J : List Nat → Nat → Prop) : Prop where
  init : ∀ n, J (List.replicate n 0) one
  bump : ∀ {n sc step decay wb v}, Wf n sc step decay wb → 1 ≤ v ∧ v ≤ (n : Int) → J sc step → J (bumpS sc step v).1 (bumpS sc step v).2
  cool : ∀ {n : Nat} {sc step decay wb}, Wf n sc step decay wb → fine n decay = true → J sc step → J (coolS sc step decay).1 (coolS sc step decay).2
/-- a heat somehow -/
def St (J : List Nat → Nat → Prop) (n : Nat) (w : World) (Q : HI) (decay : Nat) (fr : Prop) : Prop :=
  fine n decay = true ∧ ∃ sc step wb, PH n w Q sc step decay wb ∧ J sc step ∧ (fr → wb = List.replicate n true)
section
variable {J : List Nat → Nat → Prop} {n : Nat} {w w1 : World} {Q : HI} {decay : Nat} {fr : Prop}
theorem St.keep {S : Nat → Prop} (h : St J n w Q decay fr) (hk : Keep S w w1) (hn : ∀ i, Q.F i → ¬ S i) : St J n w1 Q decay fr := by
  obtain ⟨hf, sc, step, wb, hP, hJ, hw⟩ := h
  exact ⟨hf, sc, step, wb, hP.keep hk hn, hJ, hw⟩
theorem St.keep0 (h : St J n w Q decay fr) (hk : Keep None w w1) : St J n w1 Q decay fr := h.keep hk fun _ _ h => h
theorem St.lt (h : St J n w Q decay fr) : ∀ i, Q.F i → i < w.heap.size := by
  obtain ⟨hf, sc, step, wb, hP, hJ, hw⟩ := h
  exact hP.lt
theorem St.any (h : St J n w Q decay fr) : St J n w Q decay False := by
  obtain ⟨hf, sc, step, wb, hP, hJ, hw⟩ := h
  exact ⟨hf, sc, step, wb, hP, hJ, False.elim⟩
theorem St.bump (hj : Jok J) (h : St J n w Q decay fr) (v : Int) :
    Calls Try.prog 13 #[.pointer (some ⟨Q.h, 0, none⟩), I v] w fun e w' => ∃ x, e = .returned (I x) ∧ Keep Q.F w w' ∧ St J n w' Q decay False := by
  obtain ⟨hf, sc, step, wb, hP, hJ, hw⟩ := h
  by_cases hv : 1 ≤ v ∧ v ≤ n
  · exact (hP.bump hv).mono fun e w' ⟨he, k, h'⟩ => ⟨_, he, k, hf, _, _, _, h', hj.bump hP.wf hv hJ, False.elim⟩
  · exact (hP.bump_out hv).mono fun e w' ⟨he, hw'⟩ => ⟨_, he, by rw [hw']; exact Keep.refl _ _, by rw [hw']; exact ⟨hf, _, _, _, hP, hJ, False.elim⟩⟩
theorem St.cool (hj : Jok J) (h : St J n w Q decay fr) :
    Calls Try.prog 14 #[.pointer (some ⟨Q.h, 0, none⟩)] w fun e w' => e = .returned (.tuple #[]) ∧ Keep Q.F w w' ∧ St J n w' Q decay False := by
  obtain ⟨hf, sc, step, wb, hP, hJ, hw⟩ := h
  exact hP.cool.mono fun e w' ⟨he, k, h'⟩ => ⟨he, k, hf, _, _, _, h', hj.cool hP.wf hf hJ, False.elim⟩
theorem St.take (h : St J n w Q decay fr) :
    Calls Try.prog 25 #[.pointer (some ⟨Q.h, 0, none⟩)] w fun e w' => ∃ x b, e = .returned (.tuple #[I x, .bool b]) ∧ Keep Q.F w w' ∧ St J n w' Q decay False := by
  obtain ⟨hf, sc, step, wb, hP, hJ, hw⟩ := h
  refine hP.take.mono fun e w' ⟨v, he, ht⟩ => ?_
  rcases ht with ⟨_, rfl, rfl⟩ | ⟨x, _, rfl, k, h'⟩
  · exact ⟨_, _, he, Keep.refl _ _, hf, _, _, _, hP, hJ, False.elim⟩
  · exact ⟨_, _, he, k, hf, _, _, _, h', hJ, False.elim⟩
theorem St.put (h : St J n w Q decay fr) (v : Int) :
    Calls Try.prog 26 #[.pointer (some ⟨Q.h, 0, none⟩), I v] w fun e w' => ∃ x, e = .returned (I x) ∧ Keep Q.F w w' ∧ St J n w' Q decay False := by
  obtain ⟨hf, sc, step, wb, hP, hJ, hw⟩ := h
  refine (hP.put v).mono fun e w' ht => ?_
  rcases ht with ⟨_, he, rfl⟩ | ⟨_, he, rfl⟩ | ⟨_, _, he, k, h'⟩
  · exact ⟨_, he, Keep.refl _ _, hf, _, _, _, hP, hJ, False.elim⟩
  · exact ⟨_, he, Keep.refl _ _, hf, _, _, _, hP, hJ, False.elim⟩
  · exact ⟨_, he, k, hf, _, _, _, h', hJ, False.elim⟩
theorem ordl_len {sc : List Nat} {wb : List Bool} {R : List Int} (h : OrdL n sc wb R) : R.length ≤ n :=
  nodup_bound n R h.nodup fun x hx => by
    have := (h.mem x).1 hx
    unfold inA at this
    simp only [Bool.and_eq_true, decide_eq_true_eq] at this
    exact this.1
theorem St.order (h : St J n w Q decay fr) :
    Calls Try.prog 15 #[.pointer (some ⟨Q.h, 0, none⟩)] w fun e w' => ∃ v R, e = .returned v ∧ Apart.New w R v w' ∧ R.length ≤ 1048576 := by
  obtain ⟨hf, sc, step, wb, hP, hJ, hw⟩ := h
  refine hP.order.mono fun e w' ⟨v, he, p, m, c, R, hv, hO, hn, hk, hR⟩ => ⟨v, R, he, ?_, by have := ordl_len hR; have := hP.wf.small; omega⟩
  have hl : R.length = m := own_len hO
  subst hl
  exact ⟨p, c, hv, hO, hn, hk⟩
end
/-- a heat and the lists that went out -/
structure Kh (J : List Nat → Nat → Prop) (n : Nat) (w0 w : World) (Q : HI) (decay : Nat) (fr : Prop) (p : Option Addr) (c : Nat) (xs : List Sl) (C : List (List Int)) (o : Nat → Int) : Prop where
  st : St J n w Q decay fr
  ls : Ls w (-1) p C.length c xs (fun k ys => C[k]? = some ys) o
  oh : ∀ i, Q.F i → o i = -3
  old : ∀ i, i < w0.heap.size → o i = -9
  keep : Keep None w0 w
  good : ∀ l ∈ C, l.length ≤ 1048576
/-- a list that is not yet among them -/
def Pend (w : World) (o : Nat → Int) (tag : Int) (a : Sl) (ys : List Int) : Prop := Own w 3 1 a.1 a.2.1 a.2.2 (ys.map I) ∧ ∀ i, ob a.1 i → o i = tag
theorem Pend.step0 {w w1 : World} {o o' : Nat → Int} {tag : Int} {a : Sl} {ys : List Int} (h : Pend w o tag a ys) (ha : Ag w o o') (hk : Keep None w w1) : Pend w1 o' tag a ys :=
  ⟨h.1.keep0 hk, fun i hi => by rw [ha i (h.1.lt i hi)]; exact h.2 i hi⟩
section
variable {J : List Nat → Nat → Prop} {n : Nat} {w0 w w1 : World} {Q : HI} {decay : Nat} {fr : Prop} {p : Option Addr} {c : Nat} {xs : List Sl} {C : List (List Int)} {o o' : Nat → Int} {S : Nat → Prop}
theorem Kh.any (h : Kh J n w0 w Q decay fr p c xs C o) : Kh J n w0 w Q decay False p c xs C o := ⟨h.st.any, h.ls, h.oh, h.old, h.keep, h.good⟩
theorem Kh.oldO (h : Kh J n w0 w Q decay fr p c xs C o) (ha : Ag w o o') : ∀ i, i < w0.heap.size → o' i = -9 := fun i hi => by
  rw [ha i (Nat.lt_of_lt_of_le hi h.keep.size)]; exact h.old i hi
/-- the heat goes on -/
theorem Kh.turn (h : Kh J n w0 w Q decay fr p c xs C o) {fr' : Prop} (k : Keep Q.F w w1) (hs : St J n w1 Q decay fr') : Kh J n w0 w1 Q decay fr' p c xs C o :=
  ⟨hs, h.ls.keep k (fun i hi hh => by have := h.ls.ow i hi; have := h.oh i hh; omega) fun k x hx i hi hh => by have := h.ls.oe k x hx i hi; have := h.oh i hh; omega, h.oh, h.old,
    h.keep.trans k fun i hi hh => by have := h.old i hi; have := h.oh i hh; omega, h.good⟩
theorem Kh.same (h : Kh J n w0 w Q decay fr p c xs C o) (k : Keep None w w1) (ha : Ag w o o') : Kh J n w0 w1 Q decay fr p c xs C o' :=
  ⟨h.st.keep0 k, (h.ls.reown ha).keep0 k, fun i hi => by rw [ha i (h.st.lt i hi)]; exact h.oh i hi, h.oldO ha, h.keep.then0 k, h.good⟩
theorem Kh.keep0 (h : Kh J n w0 w Q decay fr p c xs C o) (k : Keep None w w1) : Kh J n w0 w1 Q decay fr p c xs C o := h.same k fun _ _ => rfl
theorem Kh.fresh (h : Kh J n w0 w Q decay fr p c xs C o) (k : Keep None w w1) {a : Sl} {ys : List Int} (hO : Own w1 3 1 a.1 a.2.1 a.2.2 (ys.map I)) (hn : ∀ i, ob a.1 i → w.heap.size ≤ i) (tag : Int) :
    ∃ o', Ag w o o' ∧ Pend w1 o' tag a ys ∧ Kh J n w0 w1 Q decay fr p c xs C o' :=
  have ha : Ag w o fun i => if i < w.heap.size then o i else tag := fun i hi => if_pos hi
  ⟨fun i => if i < w.heap.size then o i else tag, ha, ⟨hO, fun i hi => if_neg (by have := hn i hi; omega)⟩, h.same k ha⟩
theorem Kh.push {K : Option Addr → Nat → Nat → World → Prop} (h : Kh J n w0 w Q decay fr p c xs C o) (As : List (Sl × List Int)) (hA : ∀ (j : Nat) (a : Sl × List Int), As[j]? = some a → Pend w o ((C.length + j : Nat) : Int) a.1 a.2)
    (hg : ∀ a ∈ As, a.2.length ≤ 1048576) (hsz : C.length + As.length ≤ 1099511627776)
    (hK : ∀ p' c' w' o', Ag w o o' → Keep (ob p) w w' → Kh J n w0 w' Q decay fr p' c' (xs ++ As.map fun a => a.1) (C ++ As.map fun a => a.2) o' → K p' (C.length + As.length) c' w') :
    alc w (As.map fun a => sv a.1) 33 fun b w7 => ∃ (p' : Option Addr) (n' c' : Nat), ∃ w' : World, (Builtin.append_ #[39, 39] 39 #[.slice p C.length c, .slice (some ⟨b, 0, none⟩) As.length As.length]).run Try.prog w7 = .ok (.slice p' n' c') w' ∧ K p' n' c' w' := by
  refine alc_at fun b w7 hb7 h7 k7 => ?_
  have z7 := k7.size
  have h' := h.keep0 k7
  have hN : News w7 1 (some ⟨b, 0, none⟩) As.length As.length (As.map fun a => sv a.1) := Or.inr ⟨_, rfl, by simp, fun j u hu => by
    rw [add_mk, Nat.zero_add, h7.cell]; exact hu⟩
  refine app_of2 (e := 33) (sz := 1) (z := .slice none 0 0) (B := 24) Try.underlying39 (by kernel_rfl) rfl (by omega) h'.ls.out hN (fun u hu => ?_) (by simp only [maxLen]; omega) (by omega) fun p' c' w' hO' hd => ?_
  · obtain ⟨a, _, rfl⟩ := List.mem_map.1 hu; rfl
  have hkp : Keep (ob p) w7 w' := by
    rcases hd with ⟨e1, e2, _, k⟩ | ⟨e1, k⟩
    · exact k
    · exact k.none
  have hnew : ∀ i, ob p' i → ob p i ∨ w7.heap.size ≤ i := fun i hi => by
    rcases hd with ⟨e1, e2, _, k⟩ | ⟨e1, k⟩
    · rw [e1] at hi; exact Or.inl hi
    · exact Or.inr (e1 i hi)
  have hS : ∀ i, i < w7.heap.size → ob p i → o i = -1 := fun i _ hi => h.ls.ow i hi
  let o' : Nat → Int := fun i => if i < w7.heap.size then o i else -1
  have ha7 : Ag w7 o o' := fun i hi => if_pos hi
  have ha : Ag w o o' := fun i hi => ha7 i (by omega)
  have hxl : xs.length = C.length := h.ls.len
  refine hK p' c' w' o' ha ((k7.none).trans hkp fun _ _ hh => hh) ⟨h'.st.keep hkp fun i hi hh => by have := h.oh i hi; have := h.ls.ow i hh; omega, ⟨?_, fun k x hx => ?_, fun i hi => ?_, fun k x hx i hi => ?_⟩,
    fun i hi => by rw [ha7 i (h'.st.lt i hi)]; exact h.oh i hi, h'.oldO ha7, h'.keep.trans hkp fun i hi hh => by have := h.old i hi; have := h.ls.ow i hh; omega, fun l hl => ?_⟩
  · rw [List.length_append, List.length_map, List.map_append, List.map_map]
    exact hO'
  · by_cases hk : k < xs.length
    · rw [List.getElem?_append_left hk] at hx
      obtain ⟨ys, hO, hy⟩ := h'.ls.each k x hx
      refine ⟨ys, hO.keep hkp fun i hi hs => by have := h'.ls.oe k x hx i hi; have := h.ls.ow i hs; omega, ?_⟩
      rw [List.getElem?_append_left (by omega)]; exact hy
    · rw [List.getElem?_append_right (by omega), List.getElem?_map] at hx
      obtain ⟨a, ha1, rfl⟩ := Option.map_eq_some_iff.1 hx
      have hp := hA _ a ha1
      refine ⟨a.2, (hp.1.keep0 k7).keep hkp fun i hi hs => by have := hp.2 i hi; have := h.ls.ow i hs; omega, ?_⟩
      rw [List.getElem?_append_right (by omega), List.getElem?_map, ← hxl, ha1]; rfl
  · rcases hnew i hi with hh | hh
    · rw [ha7 i (h'.ls.out.lt i hh)]; exact h.ls.ow i hh
    · exact if_neg (by omega)
  · by_cases hk : k < xs.length
    · rw [List.getElem?_append_left hk] at hx
      obtain ⟨ys, hO, hy⟩ := h'.ls.each k x hx
      rw [ha7 i (hO.lt i hi)]; exact h.ls.oe k x hx i hi
    · rw [List.getElem?_append_right (by omega), List.getElem?_map] at hx
      obtain ⟨a, ha1, rfl⟩ := Option.map_eq_some_iff.1 hx
      have hp := hA _ a ha1
      rw [ha7 i ((hp.1.keep0 k7).lt i hi), hp.2 i hi]
      omega
  · rcases List.mem_append.1 hl with hl | hl
    · exact h.good l hl
    · obtain ⟨a, ha1, rfl⟩ := List.mem_map.1 hl
      exact hg a ha1
end
/-- a script's calls -/
def OpL (w : World) (sp : Option Addr) (m : Nat) : Prop := ∀ i : Nat, i < m → ∃ (a : Addr) (on kd x : Int), sp = some a ∧
  w.cell? ((a.add (i * 3)).add 0) = some (I on) ∧ w.cell? ((a.add (i * 3)).add 1) = some (I kd) ∧ w.cell? ((a.add (i * 3)).add 2) = some (I x) ∧ i64 on ∧ i64 kd ∧ i64 x
theorem OpL.keep0 {w w' : World} {sp : Option Addr} {m : Nat} (h : OpL w sp m) (hk : Keep None w w') : OpL w' sp m := fun i hi => by
  obtain ⟨a, on, kd, x, e, c0, c1, c2, r⟩ := h i hi
  exact ⟨a, on, kd, x, e, hk.cell c0 fun h => h, hk.cell c1 fun h => h, hk.cell c2 fun h => h, r⟩
theorem OpL.at {w : World} {sp : Option Addr} {m i : Nat} {K : Addr → Prop} (h : OpL w sp m) (hi : i < m) (hk : ∀ (a : Addr) (on kd x : Int), w.cell? (a.add 0) = some (I on) → w.cell? (a.add 1) = some (I kd) → w.cell? (a.add 2) = some (I x) → i64 on → i64 kd → i64 x → K a) : ixA sp m (i : Int) 3 K := by
  obtain ⟨a, on, kd, x, rfl, c0, c1, c2, r0, r1, r2⟩ := h i hi
  refine ⟨by omega, by omega, ?_⟩
  show K _
  rw [Int.toNat_natCast]
  exact hk _ on kd x c0 c1 c2 r0 r1 r2
end Go.Proofs.Ytfifgopmegbifaa.Heat
