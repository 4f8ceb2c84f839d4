/- A heat by its scores, its step and who is within: each method. -/
import Derived.Test.YtfifgopmegbifaaHeapOk
import Derived.Test.YtfifgopmegbifaaTH
set_option linter.unusedVariables false
set_option linter.unusedSimpArgs false
set_option maxRecDepth 100000
namespace Go.Proofs.Ytfifgopmegbifaa.Heat
open Go Go.Proofs.Ytfifgopmegbifaa.Vc Go.Proofs.Ytfifgopmegbifaa.T
open Go.Proofs.Ytfifgopmegbifaa.Sort (g swp g_swp swp_len swp_perm g_some g_mem g_set Cm Ar Sorted sortFunc)

def fsum (x y : Nat) : Nat := (Fl.d64.add x y).getD 0
def fmul (x : Nat) : Nat := (Fl.d64.mul x small).getD 0
def fdiv (x y : Nat) : Nat := (Fl.d64.div x y).getD 0
def bumpS (sc : List Nat) (step : Nat) (v : Int) : List Nat × Nat :=
  if over (fsum (sc.getD (v - 1).toNat 0) step) then ((sc.set (v - 1).toNat (fsum (sc.getD (v - 1).toNat 0) step)).map fmul, fmul step) else (sc.set (v - 1).toNat (fsum (sc.getD (v - 1).toNat 0) step), step)
def coolS (sc : List Nat) (step decay : Nat) : List Nat × Nat := if over (fdiv step decay) then (sc.map fmul, fmul (fdiv step decay)) else (sc, fdiv step decay)
theorem small_read : ∃ m e, Fl.d64.read small = .number false m e ∧ m ≠ 0 := by
  refine ⟨_, _, Fl.read_lt (by decide), ?_⟩
  decide +kernel
theorem fmul_eq {x : Nat} (h : x ≤ Fl.Inf) : Fl.d64.mul x small = some (fmul x) ∧ fmul x ≤ Fl.Inf := by
  obtain ⟨m, e, hr, hm⟩ := small_read
  obtain ⟨z, hz, hle⟩ := Fl.mul_nn h hr hm
  unfold fmul
  rw [hz]
  exact ⟨rfl, hle⟩
theorem fsum_eq {x y : Nat} (hx : x ≤ Fl.Inf) (hy : y ≤ Fl.Inf) : Fl.d64.add x y = some (fsum x y) ∧ fsum x y ≤ Fl.Inf ∧ x ≤ fsum x y := by
  obtain ⟨z, hz, h1, h2⟩ := Fl.add_nn hx hy
  unfold fsum
  rw [hz]
  exact ⟨rfl, h1, h2⟩
theorem fdiv_eq {x d : Nat} (hx : x ≤ Fl.Inf) (hd : ∃ m e, Fl.d64.read d = .number false m e ∧ m ≠ 0) : Fl.d64.div x d = some (fdiv x d) ∧ fdiv x d ≤ Fl.Inf := by
  obtain ⟨m, e, hr, hm⟩ := hd
  obtain ⟨z, hz, h1⟩ := Fl.div_nn hx hr hm
  unfold fdiv
  rw [hz]
  exact ⟨rfl, h1⟩
/-- what always holds -/
structure Wf (n : Nat) (sc : List Nat) (step decay : Nat) (wb : List Bool) : Prop where
  scl : sc.length = n
  wbl : wb.length = n
  small : n ≤ 1048576
  nn : ∀ x ∈ sc, x ≤ Fl.Inf
  st : step ≤ Fl.Inf
  dec : ∃ m e, Fl.d64.read decay = .number false m e ∧ m ≠ 0
theorem getD_mem {sc : List Nat} {k : Nat} (h : k < sc.length) : sc.getD k 0 ∈ sc := by
  rw [List.getD_eq_getElem?_getD, List.getElem?_eq_getElem h]; exact List.getElem_mem h
theorem set_nn {sc : List Nat} (h : ∀ x ∈ sc, x ≤ Fl.Inf) {k y : Nat} (hy : y ≤ Fl.Inf) : ∀ x ∈ sc.set k y, x ≤ Fl.Inf := fun x hx => by
  rcases List.mem_or_eq_of_mem_set hx with hx | hx
  · exact h x hx
  · rw [hx]; exact hy
theorem map_nn {sc : List Nat} (h : ∀ x ∈ sc, x ≤ Fl.Inf) : ∀ x ∈ sc.map fmul, x ≤ Fl.Inf := fun x hx => by
  obtain ⟨y, hy, rfl⟩ := List.mem_map.1 hx
  exact (fmul_eq (h y hy)).2
theorem scaled_map : ∀ {sc : List Nat}, (∀ x ∈ sc, x ≤ Fl.Inf) → scaled sc (sc.map fmul) := by
  intro sc
  induction sc with
  | nil => intro _; trivial
  | cons x sc ih => intro h; exact ⟨(fmul_eq (h x (by simp))).1, ih fun y hy => h y (by simp [hy])⟩
section
variable {n : Nat} {sc : List Nat} {step decay : Nat} {wb : List Bool}
theorem Wf.bump (h : Wf n sc step decay wb) {v : Int} (hv : 1 ≤ v ∧ v ≤ n) : Wf n (bumpS sc step v).1 (bumpS sc step v).2 decay wb := by
  have hk : (v - 1).toNat < sc.length := by have := h.scl; omega
  have hs := fsum_eq (h.nn _ (getD_mem hk)) h.st
  unfold bumpS
  split
  · exact ⟨by simpa using h.scl, h.wbl, h.small, map_nn (set_nn h.nn hs.2.1), (fmul_eq h.st).2, h.dec⟩
  · exact ⟨by simpa using h.scl, h.wbl, h.small, set_nn h.nn hs.2.1, h.st, h.dec⟩
theorem Wf.cool (h : Wf n sc step decay wb) : Wf n (coolS sc step decay).1 (coolS sc step decay).2 decay wb := by
  have hs := fdiv_eq h.st h.dec
  unfold coolS
  split
  · exact ⟨by simpa using h.scl, h.wbl, h.small, map_nn h.nn, (fmul_eq hs.2).2, h.dec⟩
  · exact ⟨h.scl, h.wbl, h.small, h.nn, hs.2, h.dec⟩
theorem Wf.set (h : Wf n sc step decay wb) (k : Nat) (b : Bool) : Wf n sc step decay (wb.set k b) := ⟨h.scl, by simpa using h.wbl, h.small, h.nn, h.st, h.dec⟩
end

/-- where a heat lies -/
structure HI where
  h : Nat
  sb : Nat
  ib : Nat
  pb : Nat
def HI.F (Q : HI) (i : Nat) : Prop := HF Q.h Q.sb Q.ib Q.pb i
def isIn (wb : List Bool) (v : Int) : Bool := wb.getD (v - 1).toNat false
/-- a heat in memory -/
structure PR (n : Nat) (w : World) (Q : HI) (sc : List Nat) (step decay : Nat) (wb : List Bool) (it rest pl : List Int) : Prop where
  rep : Rep w Q.h Q.sb Q.ib Q.pb sc step decay it rest pl
  fc : FC n it pl
  hp : HpB (bfw sc) it
  cap : it.length + rest.length = n
  mem : ∀ v : Int, 1 ≤ v → v ≤ n → (v ∈ it ↔ isIn wb v = true)
  wf : Wf n sc step decay wb
def PH (n : Nat) (w : World) (Q : HI) (sc : List Nat) (step decay : Nat) (wb : List Bool) : Prop := ∃ it rest pl, PR n w Q sc step decay wb it rest pl
theorem FC.rng {n : Nat} {L pl : List Int} (h : FC n L pl) : ∀ y ∈ L, 1 ≤ y ∧ y ≤ n := fun y hy => by
  obtain ⟨i, hi⟩ := List.mem_iff_getElem?.1 hy
  have := h.at' i y hi
  exact ⟨this.1, this.2.1⟩
theorem Rep.keep {w w' : World} {h sb ib pb : Nat} {sc : List Nat} {step decay : Nat} {it rest pl : List Int} {S : Nat → Prop} (hR : Rep w h sb ib pb sc step decay it rest pl) (hk : Keep S w w') (hn : ∀ i, HF h sb ib pb i → ¬ S i) : Rep w' h sb ib pb sc step decay it rest pl :=
  ⟨hR.obj.keep hk (hn _ (Or.inl rfl)), hR.scores.keep hk (hn _ (Or.inr (Or.inl rfl))), hR.items.keep hk (hn _ (Or.inr (Or.inr (Or.inl rfl)))), hR.places.keep hk (hn _ (Or.inr (Or.inr (Or.inr rfl)))), hR.len, hR.hs, hR.hi, hR.hp, hR.si, hR.sp, hR.ip⟩
theorem PH.keep {n : Nat} {w w' : World} {Q : HI} {sc : List Nat} {step decay : Nat} {wb : List Bool} {S : Nat → Prop} (h : PH n w Q sc step decay wb) (hk : Keep S w w') (hn : ∀ i, Q.F i → ¬ S i) : PH n w' Q sc step decay wb := by
  obtain ⟨it, rest, pl, r⟩ := h
  exact ⟨it, rest, pl, r.rep.keep hk hn, r.fc, r.hp, r.cap, r.mem, r.wf⟩
theorem PH.keep0 {n : Nat} {w w' : World} {Q : HI} {sc : List Nat} {step decay : Nat} {wb : List Bool} (h : PH n w Q sc step decay wb) (hk : Keep None w w') : PH n w' Q sc step decay wb := h.keep hk fun _ _ h => h
theorem PH.lt {n : Nat} {w : World} {Q : HI} {sc : List Nat} {step decay : Nat} {wb : List Bool} (h : PH n w Q sc step decay wb) : ∀ i, Q.F i → i < w.heap.size := fun i hi => by
  obtain ⟨it, rest, pl, r⟩ := h
  rcases hi with rfl | rfl | rfl | rfl
  · exact r.rep.obj.lt
  · exact r.rep.scores.lt
  · exact r.rep.items.lt
  · exact r.rep.places.lt
theorem PH.wf {n : Nat} {w : World} {Q : HI} {sc : List Nat} {step decay : Nat} {wb : List Bool} (h : PH n w Q sc step decay wb) : Wf n sc step decay wb := by
  obtain ⟨it, rest, pl, r⟩ := h
  exact r.wf
section
variable {n : Nat} {w : World} {Q : HI} {sc : List Nat} {step decay : Nat} {wb : List Bool} {it rest pl : List Int}
theorem PR.il (r : PR n w Q sc step decay wb it rest pl) : it.length ≤ 1048576 := by have := r.cap; have := r.wf.small; omega
theorem PR.od (r : PR n w Q sc step decay wb it rest pl) : Od (bfw sc) (fun v => 1 ≤ v ∧ v ≤ n) := bfw_od r.wf.nn r.wf.scl
theorem g_of {i : Nat} {v : Int} (h : it[i]? = some v) : g it i = v := by unfold g; rw [List.getD_eq_getElem?_getD, h]; rfl
theorem bumped_ok (r : PR n w Q sc step decay wb it rest pl) {v : Int} (hv : 1 ≤ v ∧ v ≤ n) {y : Nat} (hy : y ≤ Fl.Inf) (hge : sc.getD (v - 1).toNat 0 ≤ y) :
    HpB (bfw (sc.set (v - 1).toNat y)) (bumped (sc.set (v - 1).toNat y) it pl v) ∧ (bumped (sc.set (v - 1).toNat y) it pl v).Perm it := by
  have hk : (v - 1).toNat < sc.length := by have := r.wf.scl; omega
  have hl1 : (sc.set (v - 1).toNat y).length = n := by simpa using r.wf.scl
  have nn1 := set_nn r.wf.nn hy (k := (v - 1).toNat)
  have rng := r.fc.rng
  -- scores elsewhere
  have sg : ∀ u : Int, 1 ≤ u ∧ u ≤ n → (sc.set (v - 1).toNat y).getD (u - 1).toNat 0 = if u = v then y else sc.getD (u - 1).toNat 0 := fun u hu => by
    rw [List.getD_eq_getElem?_getD, List.getElem?_set]
    by_cases huv : u = v
    · rw [if_pos (by rw [huv]), if_pos hk, if_pos huv]; rfl
    · rw [if_neg (by omega), if_neg huv, ← List.getD_eq_getElem?_getD]
  have same : ∀ {a b : Int}, (1 ≤ a ∧ a ≤ n) → (1 ≤ b ∧ b ≤ n) → a ≠ v → bfw sc a b = false → bfw (sc.set (v - 1).toNat y) a b = false := fun {a b} ha hb hav h => by
    cases hq : bfw (sc.set (v - 1).toNat y) a b with
    | false => rfl
    | true =>
      have h1 := (bfw_iff nn1 hl1 ha hb).1 hq
      rw [sg a ha, sg b hb, if_neg hav] at h1
      have : bfw sc a b = true := (bfw_iff r.wf.nn r.wf.scl ha hb).2 (by
        by_cases hbv : b = v
        · rw [if_pos hbv] at h1; rw [hbv]; rw [hbv] at h1; omega
        · rw [if_neg hbv] at h1; exact h1)
      rw [h] at this; cases this
  have gr : ∀ {k : Nat}, k < it.length → 1 ≤ g it k ∧ g it k ≤ n := fun hk => rng _ (g_mem hk)
  have o1 := bfw_od nn1 hl1
  unfold bumped
  by_cases hp : 0 ≤ pl.getD (v - 1).toNat (-1)
  · rw [if_pos hp]
    have hin : ∃ i : Nat, it[i]? = some v := Classical.byContradiction fun hn => by
      have := r.fc.out v hv.1 hv.2 fun i hi => hn ⟨i, hi⟩
      rw [List.getD_eq_getElem?_getD, this] at hp
      simp at hp
    obtain ⟨i, hi⟩ := hin
    have hii := (r.fc.at' i v hi).2.2
    have ei : pl.getD (v - 1).toNat (-1) = (i : Int) := by rw [List.getD_eq_getElem?_getD, hii]; rfl
    have hlt := (List.getElem?_eq_some_iff.1 hi).1
    rw [ei, Int.toNat_natCast]
    have eg : it.getD i 0 = g it i := rfl
    have egv : g it i = v := g_of hi
    rw [eg]
    have ss := set_same (L := it) hlt
    have ne : ∀ {k : Nat}, k < it.length → k ≠ i → g it k ≠ v := fun h1 h2 h3 => h2 (r.fc.inj (by rw [g_some h1, h3]) hi)
    have hu := up_ok o1 i it (g it i) hlt (by rw [ss]; exact rng) (fun k k1 k2 k3 => by
        rw [ss]; exact same (gr k2) (gr (by omega)) (ne k2 k3) (r.hp k k1 k2)) (fun i1 k k1 k2 k3 => by
        rw [ss]
        have h1 := r.hp k k1 k2
        rw [k3] at h1
        have h2 := r.hp i i1 hlt
        exact same (gr k2) (gr (by omega)) (ne k2 (by omega)) (r.od.trans _ _ _ (gr (by omega)) (gr hlt) (gr k2) h2 h1))
    rw [ss] at hu
    exact hu
  · rw [if_neg hp]
    refine ⟨fun k k1 k2 => same (gr k2) (gr (by omega)) (fun hkv => hp ?_) (r.hp k k1 k2), List.Perm.refl _⟩
    have h1 := (r.fc.at' k _ (g_some k2)).2.2
    rw [hkv] at h1
    rw [List.getD_eq_getElem?_getD, h1]
    simp
/-- behind a change of the scores -/
theorem PR.of_perm (r : PR n w Q sc step decay wb it rest pl) {w' : World} {sc2 : List Nat} {step2 : Nat} {it2 : List Int} (hH : Heat w Q.h Q.sb Q.ib Q.pb sc2 step2 decay rest it2 w') (hp : HpB (bfw sc2) it2) (hperm : it2.Perm it) (hw : Wf n sc2 step2 decay wb) :
    Keep Q.F w w' ∧ PH n w' Q sc2 step2 decay wb := by
  obtain ⟨k, pl', hR, hF⟩ := hH
  refine ⟨k, it2, rest, pl', hR, by rw [← hw.scl]; exact hF, hp, by rw [hperm.length_eq]; exact r.cap, fun v v1 v2 => ?_, hw⟩
  rw [hperm.mem_iff]; exact r.mem v v1 v2
theorem PH.bump (h : PH n w Q sc step decay wb) {v : Int} (hv : 1 ≤ v ∧ v ≤ n) :
    Calls Try.prog 13 #[.pointer (some ⟨Q.h, 0, none⟩), I v] w fun e w' => e = .returned (I 0) ∧ Keep Q.F w w' ∧ PH n w' Q (bumpS sc step v).1 (bumpS sc step v).2 decay wb := by
  obtain ⟨it, rest, pl, r⟩ := h
  have hk : (v - 1).toNat < sc.length := by have := r.wf.scl; omega
  have hs := fsum_eq (r.wf.nn _ (getD_mem hk)) r.wf.st
  have hb := bumped_ok r hv hs.2.1 hs.2.2
  have hW := r.wf.bump hv
  have hn := r.wf.small
  have hl := r.wf.scl
  cases ho : over (fsum (sc.getD (v - 1).toNat 0) step) with
  | false =>
    have e1 : bumpS sc step v = (sc.set (v - 1).toNat (fsum (sc.getD (v - 1).toNat 0) step), step) := by unfold bumpS; rw [ho]; rfl
    rw [e1] at hW ⊢
    refine (bump13 (y := fsum (sc.getD (v - 1).toNat 0) step) r.rep (by omega) r.il (by rw [hl]; exact r.fc) hv.1 (by omega) hs.1 (fun _ => ⟨rfl, rfl, rfl⟩) (fun h => by rw [ho] at h; cases h)).mono fun e w' ⟨he, hH⟩ => ⟨he, ?_⟩
    exact r.of_perm hH hb.1 hb.2 hW
  | true =>
    have e1 : bumpS sc step v = ((sc.set (v - 1).toNat (fsum (sc.getD (v - 1).toNat 0) step)).map fmul, fmul step) := by unfold bumpS; rw [ho]; rfl
    rw [e1] at hW ⊢
    refine (bump13 (y := fsum (sc.getD (v - 1).toNat 0) step) r.rep (by omega) r.il (by rw [hl]; exact r.fc) hv.1 (by omega) hs.1 (fun h => by rw [ho] at h; cases h) (fun _ => ⟨scaled_map (set_nn r.wf.nn hs.2.1), (fmul_eq r.wf.st).1, rfl⟩)).mono fun e w' ⟨he, hH⟩ => ⟨he, ?_⟩
    have hll := hb.2.length_eq
    have ha := again_ok (bfw_od hW.nn hW.scl) (it.length / 2) (bumped (sc.set (v - 1).toNat (fsum (sc.getD (v - 1).toNat 0) step)) it pl v) (by rw [hll]; omega) (fun y hy => r.fc.rng y (hb.2.mem_iff.1 hy)) (fun j j1 j2 j3 => by rw [hll] at j2; omega)
    exact r.of_perm hH ha.1 (ha.2.trans hb.2) hW
theorem PH.bump_out (h : PH n w Q sc step decay wb) {v : Int} (hv : ¬ (1 ≤ v ∧ v ≤ n)) :
    Calls Try.prog 13 #[.pointer (some ⟨Q.h, 0, none⟩), I v] w fun e w' => e = .returned (I 2) ∧ w' = w := by
  obtain ⟨it, rest, pl, r⟩ := h
  exact Heat.bump_out r.rep (by rw [r.wf.scl]; exact hv)
theorem PH.cool (h : PH n w Q sc step decay wb) :
    Calls Try.prog 14 #[.pointer (some ⟨Q.h, 0, none⟩)] w fun e w' => e = .returned (.tuple #[]) ∧ Keep Q.F w w' ∧ PH n w' Q (coolS sc step decay).1 (coolS sc step decay).2 decay wb := by
  obtain ⟨it, rest, pl, r⟩ := h
  have hs := fdiv_eq r.wf.st r.wf.dec
  have hW := r.wf.cool
  have hn := r.wf.small
  have hl := r.wf.scl
  cases ho : over (fdiv step decay) with
  | false =>
    have e1 : coolS sc step decay = (sc, fdiv step decay) := by unfold coolS; rw [ho]; rfl
    rw [e1] at hW ⊢
    refine (cool14 (y := fdiv step decay) r.rep (by omega) r.il (by rw [hl]; exact r.fc) hs.1 (fun _ => ⟨rfl, rfl, rfl⟩) (fun h => by rw [ho] at h; cases h)).mono fun e w' ⟨he, hH⟩ => ⟨he, ?_⟩
    exact r.of_perm hH r.hp (List.Perm.refl _) hW
  | true =>
    have e1 : coolS sc step decay = (sc.map fmul, fmul (fdiv step decay)) := by unfold coolS; rw [ho]; rfl
    rw [e1] at hW ⊢
    refine (cool14 (y := fdiv step decay) r.rep (by omega) r.il (by rw [hl]; exact r.fc) hs.1 (fun h => by rw [ho] at h; cases h) (fun _ => ⟨scaled_map r.wf.nn, (fmul_eq hs.2).1, rfl⟩)).mono fun e w' ⟨he, hH⟩ => ⟨he, ?_⟩
    have ha := again_ok (bfw_od hW.nn hW.scl) (it.length / 2) it (by omega) r.fc.rng (fun j j1 j2 j3 => by omega)
    exact r.of_perm hH ha.1 ha.2 hW
theorem PH.score (h : PH n w Q sc step decay wb) (v : Int) :
    Calls Try.prog 11 #[.pointer (some ⟨Q.h, 0, none⟩), I v] w fun e w' => w' = w ∧ e = .returned (if 1 ≤ v ∧ v ≤ n then .tuple #[F (sc.getD (v - 1).toNat 0), I 0] else .tuple #[F 0, I 2]) := by
  obtain ⟨it, rest, pl, r⟩ := h
  have := score11 r.rep v (by have := r.wf.small; have := r.wf.scl; omega)
  rw [r.wf.scl] at this
  exact this
def inA (n : Nat) (wb : List Bool) (v : Int) : Bool := decide (1 ≤ v) && decide (v ≤ n) && isIn wb v
theorem PR.place (r : PR n w Q sc step decay wb it rest pl) {v : Int} (hv : 1 ≤ v ∧ v ≤ n) : ∃ x, pl[(v - 1).toNat]? = some x ∧ (0 ≤ x ↔ isIn wb v = true) := by
  by_cases hin : ∃ i : Nat, it[i]? = some v
  · obtain ⟨i, hi⟩ := hin
    exact ⟨i, (r.fc.at' i v hi).2.2, ⟨fun _ => (r.mem v hv.1 hv.2).1 (List.mem_of_getElem? hi), fun _ => by omega⟩⟩
  · refine ⟨-1, r.fc.out v hv.1 hv.2 fun i hi => hin ⟨i, hi⟩, ⟨fun h => by omega, fun h => ?_⟩⟩
    obtain ⟨i, hi⟩ := List.mem_iff_getElem?.1 ((r.mem v hv.1 hv.2).2 h)
    exact absurd ⟨i, hi⟩ hin
theorem PH.isin (h : PH n w Q sc step decay wb) (v : Int) :
    Calls Try.prog 10 #[.pointer (some ⟨Q.h, 0, none⟩), I v] w fun e w' => e = .returned (.bool (inA n wb v)) ∧ w' = w := by
  obtain ⟨it, rest, pl, r⟩ := h
  refine (in10 r.rep v (by have := r.wf.small; have := r.wf.scl; omega)).mono fun e w' ⟨he, hw⟩ => ⟨?_, hw⟩
  rw [he, r.wf.scl]
  congr 2
  unfold within inA
  rcases Bool.eq_false_or_eq_true (decide (1 ≤ v) && decide (v ≤ n)) with hb | hb
  · have hv : 1 ≤ v ∧ v ≤ n := by simpa using hb
    obtain ⟨x, hx, hx2⟩ := r.place hv
    rw [hb, hx, Bool.true_and, Bool.true_and, Bool.eq_iff_iff]
    simpa using hx2
  · rw [hb, Bool.false_and, Bool.false_and]
/-- the variables within, the first one first -/
structure OrdL (n : Nat) (sc : List Nat) (wb : List Bool) (R : List Int) : Prop where
  nodup : R.Nodup
  mem : ∀ v : Int, v ∈ R ↔ inA n wb v = true
  sorted : R.Pairwise fun x y => bfw sc y x = false
theorem FC.nodup {n : Nat} {L pl : List Int} (h : FC n L pl) : L.Nodup := by
  rw [List.nodup_iff_pairwise_ne, List.pairwise_iff_getElem]
  intro i j hi hj hij he
  have := h.inj (List.getElem?_eq_getElem hi) (by rw [List.getElem?_eq_getElem hj, ← he])
  omega
theorem PR.memA (r : PR n w Q sc step decay wb it rest pl) (v : Int) : v ∈ it ↔ inA n wb v = true := by
  unfold inA
  constructor
  · intro h
    have := r.fc.rng v h
    rw [(r.mem v this.1 this.2).1 h]
    simp [this]
  · intro h
    simp only [Bool.and_eq_true, decide_eq_true_eq] at h
    exact (r.mem v h.1.1 h.1.2).2 h.2
theorem OrdL.unique {R R' : List Int} (hw : Wf n sc step decay wb) (h : OrdL n sc wb R) (h' : OrdL n sc wb R') : R = R' := by
  have rg : ∀ {v : Int}, inA n wb v = true → 1 ≤ v ∧ v ≤ n := fun h => by
    unfold inA at h
    simp only [Bool.and_eq_true, decide_eq_true_eq] at h
    exact h.1
  refine List.Perm.eq_of_pairwise (le := fun x y => bfw sc y x = false) (fun a b ha hb h1 h2 => ?_) h.sorted h'.sorted ?_
  · exact bfw_eq hw.nn hw.scl (rg ((h.mem a).1 ha)) (rg ((h'.mem b).1 hb)) h2 h1
  · rw [List.perm_ext_iff_of_nodup h.nodup h'.nodup]
    intro a
    rw [h.mem, h'.mem]
end
end Go.Proofs.Ytfifgopmegbifaa.Heat
