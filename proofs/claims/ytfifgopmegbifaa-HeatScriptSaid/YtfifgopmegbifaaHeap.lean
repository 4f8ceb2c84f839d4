/- The heap within a heat: up, down and again lay the items as plain functions of lists say, and the places go with them. -/
import Derived.Test.YtfifgopmegbifaaBegins
import Derived.Test.YtfifgopmegbifaaTS
set_option linter.unusedVariables false
set_option linter.unusedSimpArgs false
set_option maxRecDepth 100000
namespace Go.Proofs.Ytfifgopmegbifaa.Heat
open Go Go.Proofs.Ytfifgopmegbifaa.Vc Go.Proofs.Ytfifgopmegbifaa.T

/-- each item's place is where it stands; of all others -1 -/
structure FC (n : Nat) (L pl : List Int) : Prop where
  len : pl.length = n
  at' : ∀ (i : Nat) (y : Int), L[i]? = some y → 1 ≤ y ∧ y ≤ n ∧ pl[(y - 1).toNat]? = some (i : Int)
  out : ∀ v : Int, 1 ≤ v → v ≤ n → (∀ i : Nat, L[i]? ≠ some v) → pl[(v - 1).toNat]? = some (-1)
theorem FC.inj {n : Nat} {L pl : List Int} (h : FC n L pl) {i j : Nat} {y : Int} (hi : L[i]? = some y) (hj : L[j]? = some y) : i = j := by
  have h1 := (h.at' i y hi).2.2
  have h2 := (h.at' j y hj).2.2
  rw [h1] at h2
  injection h2 with h2
  omega
/-- .. once x is laid at the hole -/
structure PC (n : Nat) (L : List Int) (h : Nat) (x : Int) (pl : List Int) : Prop where
  lt : h < L.length
  x1 : 1 ≤ x
  x2 : x ≤ n
  fc : FC n (L.set h x) (pl.set (x - 1).toNat h)
theorem PC.start {n : Nat} {L pl : List Int} {h : Nat} {x : Int} (hx : L[h]? = some x) (hf : FC n L pl) : PC n L h x pl := by
  have hlt : h < L.length := (List.getElem?_eq_some_iff.1 hx).1
  have h1 := hf.at' h x hx
  have e1 : L.set h x = L := by
    apply List.ext_getElem?
    intro i
    rw [List.getElem?_set]
    by_cases hi : h = i
    · subst hi; rw [if_pos rfl, if_pos hlt, hx]
    · rw [if_neg hi]
  have e2 : pl.set (x - 1).toNat h = pl := by
    apply List.ext_getElem?
    intro i
    rw [List.getElem?_set]
    by_cases hi : (x - 1).toNat = i
    · subst hi
      rw [if_pos rfl, if_pos (List.getElem?_eq_some_iff.1 h1.2.2).1, h1.2.2]
    · rw [if_neg hi]
  exact ⟨hlt, h1.1, h1.2.1, by rw [e1, e2]; exact hf⟩
theorem PC.step {n : Nat} {L pl : List Int} {h a : Nat} {x y : Int} (hp : PC n L h x pl) (ha : a ≠ h) (hy : L[a]? = some y) : 1 ≤ y ∧ y ≤ n ∧ PC n (L.set h y) a x (pl.set (y - 1).toNat h) := by
  have hlt : a < L.length := (List.getElem?_eq_some_iff.1 hy).1
  have hpl : pl.length = n := by have := hp.fc.len; simpa using this
  have hMa : (L.set h x)[a]? = some y := by rw [List.getElem?_set, if_neg (Ne.symm ha)]; exact hy
  have hMh : (L.set h x)[h]? = some x := by rw [List.getElem?_set]; simp [hp.lt]
  have hyn := hp.fc.at' a y hMa
  have hxy : x ≠ y := fun e => ha (hp.fc.inj (e ▸ hMa) hMh)
  have hx1 := hp.x1
  have hx2 := hp.x2
  have hM' : ∀ i, ((L.set h y).set a x)[i]? = if i = a then some x else if i = h then some y else L[i]? := by
    intro i
    have hh := hp.lt
    rw [List.getElem?_set, List.length_set, List.getElem?_set]
    by_cases e1 : a = i
    · subst e1; simp [hlt]
    · rw [if_neg e1, if_neg (Ne.symm e1)]
      by_cases e2 : h = i
      · subst e2; simp [hh]
      · rw [if_neg e2, if_neg (Ne.symm e2)]
  have hP' : ∀ v : Int, 1 ≤ v → v ≤ n → ((pl.set (y - 1).toNat h).set (x - 1).toNat a)[(v - 1).toNat]? = if v = x then some (a : Int) else if v = y then some (h : Int) else pl[(v - 1).toNat]? := by
    intro v v1 v2
    rw [List.getElem?_set, List.length_set, List.getElem?_set]
    by_cases e1 : v = x
    · subst e1
      rw [if_pos rfl, if_pos (by omega), if_pos rfl]
    · rw [if_neg e1, if_neg (by omega)]
      by_cases e2 : v = y
      · subst e2
        rw [if_pos rfl, if_pos (by omega), if_pos rfl]
      · rw [if_neg e2, if_neg (by omega)]
  have hP : ∀ v : Int, 1 ≤ v → v ≤ n → v ≠ x → (pl.set (x - 1).toNat h)[(v - 1).toNat]? = pl[(v - 1).toNat]? := by
    intro v v1 v2 hv
    rw [List.getElem?_set, if_neg (by omega)]
  refine ⟨hyn.1, hyn.2.1, by simpa using hlt, hx1, hx2, by simpa using hpl, ?_, ?_⟩
  · intro i z hz
    rw [hM'] at hz
    split at hz
    · injection hz with hz
      subst hz
      refine ⟨hx1, hx2, ?_⟩
      rw [hP' _ hx1 hx2, if_pos rfl]
      subst_vars; rfl
    · split at hz
      · injection hz with hz
        subst hz
        refine ⟨hyn.1, hyn.2.1, ?_⟩
        rw [hP' _ hyn.1 hyn.2.1, if_neg (Ne.symm hxy), if_pos rfl]
        subst_vars; rfl
      · rename_i n1 n2
        have hz' : (L.set h x)[i]? = some z := by rw [List.getElem?_set, if_neg (Ne.symm n2)]; exact hz
        have hf := hp.fc.at' i z hz'
        have zx : z ≠ x := fun e => n2 (hp.fc.inj (e ▸ hz') hMh)
        have zy : z ≠ y := fun e => n1 (hp.fc.inj (e ▸ hz') hMa)
        refine ⟨hf.1, hf.2.1, ?_⟩
        rw [hP' _ hf.1 hf.2.1, if_neg zx, if_neg zy, ← hP _ hf.1 hf.2.1 zx]
        exact hf.2.2
  · intro v v1 v2 hv
    have vx : v ≠ x := fun e => hv a (by rw [hM', if_pos rfl, e])
    have vy : v ≠ y := fun e => hv h (by rw [hM', if_neg (Ne.symm ha), if_pos rfl, e])
    rw [hP' _ v1 v2, if_neg vx, if_neg vy, ← hP _ v1 v2 vx]
    refine hp.fc.out v v1 v2 fun i hi => ?_
    rw [List.getElem?_set] at hi
    split at hi
    · split at hi
      · injection hi with hi; exact vx hi.symm
      · cases hi
    · rename_i n1
      by_cases e1 : i = a
      · subst e1; rw [hy] at hi; injection hi with hi; exact vy hi.symm
      · exact hv i (by rw [hM', if_neg e1, if_neg (Ne.symm n1)]; exact hi)

/-- is v ahead of w? -/
def bfw (sc : List Nat) (v w : Int) : Bool :=
  cond ((FloatKind.format .f64).order (sc.getD (v - 1).toNat 0) (sc.getD (w - 1).toNat 0) == some .gt) true
    (cond ((FloatKind.format .f64).order (sc.getD (v - 1).toNat 0) (sc.getD (w - 1).toNat 0) == some .eq) (decide (v < w)) false)
def upL (bf : Int → Int → Bool) (x : Int) (L : List Int) (a : Nat) : List Int :=
  if h : a = 0 then L.set a x else if bf x (L.getD ((a - 1) / 2) 0) then upL bf x (L.set a (L.getD ((a - 1) / 2) 0)) ((a - 1) / 2) else L.set a x
termination_by a
decreasing_by omega
def lower (bf : Int → Int → Bool) (L : List Int) (a : Nat) : Nat := if 2 * a + 2 < L.length ∧ bf (L.getD (2 * a + 2) 0) (L.getD (2 * a + 1) 0) then 2 * a + 2 else 2 * a + 1
def downL (bf : Int → Int → Bool) (x : Int) (L : List Int) (a : Nat) : List Int :=
  if h : 2 * a + 1 < L.length then (if bf (L.getD (lower bf L a) 0) x then downL bf x (L.set a (L.getD (lower bf L a) 0)) (lower bf L a) else L.set a x) else L.set a x
termination_by L.length - a
decreasing_by
  have : lower bf L a = 2 * a + 2 ∨ lower bf L a = 2 * a + 1 := by unfold lower; split <;> simp
  simp only [List.length_set]
  omega

theorem getD_int {l : List Int} {i : Nat} (h : i < l.length) : l[i]? = some (l.getD i 0) := by
  rw [List.getD_eq_getElem?_getD, List.getElem?_eq_getElem h]; rfl

section
variable {w : World} {h sb ib pb : Nat} {sc : List Nat} {step decay : Nat} {it rest pl : List Int}
def IP (ib pb : Nat) (i : Nat) : Prop := i = ib ∨ i = pb
theorem Rep.lay (hR : Rep w h sb ib pb sc step decay it rest pl) (hs : sc.length ≤ 1048576) {a : Nat} {x : Int} (ha : a < it.length) (h1 : 1 ≤ x) (h2 : x ≤ sc.length) :
    Calls Try.prog 28 #[.pointer (some ⟨h, 3, none⟩), I a, I x] w fun e w' => e = .returned (.tuple #[]) ∧ Keep (IP ib pb) w w' ∧ Rep w' h sb ib pb sc step decay (it.set a x) rest (pl.set (x - 1).toNat a) := by
  have hl := hR.len
  refine (lay28 (a := .bool true) (b := .bool true) (c := .bool true) (ho := []) (at' := (a : Int)) (hR.obj.cell 3) (hR.obj.cell 4) hR.items hR.places hR.ip hR.hi (by omega) (by omega) (by simp) h1 (by omega) (by omega) (by omega)).mono
    fun e w' ⟨he, hk, hI, hP⟩ => ⟨he, hk, ?_⟩
  have nI : ∀ {i}, i ≠ ib → i ≠ pb → ¬ (fun i => i = ib ∨ i = pb) i := fun h1 h2 h => by rcases h with h | h <;> contradiction
  refine ⟨?_, hR.scores.keep hk (nI hR.si hR.sp), ?_, hP, by simpa using hl, hR.hs, hR.hi, hR.hp, hR.si, hR.sp, hR.ip⟩
  · have := hR.obj.keep hk (nI hR.hi hR.hp)
    simpa using this
  · rw [Int.toNat_natCast, List.set_append_left _ _ ha] at hI
    exact hI
theorem Rep.drew (hR : Rep w h sb ib pb sc step decay it rest pl) : Rep w.drew h sb ib pb sc step decay it rest pl :=
  ⟨hR.obj, hR.scores, hR.items, hR.places, hR.len, hR.hs, hR.hi, hR.hp, hR.si, hR.sp, hR.ip⟩
theorem warmer27 (hR : Rep w h sb ib pb sc step decay it rest pl) (hs : sc.length ≤ 1048576) {v u : Int} (v1 : 1 ≤ v) (v2 : v ≤ sc.length) (u1 : 1 ≤ u) (u2 : u ≤ sc.length) :
    Calls Try.prog 27 #[.pointer (some ⟨h, 0, none⟩), I v, I u] w fun e w' => e = .returned (.bool (bfw sc v u)) ∧ w' = w.drew := by
  refine (V27_calls (some ⟨h, 0, none⟩) v u w (fun r w' => r = .bool (bfw sc v u) ∧ w' = w.drew) ?_).mono fun e w' ⟨v, he, hv, hk⟩ => ⟨by rw [he, hv], hk⟩
  unfold V27
  have hR0 := hR.drew
  generalize w.drew = w0 at *
  have e1 : IntKind.wrap .i64 (v - 1) = v - 1 := by rw [IntKind.wrap_i64]; omega
  have e2 : IntKind.wrap .i64 (u - 1) = u - 1 := by rw [IntKind.wrap_i64]; omega
  rw [e1, e2]
  have rd : ∀ {v : Int}, 1 ≤ v → v ≤ sc.length → w0.cell? ⟨sb, (v - 1).toNat, none⟩ = some (F (sc.getD (v - 1).toNat 0)) := fun h1 h2 => by
    rw [hR0.scores.cell, List.getElem?_map, List.getD_eq_getElem?_getD, List.getElem?_eq_getElem (by omega)]; rfl
  refine nn_of ?_
  simp only [add_mk, Nat.zero_add]
  refine ldC_of (hR0.obj.cell 0) (ixA_of1 (by omega) (by omega) (ldF_of (rd v1 v2) (nn_of ?_)))
  simp only [add_mk, Nat.zero_add]
  exact ldC_of (hR0.obj.cell 0) (ixA_of1 (by omega) (by omega) (ldF_of (rd u1 u2) ⟨rfl, by first | rfl | trivial⟩))
/-- a reading of an item -/
theorem Rep.item (hR : Rep w h sb ib pb sc step decay it rest pl) {a : Nat} (ha : a < it.length) : w.cell? ⟨ib, a, none⟩ = some (I (it.getD a 0)) := by
  rw [hR.items.cell, List.getElem?_map, List.getElem?_append_left ha, getD_int ha]; rfl
theorem clF_of {k : FuncId} {first cap : Array Value} {args : List Value} {w : World} {R : Ending → World → Prop} (h : cl Try.prog k (first.toList ++ args ++ cap.toList) w R) :
    clF Try.prog (.func (.func k) first cap) args w R := ⟨k, first, cap, rfl, h⟩

def Unit' (Q : World → Prop) (v : Value) (w' : World) : Prop := v = .tuple #[] ∧ Q w'
/-- what up, down and again leave -/
def Laid (w : World) (h sb ib pb : Nat) (sc : List Nat) (step decay : Nat) (rest L : List Int) (w' : World) : Prop :=
  Keep (IP ib pb) w w' ∧ ∃ pl', Rep w' h sb ib pb sc step decay L rest pl' ∧ FC sc.length L pl'
theorem up31p (hR : Rep w h sb ib pb sc step decay it rest pl) (hs : sc.length ≤ 1048576) (hi : it.length ≤ 1048576) {a : Nat} (ha : a < it.length) (hp00 : PC sc.length it a (it.getD a 0) pl) :
    Calls Try.prog 31 #[.pointer (some ⟨h, 3, none⟩), I a] w fun e w' => e = .returned (.tuple #[]) ∧ Laid w h sb ib pb sc step decay rest (upL (bfw sc) (it.getD a 0) it a) w' := by
  refine (V31_calls (some ⟨h, 3, none⟩) a w (Unit' (Laid w h sb ib pb sc step decay rest (upL (bfw sc) (it.getD a 0) it a))) ?_).mono fun e w' ⟨v, he, hv, hk⟩ => ⟨by rw [he, hv], hk⟩
  unfold V31
  generalize hx : it.getD a 0 = x
  refine nn_of ?_
  simp only [add_mk, Nat.add_zero, Nat.reduceAdd]
  refine ldC_of (hR.obj.cell 3) (ixA_of1 (by omega) (by omega) (ldI_of (x := x) (by rw [Int.toNat_natCast, hR.item ha, hx]) ?_))
  have hp0 : PC sc.length it a x pl := by rw [← hx]; exact hp00
  -- behind the loop
  have fin : ∀ (w2 : World) (L pl2 : List Int) (b : Nat), Keep (IP ib pb) w w2 → Rep w2 h sb ib pb sc step decay L rest pl2 → PC sc.length L b x pl2 → L.set b x = upL (bfw sc) x it a →
      cl Try.prog 28 [.pointer (some (⟨h, 3, none⟩ : Addr)), .int .i64 (b : Int), .int .i64 x] w2 fun e30 w5 => e30 = Ending.returned (.tuple #[]) ∧ Unit' (Laid w h sb ib pb sc step decay rest (upL (bfw sc) x it a)) (.tuple #[]) w5 := by
    intro w2 L pl2 b k2 hR2 hp2 hu
    refine cl_of ok28 (hR2.lay hs hp2.lt hp2.x1 hp2.x2) fun e w5 ⟨he, k5, hR5⟩ => ⟨he, rfl, ?_⟩
    refine ⟨k2.trans k5 fun i _ h => h, _, hu ▸ hR5, hu ▸ hp2.fc⟩
  refine jn_of ?_
  refine lp_of (fun s w2 => ∃ (b : Nat) (L pl2 : List Int), s.1 = b ∧ L.length = it.length ∧ Keep (IP ib pb) w w2 ∧ Rep w2 h sb ib pb sc step decay L rest pl2 ∧ PC sc.length L b x pl2 ∧ upL (bfw sc) x L b = upL (bfw sc) x it a)
    (fun s _ => s.1.toNat) ⟨a, it, pl, rfl, rfl, Keep.refl _ _, hR, hp0, rfl⟩ ?_
  rintro ⟨b', ⟨⟩⟩ w2 ⟨b, L, pl2, rfl, hL, k2, hR2, hp2, hu⟩
  simp only []
  have hb := hp2.lt
  refine pif_of (fun hgt => ?_) fun hle => ?_
  · have hgt : 0 < b := by simp at hgt; omega
    have e1 : IntKind.wrap .i64 (Int.tdiv (IntKind.wrap .i64 ((b : Int) - 1)) 2) = (((b - 1) / 2 : Nat) : Int) := by
      have e0 : IntKind.wrap .i64 ((b : Int) - 1) = ((b - 1 : Nat) : Int) := by rw [IntKind.wrap_i64]; omega
      rw [e0, Int.tdiv_eq_ediv_of_nonneg (by omega), IntKind.wrap_i64]; omega
    rw [e1]
    have hac : (b - 1) / 2 < L.length := by omega
    have hRd := hR2.drew
    refine nn_of ?_
    simp only [add_mk, Nat.reduceAdd]
    refine ldV_of (hRd.obj.cell 5) (nn_of ?_)
    simp only [add_mk, Nat.reduceAdd, Nat.add_zero]
    refine ldC_of (hRd.obj.cell 3) (ixA_of1 (by omega) (by omega) (ldI_of (x := L.getD ((b - 1) / 2) 0) (by rw [Int.toNat_natCast]; exact hRd.item hac) ?_))
    obtain ⟨y1, y2, hp3⟩ := hp2.step (a := (b - 1) / 2) (by omega) (getD_int hac)
    refine clF_of (cl_of ok27 (warmer27 hRd hs hp2.x1 hp2.x2 y1 y2) fun e w3 ⟨he, hw⟩ => ⟨_, he, ?_⟩)
    have hR3 : Rep w3 h sb ib pb sc step decay L rest pl2 := by rw [hw]; exact hRd.drew
    have k3 : Keep (IP ib pb) w w3 := by rw [hw]; exact k2.drew.drew
    rw [upL, dif_neg (by omega)] at hu
    rcases Bool.eq_false_or_eq_true (bfw sc x (L.getD ((b - 1) / 2) 0)) with hc | hc
    · rw [hc, if_pos rfl] at hu
      rw [hc]
      refine pif_f rfl (nn_of ?_)
      simp only [add_mk, Nat.add_zero]
      refine ldC_of (hR3.obj.cell 3) (ixA_of1 (by omega) (by omega) (ldI_of (x := L.getD ((b - 1) / 2) 0) (by rw [Int.toNat_natCast]; exact hR3.item hac) ?_))
      refine cl_of ok28 (hR3.lay hs hp2.lt y1 y2) fun e w4 ⟨he, k4, hR4⟩ => ⟨he, ⟨_, _, _, rfl, by simpa using hL, k3.trans k4 fun i _ h => h, hR4, hp3, hu⟩, by omega⟩
    · rw [hc, if_neg (by simp)] at hu
      rw [hc]
      exact pif_t rfl (fin w3 L pl2 b k3 hR3 hp2 hu)
  · have hb0 : b = 0 := by simp at hle; omega
    subst hb0
    rw [upL, dif_pos rfl] at hu
    exact fin w2 L pl2 0 k2 hR2 hp2 hu
theorem up31 (hR : Rep w h sb ib pb sc step decay it rest pl) (hs : sc.length ≤ 1048576) (hi : it.length ≤ 1048576) (hf : FC sc.length it pl) {a : Nat} (ha : a < it.length) :
    Calls Try.prog 31 #[.pointer (some ⟨h, 3, none⟩), I a] w fun e w' => e = .returned (.tuple #[]) ∧ Laid w h sb ib pb sc step decay rest (upL (bfw sc) (it.getD a 0) it a) w' :=
  up31p hR hs hi ha (PC.start (getD_int ha) hf)
end
end Go.Proofs.Ytfifgopmegbifaa.Heat
