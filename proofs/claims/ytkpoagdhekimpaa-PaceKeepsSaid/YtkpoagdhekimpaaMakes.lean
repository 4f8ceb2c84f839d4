/- Two Paces and the document's: each step of a script answers alike. -/
import Derived.Test.YtkpoagdhekimpaaLuby
import Derived.Test.YtkpoagdhekimpaaFormed
import Derived.Test.YtkpoagdhekimpaaTMakes
set_option linter.unusedVariables false
set_option linter.unusedSimpArgs false
set_option maxRecDepth 100000
namespace Go.Proofs.Ytkpoagdhekimpaa.Pace
open Go Go.Proofs.Ytkpoagdhekimpaa.Vc Go.Proofs.Ytkpoagdhekimpaa.T

abbrev I (n : Int) : Value := .int .i64 n
abbrev F (n : Nat) : Value := .float .f64 n
abbrev Pt (b : Nat) : Value := .pointer (some ⟨b, 0, none⟩)
abbrev wr (n : Int) : Int := IntKind.wrap .i64 n

/-- a Pace's blocks: its config, counts, and how often it said yes -/
structure Ids where
  f : Nat
  c : Nat
  r : Nat
  l : Nat
  k : Nat
  j : Nat
def Ids.ok (A : Ids) (m : Nat) : Prop := A.f < A.c ∧ A.c < A.r ∧ A.r < A.l ∧ A.l < A.k ∧ A.k < A.j ∧ A.j < m
def Foot (A : Ids) (m : Nat) (i : Nat) : Prop := i = A.c ∨ i = A.r ∨ i = A.l ∨ i = A.k ∨ i = A.j ∨ i = m
structure PRep (w : World) (A : Ids) (bs f g n r l k j : Int) : Prop where
  c : Blk w A.c [I n] 3
  r : Blk w A.r [I r] 3
  l : Blk w A.l [I l] 3
  k : Blk w A.k [I k] 3
  j : Blk w A.j [I j] 3
  f : ∃ d p q, Blk w A.f [I bs, I f, I g, F d, I p, I q] 24
def MRep (w : World) (m : Nat) (bs f g s rs h cl : Int) : Prop := ∃ d p q, Blk w m [I bs, I f, I g, F d, I p, I q, I s, I rs, I h, I cl] 59

theorem PRep.keep {w w' : World} {A : Ids} {bs f g n r l k j : Int} {S : Nat → Prop} (h : PRep w A bs f g n r l k j) (hk : Keep S w w')
    (h1 : ¬ S A.c) (h2 : ¬ S A.r) (h3 : ¬ S A.l) (h4 : ¬ S A.k) (h5 : ¬ S A.j) (h6 : ¬ S A.f) : PRep w' A bs f g n r l k j := by
  obtain ⟨a, b, c, d, e, x, y, z, hf⟩ := h
  exact ⟨a.keep hk h1, b.keep hk h2, c.keep hk h3, d.keep hk h4, e.keep hk h5, x, y, z, hf.keep hk h6⟩
theorem MRep.keep {w w' : World} {m : Nat} {bs f g s rs h cl : Int} {S : Nat → Prop} (hM : MRep w m bs f g s rs h cl) (hk : Keep S w w') (h1 : ¬ S m) : MRep w' m bs f g s rs h cl := by
  obtain ⟨x, y, z, hf⟩ := hM
  exact ⟨x, y, z, hf.keep hk h1⟩

section
variable {w : World} {A : Ids} {m : Nat} {bs f g n r l k j s rs h cl' : Int}
theorem conflict28 (hA : A.ok m) (hP : PRep w A bs f g n r l k j) :
    Calls Try.prog 28 #[Pt A.c] w fun e w' => e = .returned (.tuple #[]) ∧ Keep (One A.c) w w' ∧ PRep w' A bs f g (wr (n + 1)) r l k j := by
  refine (V28_calls ⟨A.c, 0, none⟩ w (fun v w' => v = .tuple #[] ∧ Keep (One A.c) w w' ∧ PRep w' A bs f g (wr (n + 1)) r l k j) ?_).mono fun e w' ⟨v, he, hv, hk⟩ => ⟨by rw [he, hv], hk⟩
  unfold V28
  obtain ⟨o1, o2, o3, o4, o5, o6⟩ := hA
  refine ldI_of (hP.c.cell 0) ?_
  rw [add_mk]
  refine st_of hP.c (by simp) rfl fun w1 h1 k1 _ => ⟨rfl, k1, h1, hP.r.keep1 k1 (by omega), hP.l.keep1 k1 (by omega), hP.k.keep1 k1 (by omega), hP.j.keep1 k1 (by omega), ?_⟩
  obtain ⟨d, p, q, hf⟩ := hP.f
  exact ⟨d, p, q, hf.keep1 k1 (by omega)⟩

def due (bs n r k : Int) : Bool := !(decide (wr (n - r) < wr (bs * (lub k.toNat : Int))))
theorem restart29 (hA : A.ok m) (hP : PRep w A bs f g n r l k j) (hk : k < 9223372036854775808) :
    Calls Try.prog 29 #[Pt A.c, Pt A.r, Pt A.f, Pt A.k] w fun e w' => e = .returned (.bool (due bs n r k)) ∧ Keep (fun i => i = A.r ∨ i = A.k) w w' ∧
      PRep w' A bs f g n (cond (due bs n r k) n r) l (cond (due bs n r k) (wr (k + 1)) k) j := by
  refine (V29_calls ⟨A.c, 0, none⟩ ⟨A.r, 0, none⟩ ⟨A.f, 0, none⟩ ⟨A.k, 0, none⟩ w (fun v w' => v = .bool (due bs n r k) ∧ Keep (fun i => i = A.r ∨ i = A.k) w w' ∧
      PRep w' A bs f g n (cond (due bs n r k) n r) l (cond (due bs n r k) (wr (k + 1)) k) j) ?_).mono fun e w' ⟨v, he, hv, hk⟩ => ⟨by rw [he, hv], hk⟩
  unfold V29
  obtain ⟨o1, o2, o3, o4, o5, o6⟩ := hA
  have hD : PRep w.drew A bs f g n r l k j := ⟨hP.c.drew, hP.r.drew, hP.l.drew, hP.k.drew, hP.j.drew, hP.f⟩
  obtain ⟨d, p, q, hf⟩ := hD.f
  have kd : Keep (fun i => i = A.r ∨ i = A.k) w w.drew := (Keep.refl _ w).drew
  generalize w.drew = w0 at *
  refine ldI_of (hD.c.cell 0) (ldI_of (hD.r.cell 0) ?_)
  simp only [add_mk, Nat.zero_add]
  refine ldI_of (hf.cell 0) (ldI_of (hD.k.cell 0) ?_)
  refine cl_of ok15 (luby15 k w0 hk) fun e w1 ⟨he, hw⟩ => ⟨_, he, ?_⟩
  subst hw
  refine ⟨ldI_of (hf.cell 0) rfl, ldI_of (hD.r.cell 0) rfl, ldI_of (hD.c.cell 0) rfl, ?_⟩
  have ed : due bs n r k = !(decide (IntKind.wrap .i64 (n - r) < IntKind.wrap .i64 (bs * (lub k.toNat : Int)))) := rfl
  refine pif_of (fun ht => ?_) fun ht => ?_
  · rw [ht] at ed
    rw [ed]
    exact ⟨rfl, kd, hD⟩
  · rw [ht] at ed
    rw [ed]
    refine ldI_of (hD.c.cell 0) ?_
    refine st_of hD.r (by simp) rfl fun w2 h2 k2 _ => ?_
    have hk2 := hD.k.keep1 k2 (by omega)
    refine ldI_of (hk2.cell 0) ?_
    refine st_of hk2 (by simp) rfl fun w3 h3 k3 _ => ⟨rfl, (kd.thenS k2 (Or.inl rfl)).thenS k3 (Or.inr rfl), ?_⟩
    exact ⟨(hD.c.keep1 k2 (by omega)).keep1 k3 (by omega), h2.keep1 k3 (by omega), (hD.l.keep1 k2 (by omega)).keep1 k3 (by omega), h3, (hD.j.keep1 k2 (by omega)).keep1 k3 (by omega), d, p, q, (hf.keep1 k2 (by omega)).keep1 k3 (by omega)⟩

def clr (f g n l j : Int) : Bool := !(decide (wr (n - l) < wr (f + wr (j * g))))
theorem clear30 (hA : A.ok m) (hP : PRep w A bs f g n r l k j) :
    Calls Try.prog 30 #[Pt A.c, Pt A.l, Pt A.f, Pt A.j] w fun e w' => e = .returned (.bool (clr f g n l j)) ∧ Keep (fun i => i = A.l ∨ i = A.j) w w' ∧
      PRep w' A bs f g n r (cond (clr f g n l j) n l) k (cond (clr f g n l j) (wr (j + 1)) j) := by
  refine (V30_calls ⟨A.c, 0, none⟩ ⟨A.l, 0, none⟩ ⟨A.f, 0, none⟩ ⟨A.j, 0, none⟩ w (fun v w' => v = .bool (clr f g n l j) ∧ Keep (fun i => i = A.l ∨ i = A.j) w w' ∧
      PRep w' A bs f g n r (cond (clr f g n l j) n l) k (cond (clr f g n l j) (wr (j + 1)) j)) ?_).mono fun e w' ⟨v, he, hv, hk⟩ => ⟨by rw [he, hv], hk⟩
  unfold V30
  obtain ⟨o1, o2, o3, o4, o5, o6⟩ := hA
  obtain ⟨d, p, q, hf⟩ := hP.f
  have kd : Keep (fun i => i = A.l ∨ i = A.j) w w := Keep.refl _ w
  refine ldI_of (hP.c.cell 0) (ldI_of (hP.l.cell 0) ?_)
  simp only [add_mk, Nat.zero_add]
  refine ldI_of (hf.cell 1) (ldI_of (hP.j.cell 0) (ldI_of (hf.cell 2) ?_))
  have ed : clr f g n l j = !(decide (IntKind.wrap .i64 (n - l) < IntKind.wrap .i64 (f + IntKind.wrap .i64 (j * g)))) := rfl
  refine pif_of (fun ht => ?_) fun ht => ?_
  · rw [ht] at ed
    rw [ed]
    exact ⟨rfl, kd, hP⟩
  · rw [ht] at ed
    rw [ed]
    refine ldI_of (hP.c.cell 0) ?_
    refine st_of hP.l (by simp) rfl fun w2 h2 k2 _ => ?_
    have hk2 := hP.j.keep1 k2 (by omega)
    refine ldI_of (hk2.cell 0) ?_
    refine st_of hk2 (by simp) rfl fun w3 h3 k3 _ => ⟨rfl, (kd.thenS k2 (Or.inl rfl)).thenS k3 (Or.inr rfl), ?_⟩
    exact ⟨(hP.c.keep1 k2 (by omega)).keep1 k3 (by omega), (hP.r.keep1 k2 (by omega)).keep1 k3 (by omega), h2.keep1 k3 (by omega), (hP.k.keep1 k2 (by omega)).keep1 k3 (by omega), h3, d, p, q, (hf.keep1 k2 (by omega)).keep1 k3 (by omega)⟩

theorem conflict31 (hM : MRep w m bs f g s rs h cl') :
    Calls Try.prog 31 #[Pt m] w fun e w' => e = .returned (.tuple #[]) ∧ Keep (One m) w w' ∧ MRep w' m bs f g (wr (s + 1)) rs (wr (h + 1)) cl' := by
  refine (V31_calls (some ⟨m, 0, none⟩) w (fun v w' => v = .tuple #[] ∧ Keep (One m) w w' ∧ MRep w' m bs f g (wr (s + 1)) rs (wr (h + 1)) cl') ?_).mono fun e w' ⟨v, he, hv, hk⟩ => ⟨by rw [he, hv], hk⟩
  unfold V31
  obtain ⟨d, p, q, hB⟩ := hM
  have k0 : Keep (One m) w w := Keep.refl _ w
  refine nn_of ?_
  simp only [add_mk, Nat.zero_add, Nat.add_zero]
  refine ldI_of (hB.cell 6) (nn_of ?_)
  simp only [add_mk, Nat.zero_add, Nat.add_zero]
  refine st_of hB (by simp) rfl fun w1 h1 k1 _ => nn_of ?_
  simp only [add_mk, Nat.zero_add, Nat.add_zero]
  refine ldI_of (h1.cell 8) (nn_of ?_)
  simp only [add_mk, Nat.zero_add, Nat.add_zero]
  exact st_of h1 (by simp) rfl fun w2 h2 k2 _ => ⟨by first | rfl | trivial, (k0.thenS k1 rfl).thenS k2 rfl, d, p, q, h2⟩
def dueM (bs s rs : Int) : Bool := !(decide (s < wr (bs * (lub (wr (rs + 1)).toNat : Int))))
theorem wr_lt (x : Int) : wr x < 9223372036854775808 := by show IntKind.wrap .i64 x < _; rw [IntKind.wrap_i64]; omega
theorem restart32 (hM : MRep w m bs f g s rs h cl') :
    Calls Try.prog 32 #[Pt m] w fun e w' => e = .returned (.bool (dueM bs s rs)) ∧ Keep (One m) w w' ∧ MRep w' m bs f g (cond (dueM bs s rs) 0 s) (cond (dueM bs s rs) (wr (rs + 1)) rs) h cl' := by
  refine (V32_calls (some ⟨m, 0, none⟩) w (fun v w' => v = .bool (dueM bs s rs) ∧ Keep (One m) w w' ∧ MRep w' m bs f g (cond (dueM bs s rs) 0 s) (cond (dueM bs s rs) (wr (rs + 1)) rs) h cl') ?_).mono fun e w' ⟨v, he, hv, hk⟩ => ⟨by rw [he, hv], hk⟩
  unfold V32
  have hM0 : MRep w.drew m bs f g s rs h cl' := hM
  have k0 : Keep (One m) w w.drew := (Keep.refl _ w).drew
  generalize w.drew = w0 at *
  obtain ⟨d, p, q, hB⟩ := hM0
  refine nn_of ?_
  simp only [add_mk, Nat.zero_add, Nat.add_zero]
  refine ldI_of (hB.cell 6) (nn_of ?_)
  simp only [add_mk, Nat.zero_add, Nat.add_zero]
  refine ldI_of (hB.cell 0) (nn_of ?_)
  simp only [add_mk, Nat.zero_add, Nat.add_zero]
  refine ldI_of (hB.cell 7) ?_
  refine cl_of ok16 (luby16 _ w0 (wr_lt _)) fun e w1 ⟨he, hw⟩ => ⟨_, he, ?_⟩
  subst hw
  refine ⟨ldI_of (hB.cell 0) rfl, ldI_of (hB.cell 6) rfl, ?_⟩
  have ed : dueM bs s rs = !(decide (s < IntKind.wrap .i64 (bs * (lub (IntKind.wrap .i64 (rs + 1)).toNat : Int)))) := rfl
  refine pif_of (fun ht => ?_) fun ht => ?_
  · rw [ht] at ed
    rw [ed]
    exact ⟨rfl, k0, d, p, q, hB⟩
  · rw [ht] at ed
    rw [ed]
    refine nn_of ?_
    simp only [add_mk, Nat.zero_add, Nat.add_zero]
    refine st_of hB (by simp) rfl fun w2 h2 k2 _ => nn_of ?_
    simp only [add_mk, Nat.zero_add, Nat.add_zero]
    refine ldI_of (h2.cell 7) (nn_of ?_)
    simp only [add_mk, Nat.zero_add, Nat.add_zero]
    exact st_of h2 (by simp) rfl fun w3 h3 k3 _ => ⟨by first | rfl | trivial, (k0.thenS k2 rfl).thenS k3 rfl, d, p, q, h3⟩
def clrM (f g h cl' : Int) : Bool := !(decide (h < wr (f + wr (g * cl'))))
theorem clear33 (hM : MRep w m bs f g s rs h cl') :
    Calls Try.prog 33 #[Pt m] w fun e w' => e = .returned (.bool (clrM f g h cl')) ∧ Keep (One m) w w' ∧ MRep w' m bs f g s rs (cond (clrM f g h cl') 0 h) (cond (clrM f g h cl') (wr (cl' + 1)) cl') := by
  refine (V33_calls (some ⟨m, 0, none⟩) w (fun v w' => v = .bool (clrM f g h cl') ∧ Keep (One m) w w' ∧ MRep w' m bs f g s rs (cond (clrM f g h cl') 0 h) (cond (clrM f g h cl') (wr (cl' + 1)) cl')) ?_).mono fun e w' ⟨v, he, hv, hk⟩ => ⟨by rw [he, hv], hk⟩
  unfold V33
  have hM0 : MRep w.drew m bs f g s rs h cl' := hM
  have k0 : Keep (One m) w w.drew := (Keep.refl _ w).drew
  generalize w.drew = w0 at *
  obtain ⟨d, p, q, hB⟩ := hM0
  refine nn_of ?_
  simp only [add_mk, Nat.zero_add, Nat.add_zero]
  refine ldI_of (hB.cell 8) (nn_of ?_)
  simp only [add_mk, Nat.zero_add, Nat.add_zero]
  refine ldI_of (hB.cell 1) (nn_of ?_)
  simp only [add_mk, Nat.zero_add, Nat.add_zero]
  refine ldI_of (hB.cell 2) (nn_of ?_)
  simp only [add_mk, Nat.zero_add, Nat.add_zero]
  refine ldI_of (hB.cell 9) ?_
  have ed : clrM f g h cl' = !(decide (h < IntKind.wrap .i64 (f + IntKind.wrap .i64 (g * cl')))) := rfl
  refine pif_of (fun ht => ?_) fun ht => ?_
  · rw [ht] at ed
    rw [ed]
    exact ⟨rfl, k0, d, p, q, hB⟩
  · rw [ht] at ed
    rw [ed]
    refine nn_of ?_
    simp only [add_mk, Nat.zero_add, Nat.add_zero]
    refine st_of hB (by simp) rfl fun w2 h2 k2 _ => nn_of ?_
    simp only [add_mk, Nat.zero_add, Nat.add_zero]
    refine ldI_of (h2.cell 9) (nn_of ?_)
    simp only [add_mk, Nat.zero_add, Nat.add_zero]
    exact st_of h2 (by simp) rfl fun w3 h3 k3 _ => ⟨by first | rfl | trivial, (k0.thenS k2 rfl).thenS k3 rfl, d, p, q, h3⟩
end

/-- a Pace and the document's have counted alike -/
def Both (w : World) (A : Ids) (m : Nat) : Prop := ∃ bs f g n r l k j s rs h : Int, PRep w A bs f g n r l k j ∧ MRep w m bs f g s rs h j ∧ s = wr (n - r) ∧ k = wr (rs + 1) ∧ h = wr (n - l)
theorem Both.keep {w w' : World} {A : Ids} {m : Nat} {S : Nat → Prop} (h : Both w A m) (hk : Keep S w w') (hn : ∀ i, Foot A m i ∨ i = A.f → ¬ S i) : Both w' A m := by
  obtain ⟨bs, f, g, n, r, l, k, j, s, rs, h, h1, h2, h3⟩ := h
  exact ⟨bs, f, g, n, r, l, k, j, s, rs, h, h1.keep hk (hn _ (by simp [Foot])) (hn _ (by simp [Foot])) (hn _ (by simp [Foot])) (hn _ (by simp [Foot])) (hn _ (by simp [Foot])) (hn _ (by simp [Foot])), h2.keep hk (hn _ (by simp [Foot])), h3⟩

def fc (A : Ids) : Value := .func (.func 28) #[] #[Pt A.c]
def fr (A : Ids) : Value := .func (.func 29) #[] #[Pt A.c, Pt A.r, Pt A.f, Pt A.k]
def fl (A : Ids) : Value := .func (.func 30) #[] #[Pt A.c, Pt A.l, Pt A.f, Pt A.j]

theorem clF_of {k : FuncId} {first cap : Array Value} {args : List Value} {w : World} {R : Ending → World → Prop} (h : cl Try.prog k (first.toList ++ args ++ cap.toList) w R) :
    clF Try.prog (.func (.func k) first cap) args w R := ⟨k, first, cap, rfl, h⟩

section
variable {w : World} {A : Ids} {m : Nat}
theorem act_c {K : World → Prop} (hA : A.ok m) (hB : Both w A m) (hK : ∀ w', Both w' A m → Keep (Foot A m) w w' → K w') :
    clF Try.prog (fc A) [] w fun e18 w4 => e18 = Ending.returned (.tuple #[]) ∧ cl Try.prog 31 [Pt m] w4 fun e20 w5 => e20 = Ending.returned (.tuple #[]) ∧ K w5 := by
  obtain ⟨bs, f, g, n, r, l, k, j, s, rs, h, h1, h2, rfl, rfl, rfl⟩ := hB
  have hA' := hA
  obtain ⟨o1, o2, o3, o4, o5, o6⟩ := hA
  refine clF_of (cl_of ok28 (conflict28 hA' h1) fun e w1 ⟨he, k1, h1⟩ => ⟨he, ?_⟩)
  refine cl_of ok31 (conflict31 (h2.keep k1 (fun h => by have : m = A.c := h; omega))) fun e w2 ⟨he, k2, h2⟩ => ⟨he, hK _ ?_ ?_⟩
  · have n1 : ∀ x, x < m → ¬ One m x := fun x hx h => by have : x = m := h; omega
    refine ⟨bs, f, g, _, r, l, _, j, _, _, _, h1.keep k2 (n1 _ (by omega)) (n1 _ (by omega)) (n1 _ (by omega)) (n1 _ (by omega)) (n1 _ (by omega)) (n1 _ (by omega)), h2, ?_, rfl, ?_⟩
    · simp only [wr, IntKind.wrap_i64]; omega
    · simp only [wr, IntKind.wrap_i64]; omega
  · exact (k1.mono (S' := Foot A m) fun i _ h => Or.inl h).thenS k2 (by simp [Foot])
theorem act_r {K : Bool → World → Prop} (hA : A.ok m) (hB : Both w A m) (hK : ∀ w', Both w' A m → Keep (Foot A m) w w' → K true w') :
    clF Try.prog (fr A) [] w fun e36 w9 => ∃ x35 : Bool, e36 = Ending.returned (.bool x35) ∧ cl Try.prog 32 [Pt m] w9 fun e39 w10 => ∃ x38 : Bool, e39 = Ending.returned (.bool x38) ∧ K (x35 == x38) w10 := by
  obtain ⟨bs, f, g, n, r, l, k, j, s, rs, h, h1, h2, rfl, rfl, rfl⟩ := hB
  have hA' := hA
  obtain ⟨o1, o2, o3, o4, o5, o6⟩ := hA
  refine clF_of (cl_of ok29 (restart29 hA' h1 (wr_lt _)) fun e w1 ⟨he, k1, h1⟩ => ⟨_, he, ?_⟩)
  refine cl_of ok32 (restart32 (h2.keep k1 (fun h => by rcases h with h | h <;> omega))) fun e w2 ⟨he, k2, h2⟩ => ⟨_, he, ?_⟩
  have e1 : dueM bs (wr (n - r)) rs = due bs n r (wr (rs + 1)) := rfl
  rw [e1] at h2 ⊢
  rw [beq_self_eq_true]
  refine hK _ ?_ ?_
  · have n1 : ∀ x, x < m → ¬ One m x := fun x hx h => by have : x = m := h; omega
    refine ⟨bs, f, g, n, _, l, _, j, _, _, _, h1.keep k2 (n1 _ (by omega)) (n1 _ (by omega)) (n1 _ (by omega)) (n1 _ (by omega)) (n1 _ (by omega)) (n1 _ (by omega)), h2, ?_, ?_, rfl⟩
    · cases due bs n r (wr (rs + 1)) with
      | true => simp only [cond_true, wr, IntKind.wrap_i64]; omega
      | false => rfl
    · cases due bs n r (wr (rs + 1)) with
      | true => rfl
      | false => rfl
  · exact (k1.mono (S' := Foot A m) fun i _ h => by rcases h with h | h <;> simp [Foot, h]).thenS k2 (by simp [Foot])
theorem act_l {K : Bool → World → Prop} (hA : A.ok m) (hB : Both w A m) (hK : ∀ w', Both w' A m → Keep (Foot A m) w w' → K true w') :
    clF Try.prog (fl A) [] w fun e36 w9 => ∃ x35 : Bool, e36 = Ending.returned (.bool x35) ∧ cl Try.prog 33 [Pt m] w9 fun e39 w10 => ∃ x38 : Bool, e39 = Ending.returned (.bool x38) ∧ K (x35 == x38) w10 := by
  obtain ⟨bs, f, g, n, r, l, k, j, s, rs, h, h1, h2, rfl, rfl, rfl⟩ := hB
  have hA' := hA
  obtain ⟨o1, o2, o3, o4, o5, o6⟩ := hA
  refine clF_of (cl_of ok30 (clear30 hA' h1) fun e w1 ⟨he, k1, h1⟩ => ⟨_, he, ?_⟩)
  refine cl_of ok33 (clear33 (h2.keep k1 (fun h => by rcases h with h | h <;> omega))) fun e w2 ⟨he, k2, h2⟩ => ⟨_, he, ?_⟩
  have e1 : clrM f g (wr (n - l)) j = clr f g n l j := by unfold clrM clr; rw [Int.mul_comm g j]
  rw [e1] at h2 ⊢
  rw [beq_self_eq_true]
  refine hK _ ?_ ?_
  · have n1 : ∀ x, x < m → ¬ One m x := fun x hx h => by have : x = m := h; omega
    refine ⟨bs, f, g, n, r, _, _, _, _, _, _, h1.keep k2 (n1 _ (by omega)) (n1 _ (by omega)) (n1 _ (by omega)) (n1 _ (by omega)) (n1 _ (by omega)) (n1 _ (by omega)), h2, rfl, rfl, ?_⟩
    cases clr f g n l j with
    | true => simp only [cond_true, wr, IntKind.wrap_i64]; omega
    | false => rfl
  · exact (k1.mono (S' := Foot A m) fun i _ h => by rcases h with h | h <;> simp [Foot, h]).thenS k2 (by simp [Foot])
end
end Go.Proofs.Ytkpoagdhekimpaa.Pace
