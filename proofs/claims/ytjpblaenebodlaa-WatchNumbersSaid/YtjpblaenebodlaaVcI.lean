/- The verification-condition generator, ninth part: that a region comes to the same in whatever order Go makes it. -/
import Derived.Test.YtjpblaenebodlaaVcH
set_option linter.unusedVariables false
set_option linter.unusedSimpArgs false
namespace Go.Proofs.Ytjpblaenebodlaa.Vc
open Go
section
variable {P : Program} {n : Nat} {ops : Array Oper} {bm : List Nat}

theorem subB_mk {x y : Nat} (h : ∀ j, hasB x j = true → hasB y j = true) : subB x y = true := by
  have : x &&& y = x := Nat.eq_of_testBit_eq fun j => by
    rw [Nat.testBit_and]
    cases hx : x.testBit j with
    | false => simp
    | true => simp [show y.testBit j = true from h j hx]
  simp only [subB, this]
  exact Nat.beq_refl x

structure Rel (ops : Array Oper) (listed : Array Bool) (D : Nat) : Prop where
  size : listed.size = ops.size
  bit : ∀ i, i < ops.size → listed[i]? = some (hasB D i)
  lt : ∀ i, hasB D i = true → i < ops.size

theorem Rel.set {listed : Array Bool} {D i : Nat} (h : Rel ops listed D) (hi : i < ops.size) : Rel ops (listed.setIfInBounds i true) (addB D i) := by
  refine ⟨by simp [h.size], fun j hj => ?_, fun j hj => ?_⟩
  · rw [hasB_add]
    by_cases hij : i = j
    · subst hij; simp [h.size, hi]
    · simp only [Array.getElem?_setIfInBounds_ne hij, h.bit j hj, hij, decide_false, Bool.or_false]
  · rw [hasB_add] at hj
    simp only [Bool.or_eq_true, decide_eq_true_eq] at hj
    rcases hj with hj | rfl
    · exact h.lt j hj
    · exact hi

theorem Rel.ready {listed : Array Bool} {D : Nat} (h : Rel ops listed D) {i : Nat} : i ∈ Region.ready .any ops listed ↔ ∃ o, ops[i]? = some o ∧ rdyB D i o = true := by
  have hget : ∀ j b, j < ops.size → listed.getD j b = hasB D j := fun j b hj => by
    simp only [Array.getD_eq_getD_getElem?, h.bit j hj, Option.getD_some]
  have hout : ∀ j b, ¬ j < ops.size → listed.getD j b = b := fun j b hj => by
    simp only [Array.getD_eq_getD_getElem?]
    rw [Array.getElem?_eq_none (by rw [h.size]; omega)]; rfl
  simp only [Region.ready, List.mem_filter, List.mem_range, Bool.and_eq_true, Bool.not_eq_true']
  constructor
  · rintro ⟨hi, h1, h2⟩
    cases ho : ops[i]? with
    | none => simp [ho] at h2
    | some o =>
      refine ⟨o, rfl, ?_⟩
      rw [ho] at h2
      simp only [Option.map_some, Option.getD_some] at h2
      rw [hget i true hi] at h1
      simp only [rdyB, h1, Bool.not_false, Bool.true_and]
      refine subB_mk fun j hj => ?_
      obtain ⟨e, he, hb, rfl⟩ := predM_spec' hj
      have := Array.all_eq_true'.1 h2 e he
      rw [hb] at this
      simp only [Bool.not_true, Bool.false_or] at this
      by_cases hlt : e.on < ops.size
      · rwa [hget e.on false hlt] at this
      · rw [hout e.on false hlt] at this; cases this
  · rintro ⟨o, ho, hr⟩
    have hi : i < ops.size := (Array.getElem?_eq_some_iff.1 ho).1
    simp only [rdyB, Bool.and_eq_true, Bool.not_eq_true'] at hr
    refine ⟨hi, by rw [hget i true hi]; exact hr.1, ?_⟩
    rw [ho]
    simp only [Option.map_some, Option.getD_some]
    refine Array.all_eq_true'.2 fun e he => ?_
    cases hb : Region.binds .any e with
    | false => rfl
    | true =>
      simp only [Bool.not_true, Bool.false_or]
      have hj := subB_spec hr.2 (predM_spec he hb)
      rw [hget e.on false (h.lt _ hj)]; exact hj

/-- how many are left -/
def leftN (ops : Array Oper) (D : Nat) : Nat := ((List.range ops.size).filter fun i => !(hasB D i)).length
theorem leftN_add {D i : Nat} (hi : i < ops.size) (hD : hasB D i = false) : leftN ops (addB D i) + 1 = leftN ops D := by
  unfold leftN
  have key : ∀ l : List Nat, l.Nodup → i ∈ l → (l.filter fun j => !(hasB (addB D i) j)).length + 1 = (l.filter fun j => !(hasB D j)).length := by
    intro l
    induction l with
    | nil => intro _ h; cases h
    | cons x r ih =>
      intro hnd hm
      have hnd' := List.nodup_cons.1 hnd
      by_cases hx : x = i
      · subst hx
        have hsame : (r.filter fun j => !(hasB (addB D x) j)) = r.filter fun j => !(hasB D j) := by
          apply List.filter_congr
          intro j hj
          have hne : x ≠ j := fun e => hnd'.1 (e ▸ hj)
          simp [hasB_add, hne]
        rw [List.filter_cons, List.filter_cons, hsame]
        simp [hasB_add, hD]
      · have hm' : i ∈ r := by rcases List.mem_cons.1 hm with h | h; exact absurd h.symm hx; exact h
        have := ih hnd'.2 hm'
        rw [List.filter_cons, List.filter_cons]
        have hb : hasB (addB D i) x = hasB D x := by simp [hasB_add, Ne.symm hx]
        rw [hb]
        cases hasB D x <;> simp <;> omega
  exact key _ List.nodup_range (List.mem_range.2 hi)
theorem leftN_zero {D : Nat} (h : leftN ops D = 0) : ∀ i, i < ops.size → hasB D i = true := by
  intro i hi
  unfold leftN at h
  have := List.filter_eq_nil_iff.1 (List.eq_nil_of_length_eq_zero h) i (List.mem_range.2 hi)
  simpa using this

theorem acy_ready {listed : Array Bool} {D : Nat} (hac : acyOk ops = true) (h : Rel ops listed D) (hr : Region.ready .any ops listed = []) : ∀ i, i < ops.size → hasB D i = true := by
  intro i
  induction i using Nat.strongRecOn with
  | _ i ih =>
    intro hi
    cases hb : hasB D i with
    | true => rfl
    | false =>
      exfalso
      have ho : ∃ o, ops[i]? = some o := ⟨ops[i], Array.getElem?_eq_getElem hi⟩
      obtain ⟨o, ho⟩ := ho
      have h1 := List.all_eq_true.1 hac i (List.mem_range.2 hi)
      rw [ho] at h1
      have hm : i ∈ Region.ready .any ops listed := h.ready.2 ⟨o, ho, by
        simp only [rdyB, hb, Bool.not_false, Bool.true_and]
        refine subB_mk fun j hj => ?_
        have hlt : predM o < 2 ^ i := Nat.le_of_ble_eq_true h1
        have hji : j < i := Classical.byContradiction fun hge => by
          have : predM o < 2 ^ j := Nat.lt_of_lt_of_le hlt (Nat.pow_le_pow_right (by omega) (by omega))
          have := Nat.testBit_lt_two_pow this
          unfold hasB at hj; rw [this] at hj; cases hj
        exact ih j hji (by omega)⟩
      rw [hr] at hm; cases hm

theorem edge_spec {i j : Nat} {o : Oper} (ho : ops[i]? = some o) : edge ops i j = hasB (predM o) j := by simp [edge, ho]

theorem uniM_spec {i j : Nat} : ∀ {k : Nat}, hasB (uniM ops bm i k) j = true → edge ops i j = true ∨ ∃ k, edge ops i k = true ∧ hasB (bm.getD k 0) j = true
  | 0, h => by
    simp only [uniM] at h
    split at h
    · rename_i o ho; exact .inl (by rw [edge_spec ho]; exact h)
    · simp [hasB] at h
  | k + 1, h => by
    simp only [uniM] at h
    cases he : edge ops i k with
    | false => rw [he] at h; exact uniM_spec (k := k) h
    | true =>
      rw [he] at h
      simp only [cond_true, hasB, Nat.testBit_or, Bool.or_eq_true] at h
      rcases h with h | h
      · exact uniM_spec (k := k) h
      · exact .inr ⟨k, he, h⟩

/-- what the table says stands before, does -/
theorem bm_clo (hac : acyOk ops = true) (hbm : bmOk ops bm = true) {D : Nat} (hc : Clo ops D) (hlt : ∀ i, hasB D i = true → i < ops.size) :
    ∀ i, i < ops.size → (∀ j, edge ops i j = true → hasB D j = true) → ∀ j, hasB (bm.getD i 0) j = true → hasB D j = true := by
  intro i
  induction i using Nat.strongRecOn with
  | _ i ih =>
    intro hi hp j hj
    have h1 := List.all_eq_true.1 hbm i (List.mem_range.2 hi)
    rcases uniM_spec (subB_spec h1 hj) with h2 | ⟨k, h2, h3⟩
    · exact hp j h2
    · have hk := hp k h2
      have ho : ops[i]? = some ops[i] := Array.getElem?_eq_getElem hi
      have hki : k < i := by
        have h4 := List.all_eq_true.1 hac i (List.mem_range.2 hi)
        rw [ho] at h4
        have hlt2 : predM ops[i] < 2 ^ i := Nat.le_of_ble_eq_true h4
        rw [edge_spec ho] at h2
        exact Classical.byContradiction fun hge => by
          have : predM ops[i] < 2 ^ k := Nat.lt_of_lt_of_le hlt2 (Nat.pow_le_pow_right (by omega) (by omega))
          have := Nat.testBit_lt_two_pow this
          unfold hasB at h2; rw [this] at h2; cases h2
      exact ih k hki (hlt k hk) (fun q hq => hc k q hk hq) j h3

/-- what is kept of an operation that has been made -/
def Rec (P : Program) (ops : Array Oper) (a0 : Act) (out : Nat → Value) (pend : List Pd) (j : Nat) (o : Oper) (aj : Act) (dj : Nat) : Prop :=
  St ops a0 out dj aj ∧ Clo ops dj ∧ rdyB dj j o = true ∧
    ((∀ w, YA P ops w o (out j) aj) ∨ ∃ pd ∈ pend, pd.i = j ∧ ∀ w, chkP P w pd → YA P ops w o (out j) aj)

structure CI (P : Program) (ops : Array Oper) (a0 : Act) (out : Nat → Value) (e : Env) (d : Nat) (pend : List Pd) (le : Env) (ac : Act) : Prop where
  st : St ops a0 out d ac
  clo : Clo ops d
  lt : ∀ k, hasB d k = true → k < ops.size
  sim : Sim (le ++ e) ac
  loc : Loc le e
  rec' : ∀ j o, hasB d j = true → ops[j]? = some o → rdB o.op = true → ∃ aj dj, (∀ k, hasB dj k = true → hasB d k = true) ∧ Rec P ops a0 out pend j o aj dj

/-- readers of which the frame does not yet know, good in this world -/
def Owed (P : Program) (ops : Array Oper) (a0 : Act) (out : Nat → Value) (pend : List Pd) (D d : Nat) (w : World) : Prop :=
  ∀ j o, hasB d j = true → hasB D j = false → ops[j]? = some o → rdB o.op = true ∧ ∃ aj dj, Rec P ops a0 out pend j o aj dj ∧ (∀ k, hasB dj k = true → hasB d k = true) ∧ YA P ops w o (out j) aj

theorem St.out {a0 a : Act} {out out' : Nat → Value} {D : Nat} (h : St ops a0 out D a) (ho : ∀ j, hasB D j = true → out' j = out j) : St ops a0 out' D a :=
  ⟨h.size, h.defers, fun t j hw hj => by rw [ho j hj]; exact h.yes t j hw hj, h.no⟩
theorem Rec.out {a0 aj : Act} {out out' : Nat → Value} {pend pend' : List Pd} {j dj : Nat} {o : Oper} (h : Rec P ops a0 out pend j o aj dj) (hd : ∀ k, hasB dj k = true → out' k = out k) (hj : out' j = out j)
    (hp : ∀ pd ∈ pend, pd ∈ pend') : Rec P ops a0 out' pend' j o aj dj := by
  obtain ⟨h1, h2, h3, h4⟩ := h
  refine ⟨h1.out hd, h2, h3, ?_⟩
  rw [hj]
  rcases h4 with h4 | ⟨pd, hm, hi, h4⟩
  · exact .inl h4
  · exact .inr ⟨pd, hp pd hm, hi, h4⟩

theorem firstR_spec {d : Nat} (l : List Oper) : ∀ {k i : Nat} {o : Oper}, firstR d l k = some (i, o) → ∃ m, i = k + m ∧ l[m]? = some o ∧ rdB o.op = true ∧ rdyB d i o = true := by
  induction l with
  | nil => intro k i o h; simp [firstR] at h
  | cons x r ih =>
    intro k i o h
    simp only [firstR] at h
    cases hb : rdB x.op && rdyB d k x with
    | true =>
      rw [hb] at h; simp only [cond_true, Option.some.injEq, Prod.mk.injEq] at h
      obtain ⟨rfl, rfl⟩ := h
      simp only [Bool.and_eq_true] at hb
      exact ⟨0, rfl, rfl, hb.1, hb.2⟩
    | false =>
      rw [hb] at h
      obtain ⟨m, h1, h2, h3⟩ := ih h
      exact ⟨m + 1, by omega, by simpa using h2, h3⟩
theorem firstR_none {d : Nat} (l : List Oper) : ∀ {k : Nat}, firstR d l k = none → ∀ m o, l[m]? = some o → rdB o.op = true → rdyB d (k + m) o = false := by
  induction l with
  | nil => intro k _ m o h _; simp at h
  | cons x r ih =>
    intro k h m o hm hr
    simp only [firstR] at h
    cases hb : rdB x.op && rdyB d k x with
    | true => rw [hb] at h; simp at h
    | false =>
      rw [hb] at h
      cases m with
      | zero =>
        simp at hm; subst hm
        rw [hr, Bool.true_and] at hb; exact hb
      | succ m => have := ih h m o (by simpa using hm) hr; rwa [show k + 1 + m = k + (m + 1) by omega] at this
theorem readyE_mem {d : Nat} (l : List Oper) : ∀ {k m : Nat} {o : Oper}, l[m]? = some o → rdB o.op = false → rdyB d (k + m) o = true → (k + m, o) ∈ readyE d l k := by
  induction l with
  | nil => intro k m o hm; simp at hm
  | cons x r ih =>
    intro k m o hm hr hd
    simp only [readyE]
    cases m with
    | zero =>
      simp at hm; subst hm
      simp only [Nat.add_zero] at hd
      simp [hr, hd]
    | succ m =>
      have ih' := ih (k := k + 1) (m := m) (by simpa using hm) hr (by rwa [show k + 1 + m = k + (m + 1) by omega])
      rw [show k + 1 + m = k + (m + 1) by omega] at ih'
      cases hb : !(rdB x.op) && rdyB d k x with
      | true => exact List.mem_cons_of_mem _ ih'
      | false => exact ih'
theorem readyE_spec {d : Nat} (l : List Oper) : ∀ {k : Nat} {x : Nat × Oper}, x ∈ readyE d l k → ∃ m, x.1 = k + m ∧ l[m]? = some x.2 ∧ rdyB d x.1 x.2 = true := by
  induction l with
  | nil => intro k x h; simp [readyE] at h
  | cons y r ih =>
    intro k x h
    simp only [readyE] at h
    cases hb : !(rdB y.op) && rdyB d k y with
    | true =>
      rw [hb] at h; simp only [cond_true, List.mem_cons] at h
      rcases h with rfl | h
      · simp only [Bool.and_eq_true] at hb; exact ⟨0, rfl, rfl, hb.2⟩
      · obtain ⟨m, h1, h2, h3⟩ := ih h; exact ⟨m + 1, by omega, by simpa using h2, h3⟩
    | false =>
      rw [hb] at h
      obtain ⟨m, h1, h2, h3⟩ := ih h; exact ⟨m + 1, by omega, by simpa using h2, h3⟩
theorem allE_mem {α : Type} {f : α → Prop} : ∀ {l : List α} {x : α}, allE l f → x ∈ l → f x
  | [y], x, h, hx => by simp at hx; subst hx; exact h
  | y :: z :: r, x, h, hx => by
    rcases List.mem_cons.1 hx with rfl | hx
    · exact h.1
    · exact allE_mem (l := z :: r) h.2 hx
theorem chks_spec {w : World} {m : Nat} {Q : Prop} (l : List Pd) : chks P w m l Q → Q ∧ ∀ pd ∈ l, hasB m pd.i = false → chkP P w pd := by
  induction l with
  | nil => intro h; exact ⟨h, fun pd hp => by cases hp⟩
  | cons d r ih =>
    intro h
    simp only [chks] at h
    cases hb : hasB m d.i with
    | true =>
      rw [hb] at h
      obtain ⟨h1, h2⟩ := ih h
      refine ⟨h1, fun pd hp hn => ?_⟩
      rcases List.mem_cons.1 hp with rfl | hp
      · rw [hb] at hn; cases hn
      · exact h2 pd hp hn
    | false =>
      rw [hb] at h
      obtain ⟨h0, h1⟩ := h
      obtain ⟨h1, h2⟩ := ih h1
      refine ⟨h1, fun pd hp hn => ?_⟩
      rcases List.mem_cons.1 hp with rfl | hp
      · exact h0
      · exact h2 pd hp hn

/-- the evaluator makes all that changes nothing and can be made -/
theorem advance (hu : DepOk ops) {a0 : Act} (hn0 : a0.tmps.size = n) {e : Env} {w : World} {K : Env → World → Prop} : ∀ (f d : Nat) (pend : List Pd) (le : Env) (ac : Act) (out : Nat → Value),
    CI P ops a0 out e d pend le ac → evT P n ops bm f d pend le e w K → ∃ f' d' pend' le' ac' out', CI P ops a0 out' e d' pend' le' ac' ∧ firstR d' ops.toList 0 = none ∧
      evT P n ops bm (f' + 1) d' pend' le' e w K ∧ (∀ k, hasB d k = true → hasB d' k = true ∧ out' k = out k) ∧ (∀ pd ∈ pend, pd ∈ pend') ∧
      (∀ j o, hasB d' j = true → hasB d j = false → ops[j]? = some o → rdB o.op = true ∧ ∃ aj dj, Rec P ops a0 out' pend' j o aj dj ∧ (∀ k, hasB dj k = true → hasB d' k = true) ∧ YA P ops w o (out' j) aj) := by
  intro f
  induction f with
  | zero => intro d pend le ac out _ h; exact h.elim
  | succ f ih =>
    intro d pend le ac out hci h
    cases hfr : firstR d ops.toList 0 with
    | none => exact ⟨f, d, pend, le, ac, out, hci, hfr, h, fun k hk => ⟨hk, rfl⟩, fun pd hp => hp, fun j o h1 h2 => by rw [h1] at h2; cases h2⟩
    | some io =>
      obtain ⟨i, o⟩ := io
      obtain ⟨m, him, hom, hrd, hrdy⟩ := firstR_spec _ hfr
      have ho : ops[i]? = some o := by rw [him, Nat.zero_add]; simpa using hom
      have hid : hasB d i = false := by simp only [rdyB, Bool.and_eq_true, Bool.not_eq_true'] at hrdy; exact hrdy.1
      have h' := h
      simp only [evT, hfr] at h'
      obtain ⟨hdn, v, le', pend', hout⟩ := rdStep_spec hci.loc hci.sim (by rw [hci.st.size, hn0]) h'
      let out1 : Nat → Value := fun k => if k = i then v else out k
      have ho1 : ∀ k, hasB d k = true → out1 k = out k := fun k hk => by
        have : k ≠ i := fun e => by subst e; rw [hid] at hk; cases hk
        simp [out1, this]
      have hoi : out1 i = v := by simp [out1]
      have hpp : ∀ pd ∈ pend, pd ∈ pend' := fun pd hp => by
        rcases hout.again with ⟨h1, _⟩ | ⟨q, h1, _⟩
        · rw [h1]; exact hp
        · rw [h1]; exact List.mem_cons_of_mem _ hp
      have hst1 : St ops a0 out1 (addB d i) (ac.put o.dst v) := by
        have := (hci.st.out ho1).put hu ho (fun t ht => by rw [hn0]; exact hdn t ht)
        rwa [hoi] at this
      have hreci : Rec P ops a0 out1 pend' i o ac d := by
        refine ⟨hci.st.out ho1, hci.clo, hrdy, ?_⟩
        rw [hoi]
        rcases hout.again with ⟨_, h2⟩ | ⟨q, h1, h2, h3⟩
        · exact .inl h2
        · exact .inr ⟨q, by rw [h1]; exact List.mem_cons_self, h2, h3⟩
      have hadd : ∀ k, hasB d k = true → hasB (addB d i) k = true := fun k hk => by rw [hasB_add, hk]; rfl
      have hci1 : CI P ops a0 out1 e (addB d i) pend' le' (ac.put o.dst v) := by
        refine ⟨hst1, hci.clo.add ho hrdy, fun k hk => (by
          rw [hasB_add] at hk
          simp only [Bool.or_eq_true, decide_eq_true_eq] at hk
          rcases hk with hk | rfl
          · exact hci.lt k hk
          · exact (Array.getElem?_eq_some_iff.1 ho).1), hout.sim, hout.loc, fun j oj hj hoj hrj => ?_⟩
        rw [hasB_add] at hj
        simp only [Bool.or_eq_true, decide_eq_true_eq] at hj
        by_cases hij : i = j
        · subst hij
          obtain rfl : o = oj := Option.some.inj (ho.symm.trans hoj)
          exact ⟨ac, d, hadd, hreci⟩
        · have hjd := hj.resolve_right hij
          obtain ⟨aj, dj, g1, g2⟩ := hci.rec' j oj hjd hoj hrj
          exact ⟨aj, dj, fun k hk => hadd k (g1 k hk), g2.out (fun k hk => ho1 k (g1 k hk)) (ho1 j hjd) hpp⟩
      obtain ⟨f', d', pend2, le2, ac2, out2, c1, c2, c3, c4, c5, c6⟩ := ih _ _ _ _ _ hci1 hout.k
      refine ⟨f', d', pend2, le2, ac2, out2, c1, c2, c3, fun k hk => ?_, fun pd hp => c5 pd (hpp pd hp), fun j oj hj hjn hoj => ?_⟩
      · have := c4 k (hadd k hk); exact ⟨this.1, this.2.trans (ho1 k hk)⟩
      · by_cases hij : i = j
        · subst hij
          obtain rfl : o = oj := Option.some.inj (ho.symm.trans hoj)
          have hii := c4 i (by rw [hasB_add]; simp)
          refine ⟨hrd, ac, d, hreci.out (fun k hk => (c4 k (hadd k hk)).2) hii.2 c5, fun k hk => (c4 k (hadd k hk)).1, ?_⟩
          rw [hii.2, hoi]; exact hout.now
        · exact c6 j oj hj (by rw [hasB_add, hjn]; simp [hij]) hoj

theorem noSel_spec (h : noSel ops = true) {i : Nat} {o : Oper} (ho : ops[i]? = some o) : ∀ cs b, o.op ≠ .select cs b := by
  intro cs b he
  have hm : o ∈ ops.toList := by
    have := Array.mem_of_getElem? ho
    exact Array.mem_toList_iff.2 this
  have := List.all_eq_true.1 h o hm
  rw [he] at this; cases this

/-- the same operation, the same outcome -/
theorem same_run {a0 a a' : Act} {out : Nat → Value} {d d' i : Nat} {o : Oper} (hu : DepOk ops) (hns : noSel ops = true) (hc : Clo ops d) (hc' : Clo ops d') (h : St ops a0 out d a) (h' : St ops a0 out d' a')
    (ho : ops[i]? = some o) (hr : rdyB d i o = true) (hr' : rdyB d' i o = true) : execOp a.eval o = execOp a'.eval o ∧ Region.wanted o (yielded ops a.tmps) = Region.wanted o (yielded ops a'.tmps) := by
  have hl : ∀ t ∈ o.looksAt ops, a.tmps[t]? = a'.tmps[t]? := fun t ht => St.look hu hc hc' h h' ho hr hr' ht
  constructor
  · refine execOp_congr o (noSel_spec hns ho) fun x hx => ?_
    cases x with
    | tmp t =>
      have hm : t ∈ o.looksAt ops := List.mem_append_left _ (List.mem_filterMap.2 ⟨.tmp t, by simpa using hx, rfl⟩)
      simp only [Act.eval, Array.getD_eq_getD_getElem?, hl t hm]
    | _ => rfl
  · unfold Region.wanted
    cases hg : o.guard with
    | none => rfl
    | some gw =>
      obtain ⟨g, want⟩ := gw
      have : yielded ops a.tmps g = yielded ops a'.tmps g := by
        unfold yielded
        cases hb : (ops[g]?).bind (·.dst) with
        | none => rfl
        | some t =>
          have hm : t ∈ o.looksAt ops := List.mem_append_right _ (by simp [hg, hb])
          simp only [Option.bind_some, hl t hm]
      simp only [this]

theorem YA.same {w : World} {o : Oper} {v : Value} {a a' : Act} (h : YA P ops w o v a) (he : execOp a'.eval o = execOp a.eval o) (hw : Region.wanted o (yielded ops a'.tmps) = Region.wanted o (yielded ops a.tmps)) :
    YA P ops w o v a' := by
  unfold YA at *; rw [he, hw]; exact h

theorem draw_main (hdr : drOk P ops bm = true) {a0 : Act} (hn0 : a0.tmps.size = n) {e : Env} {K : Env → World → Prop} {Q : Exit → Act → World → Prop}
    (hQ : ∀ a' w' e', Sim e' a' → (∀ x ∈ e', x.path = []) → a'.tmps.size = n → a'.defers = a0.defers → (∀ t, (∀ j, ¬ Wr ops t j) → a'.tmps[t]? = a0.tmps[t]?) → K e' w' → Q .normal a' w') :
    ∀ (fuel : Nat) (listed : Array Bool) (a : Act) (w : World) (D : Nat) (f d : Nat) (pend : List Pd) (le : Env) (ac : Act) (out : Nat → Value),
      Rel ops listed D → leftN ops D = fuel → St ops a0 out D a → Clo ops D → (∀ k, hasB D k = true → hasB d k = true) → (∀ k, hasB d k = true → k < ops.size) →
      CI P ops a0 out e d pend le ac → firstR d ops.toList 0 = none → Owed P ops a0 out pend D d w → evT P n ops bm (f + 1) d pend le e w K →
      wpAny P .any ops Q fuel listed a w := by
  simp only [drOk, Bool.and_eq_true] at hdr
  obtain ⟨⟨⟨⟨hdep, hac⟩, hbm⟩, hns⟩, hfol⟩ := hdr
  have hu := depOk_spec hdep
  have fin : ∀ (listed : Array Bool) (a : Act) (w : World) (D : Nat) (f d : Nat) (pend : List Pd) (le : Env) (ac : Act) (out : Nat → Value),
      Rel ops listed D → St ops a0 out D a → (∀ k, hasB D k = true → hasB d k = true) → (∀ k, hasB d k = true → k < ops.size) →
      CI P ops a0 out e d pend le ac → firstR d ops.toList 0 = none → evT P n ops bm (f + 1) d pend le e w K → (∀ i, i < ops.size → hasB D i = true) → Q .normal a w := by
    intro listed a w D f d pend le ac out hrel hst hDd hdlt hci hfr h hall
    simp only [evT, hfr] at h
    cases hre : readyE d ops.toList 0 with
    | cons x r =>
      exfalso
      have hm : x ∈ readyE d ops.toList 0 := by rw [hre]; exact List.mem_cons_self
      obtain ⟨m, h1, h2, h3⟩ := readyE_spec _ hm
      have hlt : x.1 < ops.size := by
        have := (List.getElem?_eq_some_iff.1 h2).1; simp at this; omega
      simp only [rdyB, Bool.and_eq_true, Bool.not_eq_true'] at h3
      rw [hDd _ (hall _ hlt)] at h3; cases h3.1
    | nil =>
      rw [hre] at h
      simp only [] at h
      split at h
      · split at h
        · rename_i hw
          have hteq : a.tmps = ac.tmps := by
            apply Array.ext_getElem?
            intro t
            by_cases hw : ∃ j, Wr ops t j
            · obtain ⟨j, hw⟩ := hw
              rw [hst.yes t j hw (hall j (wr_lt hw)), hci.st.yes t j hw (hDd j (hall j (wr_lt hw)))]
            · rw [hst.no t (fun j hj => absurd ⟨j, hj⟩ hw), hci.st.no t (fun j hj => absurd ⟨j, hj⟩ hw)]
          have haeq : a = ac := by
            cases a; cases ac
            simp only [Act.mk.injEq]
            exact ⟨hteq, hst.defers.trans hci.st.defers.symm⟩
          rw [haeq]
          refine hQ ac w _ (fun t en hlk => hci.sim t en (look_of_strong hci.loc.di hw hlk)) (fun x hx => ?_) (by rw [hci.st.size, hn0]) hci.st.defers (fun t ht => hci.st.no t fun j hj => absurd hj (ht j)) h
          rcases List.mem_append.1 hx with hx | hx
          · have := (List.mem_filter.1 hx).2; simpa using this
          · exact hci.loc.st x hx
        · exact h.elim
      · exact h.elim
  intro fuel
  induction fuel with
  | zero =>
    intro listed a w D f d pend le ac out hrel hleft hst hclo hDd hdlt hci hfr how h
    have hall := leftN_zero hleft
    have hready : Region.ready .any ops listed = [] := by
      cases hr : Region.ready .any ops listed with
      | nil => rfl
      | cons x r =>
        exfalso
        obtain ⟨o, ho, hrd⟩ := hrel.ready.1 (by rw [hr]; exact List.mem_cons_self)
        simp only [rdyB, Bool.and_eq_true, Bool.not_eq_true'] at hrd
        rw [hall x (Array.getElem?_eq_some_iff.1 ho).1] at hrd; cases hrd.1
    exact ⟨hready, fin listed a w D f d pend le ac out hrel hst hDd hdlt hci hfr h hall⟩
  | succ fuel ih =>
    intro listed a w D f d pend le ac out hrel hleft hst hclo hDd hdlt hci hfr how h
    refine ⟨fun hready => fin listed a w D f d pend le ac out hrel hst hDd hdlt hci hfr h (acy_ready hac hrel hready), fun i hi => ?_⟩
    obtain ⟨o, ho, hrdD⟩ := hrel.ready.1 hi
    have hilt : i < ops.size := (Array.getElem?_eq_some_iff.1 ho).1
    have hiD : hasB D i = false := by simp only [rdyB, Bool.and_eq_true, Bool.not_eq_true'] at hrdD; exact hrdD.1
    have hleft' : leftN ops (addB D i) = fuel := by have := leftN_add hilt hiD; omega
    unfold wpOp
    simp only [ho]
    cases hid : hasB d i with
    | true =>
      obtain ⟨hrd, ai, di, hrec, hdi, hya⟩ := how i o hid hiD ho
      obtain ⟨he, hw⟩ := same_run hu hns hclo hrec.2.1 hst hrec.1 ho hrdD hrec.2.2.1
      have hya' := hya.same he hw
      have hdst : ∀ t, o.dst = some t → t < a0.tmps.size := fun t ht => by
        have hwr : Wr ops t i := by unfold Wr; rw [ho]; exact ht
        have := hci.st.yes t i hwr hid
        rw [← hci.st.size]
        exact (Array.getElem?_eq_some_iff.1 this).1
      have next : wpAny P .any ops Q fuel (listed.setIfInBounds i true) (a.put o.dst (out i)) w := by
        refine ih _ _ w (addB D i) f d pend le ac out (hrel.set hilt) hleft' (hst.put hu ho hdst) (hclo.add ho hrdD) (fun k hk => ?_) hdlt hci hfr (fun j oj hj hjn hoj => ?_) h
        · rw [hasB_add] at hk
          simp only [Bool.or_eq_true, decide_eq_true_eq] at hk
          rcases hk with hk | rfl
          · exact hDd k hk
          · exact hid
        · rw [hasB_add] at hjn
          simp only [Bool.or_eq_false_iff] at hjn
          exact how j oj hj hjn.1 hoj
      by_cases hwt : Region.wanted o (yielded ops a.tmps) = true
      · rw [if_pos hwt]
        refine .inl ?_
        unfold Oper.wp
        rw [hya'.1 hwt]
        exact next
      · rw [if_neg hwt]
        rw [hya'.2 (by simpa using hwt)] at next
        exact next
    | false =>
      have hrdd : rdyB d i o = true := by
        simp only [rdyB, Bool.and_eq_true, Bool.not_eq_true'] at hrdD ⊢
        exact ⟨hid, subB_mk fun j hj => hDd j (subB_spec hrdD.2 hj)⟩
      have hol : ops.toList[i]? = some o := by simpa using ho
      have hnr : rdB o.op = false := by
        cases hb : rdB o.op with
        | false => rfl
        | true =>
          have := firstR_none _ hfr i o hol hb
          rw [Nat.zero_add, hrdd] at this; cases this
      have hmem := readyE_mem (k := 0) _ hol hnr (by rw [Nat.zero_add]; exact hrdd)
      rw [Nat.zero_add] at hmem
      have h' := h
      simp only [evT, hfr] at h'
      have hef : efStep P n ops o le e w fun le' w' => chks P w' (bm.getD i 0) pend (evT P n ops bm f (addB d i) pend le' e w' K) := by
        cases hre : readyE d ops.toList 0 with
        | nil => rw [hre] at hmem; cases hmem
        | cons x r =>
          rw [hre] at h'
          simp only [] at h'
          have := allE_mem h' (by rw [← hre]; exact hmem)
          exact this
      obtain ⟨hdn, hY, hN⟩ := efStep_spec hci.loc hci.sim (by rw [hci.st.size, hn0]) hef
      obtain ⟨he, hw⟩ := same_run hu hns hclo hci.clo hst hci.st ho hrdD hrdd
      have hdst : ∀ t, o.dst = some t → t < a0.tmps.size := fun t ht => by rw [hn0]; exact hdn t ht
      have hiall : ∀ j, edge ops i j = true → hasB D j = true := fun j hj => by
        rw [edge_spec ho] at hj
        simp only [rdyB, Bool.and_eq_true] at hrdD
        exact subB_spec hrdD.2 hj
      have next : ∀ (v : Value) (w' : World), (∃ le', Sim (le' ++ e) (ac.put o.dst v) ∧ Loc le' e ∧ chks P w' (bm.getD i 0) pend (evT P n ops bm f (addB d i) pend le' e w' K)) →
          wpAny P .any ops Q fuel (listed.setIfInBounds i true) (a.put o.dst v) w' := by
        rintro v w' ⟨le', hs', hl', hck⟩
        obtain ⟨hev, hchk⟩ := chks_spec _ hck
        let out1 : Nat → Value := fun k => if k = i then v else out k
        have ho1 : ∀ k, hasB d k = true → out1 k = out k := fun k hk => by
          have : k ≠ i := fun e => by subst e; rw [hid] at hk; cases hk
          simp [out1, this]
        have ho1D : ∀ k, hasB D k = true → out1 k = out k := fun k hk => ho1 k (hDd k hk)
        have hoi : out1 i = v := by simp [out1]
        have hadd : ∀ k, hasB d k = true → hasB (addB d i) k = true := fun k hk => by rw [hasB_add, hk]; rfl
        have hst1 : St ops a0 out1 (addB D i) (a.put o.dst v) := by
          have := (hst.out ho1D).put hu ho hdst
          rwa [hoi] at this
        have hci1 : CI P ops a0 out1 e (addB d i) pend le' (ac.put o.dst v) := by
          refine ⟨(by have := (hci.st.out ho1).put hu ho hdst; rwa [hoi] at this), hci.clo.add ho hrdd, fun k hk => (by
            rw [hasB_add] at hk
            simp only [Bool.or_eq_true, decide_eq_true_eq] at hk
            rcases hk with hk | rfl
            · exact hci.lt k hk
            · exact hilt), hs', hl', fun j oj hj hoj hrj => ?_⟩
          rw [hasB_add] at hj
          simp only [Bool.or_eq_true, decide_eq_true_eq] at hj
          have hij : i ≠ j := fun e => by
            subst e
            obtain rfl : o = oj := Option.some.inj (ho.symm.trans hoj)
            rw [hnr] at hrj; cases hrj
          have hjd := hj.resolve_right hij
          obtain ⟨aj, dj, g1, g2⟩ := hci.rec' j oj hjd hoj hrj
          exact ⟨aj, dj, fun k hk => hadd k (g1 k hk), g2.out (fun k hk => ho1 k (g1 k hk)) (ho1 j hjd) fun pd hp => hp⟩
        have how1 : ∀ j oj, hasB d j = true → hasB D j = false → ops[j]? = some oj → rdB oj.op = true ∧ ∃ aj dj, Rec P ops a0 out1 pend j oj aj dj ∧ (∀ k, hasB dj k = true → hasB d k = true) ∧ YA P ops w' oj (out1 j) aj := by
          intro j oj hj hjn hoj
          obtain ⟨hrd, aj, dj, hrec, hdj, hya⟩ := how j oj hj hjn hoj
          refine ⟨hrd, aj, dj, hrec.out (fun k hk => ho1 k (hdj k hk)) (ho1 j hj) (fun pd hp => hp), hdj, ?_⟩
          rw [ho1 j hj]
          rcases hrec.2.2.2 with h4 | ⟨pd, hm, hpi, h4⟩
          · exact h4 w'
          · refine h4 w' (hchk pd hm ?_)
            cases hb : hasB (bm.getD i 0) pd.i with
            | false => rfl
            | true =>
              rw [hpi] at hb
              have := bm_clo hac hbm hclo hrel.lt i hilt hiall j hb
              rw [hjn] at this; cases this
        obtain ⟨f', d', pend', le2, ac2, out2, c1, c2, c3, c4, c5, c6⟩ := advance hu hn0 _ _ _ _ _ _ hci1 hev
        refine ih _ _ w' (addB D i) f' d' pend' le2 ac2 out2 (hrel.set hilt) hleft' (hst1.out fun k hk => ?_) (hclo.add ho hrdD) (fun k hk => ?_) c1.lt c1 c2 (fun j oj hj hjn hoj => ?_) c3
        · rw [hasB_add] at hk
          simp only [Bool.or_eq_true, decide_eq_true_eq] at hk
          rcases hk with hk | rfl
          · exact (c4 k (hadd k (hDd k hk))).2
          · exact (c4 i (by rw [hasB_add]; simp)).2
        · rw [hasB_add] at hk
          simp only [Bool.or_eq_true, decide_eq_true_eq] at hk
          rcases hk with hk | rfl
          · exact (c4 k (hadd k (hDd k hk))).1
          · exact (c4 i (by rw [hasB_add]; simp)).1
        · rw [hasB_add] at hjn
          simp only [Bool.or_eq_false_iff, decide_eq_false_iff_not] at hjn
          cases hjd : hasB d j with
          | true =>
            obtain ⟨hrd, aj, dj, hrec, hdj, hya⟩ := how1 j oj hjd hjn.1 hoj
            have hj2 := c4 j (hadd j hjd)
            refine ⟨hrd, aj, dj, hrec.out (fun k hk => (c4 k (hadd k (hdj k hk))).2) hj2.2 c5, fun k hk => (c4 k (hadd k (hdj k hk))).1, ?_⟩
            rw [hj2.2]; exact hya
          | false =>
            exact c6 j oj hj (by rw [hasB_add, hjd]; simp [hjn.2]) hoj
      by_cases hwt : Region.wanted o (yielded ops a.tmps) = true
      · rw [if_pos hwt]
        refine .inl ?_
        refine upn_wp (K := fun v w' => ∃ le', Sim (le' ++ e) (ac.put o.dst v) ∧ Loc le' e ∧ chks P w' (bm.getD i 0) pend (evT P n ops bm f (addB d i) pend le' e w' K)) ?_ fun v w' hK => next v w' hK
        rw [he]
        exact hY (by rw [← hw]; exact hwt)
      · rw [if_neg hwt]
        exact next undef w (hN (by rw [← hw]; simpa using hwt))

theorem evDraw_spec (hdr : drOk P ops bm = true) {id f : Nat} {a : Act} {w : World} {e : Env} {K : Env → World → Prop} {Q : Exit → Act → World → Prop} (hs : Sim e a) (hst : ∀ x ∈ e, x.path = []) (hn : a.tmps.size = n)
    (h : evT P n ops bm f 0 [] [] e w.drew K)
    (hQ : ∀ a' w' e', Sim e' a' → (∀ x ∈ e', x.path = []) → a'.tmps.size = n → a'.defers = a.defers → (∀ t, (∀ j, ¬ Wr ops t j) → a'.tmps[t]? = a.tmps[t]?) → K e' w' → Q .normal a' w') :
    (Code.region id ops true).wp P Q a w := by
  have hdr' := hdr
  simp only [drOk, Bool.and_eq_true] at hdr'
  have hu := depOk_spec hdr'.1.1.1.1
  have h0 : ∀ k, hasB 0 k = false := fun k => by simp [hasB]
  have habs : ∀ k, hasB 0 k = true → False := fun k hk => by rw [h0] at hk; cases hk
  have hst0 : St ops a (fun _ => undef) 0 a := ⟨rfl, rfl, fun t j _ hj => (habs j hj).elim, fun _ _ => rfl⟩
  have hclo0 : Clo ops 0 := fun i j hi _ => (habs i hi).elim
  have hci : CI P ops a (fun _ => undef) e 0 [] [] a :=
    ⟨hst0, hclo0, fun k hk => (habs k hk).elim, (by simpa using hs), ⟨fun x hx => (by cases hx), hst, fun x hx => (by cases hx)⟩, fun j o hj => (habs j hj).elim⟩
  obtain ⟨f', d', pend', le', ac', out', c1, c2, c3, c4, c5, c6⟩ := advance hu hn _ _ _ _ _ _ hci h
  refine wp_region_any hdr'.2 (draw_main hdr hn hQ ops.size _ a w.drew 0 f' d' pend' le' ac' out' ⟨(by simp), fun i hi => ?_, fun i hi => (habs i hi).elim⟩ ?_ (hst0.out fun k hk => (habs k hk).elim) hclo0 (fun k hk => (habs k hk).elim) c1.lt c1 c2 (fun j o hj hjn ho => c6 j o hj (h0 j) ho) c3)
  · simp [hi, h0]
  · unfold leftN
    rw [List.filter_eq_self.2 (fun i _ => by rw [h0]; rfl)]
    simp
end
end Go.Proofs.Ytjpblaenebodlaa.Vc
