/- Watch in memory: what stands where; values; a literal put. -/
import Derived.Test.YtjpblaenebodlaaLits2
set_option linter.unusedVariables false
set_option linter.unusedSimpArgs false
set_option linter.unusedSectionVars false
set_option maxRecDepth 100000
namespace Go.Proofs.Ytjpblaenebodlaa.Wt
open Go Go.Proofs.Ytjpblaenebodlaa.Vc Go.Proofs.Ytjpblaenebodlaa.T
open Go.Proofs.Ytjpblaenebodlaa.Apart (RdL own_rdl wrap_nat getE own_len copy same take_snoc Sl sv New)
open Go.Proofs.Ytjpblaenebodlaa.Lits (fl fl_iff idx idx_inj idx_range Ans ans_of)

abbrev I (n : Int) : Value := .int .i64 n
abbrev J8 (n : Int) : Value := .int .i8 n
abbrev Pt (b : Nat) : Value := .pointer (some ⟨b, 0, none⟩)
/-- how a literal stands -/
def lv (tr : List Int) (l : Int) : Int := if l ∈ tr then 1 else if -l ∈ tr then -1 else 0
def Cons (tr : List Int) : Prop := ∀ l ∈ tr, -l ∉ tr
theorem lv_neg {tr : List Int} (h : Cons tr) (l : Int) : lv tr (-l) = -lv tr l := by
  unfold lv
  rw [Int.neg_neg]
  by_cases h1 : l ∈ tr
  · rw [if_neg (h l h1), if_pos h1, if_pos h1]
  · by_cases h2 : -l ∈ tr
    · rw [if_pos h2, if_neg h1, if_pos h2]; rfl
    · rw [if_neg h2, if_neg h1, if_neg h1, if_neg h2]; rfl
theorem lv_one {tr : List Int} {l : Int} : lv tr l = 1 ↔ l ∈ tr := by
  unfold lv
  by_cases h1 : l ∈ tr
  · simp [h1]
  · by_cases h2 : -l ∈ tr <;> simp [h1, h2]
theorem lv_no {tr : List Int} (h : Cons tr) {l : Int} : lv tr l = -1 ↔ -l ∈ tr := by
  have := lv_neg h l
  rw [← lv_one (tr := tr) (l := -l)]
  omega
theorem lv_nil {tr : List Int} {l : Int} : lv tr l = 0 ↔ l ∉ tr ∧ -l ∉ tr := by
  unfold lv
  by_cases h1 : l ∈ tr
  · simp [h1]
  · by_cases h2 : -l ∈ tr <;> simp [h1, h2]
theorem lv_cases (tr : List Int) (l : Int) : lv tr l = 1 ∨ lv tr l = -1 ∨ lv tr l = 0 := by
  unfold lv
  by_cases h1 : l ∈ tr
  · simp [h1]
  · by_cases h2 : -l ∈ tr <;> simp [h1, h2]
/-- a literal of these variables -/
def Wi (nv : Nat) (l : Int) : Prop := l ≠ 0 ∧ -(nv : Int) ≤ l ∧ l ≤ nv
def vals (nv : Nat) (tr : List Int) : List Value := (List.range (nv + 1)).map fun v => J8 (lv tr (v : Nat))
theorem vals_len (nv : Nat) (tr : List Int) : (vals nv tr).length = nv + 1 := by simp [vals]
theorem vals_at {nv v : Nat} {tr : List Int} (h : v ≤ nv) : (vals nv tr)[v]? = some (J8 (lv tr v)) := by simp [vals, show v < nv + 1 by omega]

/-- a Watch -/
structure WS where
  nv : Nat
  tr : List Int
  st : List Nat
  hd : Nat
  H : Nat → Option (List Int × Int × Int)
  ls : List (List Nat)
  lo : List Nat
  rest : Bool
  clash : Bool
structure Hs where
  vv : Sl
  tt : Sl
  ss : Sl
  oo : Sl
  ll : Sl
  hh : List Sl
/-- it stands in memory so; o tells whose a block is; of the lists that ex names nothing is told -/
structure Rp (ex : Nat → Prop) (w : World) (b : Nat) (o : Nat → Int) (h : Hs) (S : WS) : Prop where
  self : Blk w b [sv h.vv, sv h.tt, sv h.ss, I S.hd, sv h.oo, sv h.ll, .bool S.rest, .bool S.clash] 64
  selfO : o b = -6
  va : Own w 67 1 h.vv.1 h.vv.2.1 h.vv.2.2 (vals S.nv S.tr)
  vaO : ∀ i, ob h.vv.1 i → o i = -1
  tr : Own w 3 1 h.tt.1 h.tt.2.1 h.tt.2.2 (S.tr.map I)
  trO : ∀ i, ob h.tt.1 i → o i = -2
  st : Own w 3 1 h.ss.1 h.ss.2.1 h.ss.2.2 (S.st.map fun n : Nat => I n)
  stO : ∀ i, ob h.ss.1 i → o i = -3
  out : Own w 62 1 h.oo.1 h.oo.2.1 h.oo.2.2 (h.hh.map sv)
  outO : ∀ i, ob h.oo.1 i → o i = -4
  hl : h.hh.length = 2 * S.nv
  ll : S.ls.length = 2 * S.nv
  inn : ∀ (i : Nat) (x : Sl) (ids : List Nat), h.hh[i]? = some x → S.ls[i]? = some ids → ¬ ex i → Own w 74 1 x.1 x.2.1 x.2.2 (ids.map Pt)
  innO : ∀ (i : Nat) (x : Sl), h.hh[i]? = some x → ∀ j, ob x.1 j → o j = i ∧ j < w.heap.size
  lo : Own w 74 1 h.ll.1 h.ll.2.1 h.ll.2.2 (S.lo.map Pt)
  loO : ∀ i, ob h.ll.1 i → o i = -5
  hel : ∀ (i : Nat) (L : List Int) (u v : Int), S.H i = some (L, u, v) → o i = -7 ∧ ∃ lp ln lc, Blk w i [.slice lp ln lc, I u, I v] 77 ∧ RdL w lp ln L ∧ ∀ j, ob lp j → o j = -8 ∧ j < w.heap.size
/-- whose a block is, of the old ones, stays -/
def Ag (w : World) (o o' : Nat → Int) : Prop := ∀ i, i < w.heap.size → o' i = o i
section
variable {ex : Nat → Prop} {w w' w1 w2 : World} {b : Nat} {o o' o1 o2 : Nat → Int} {h h' : Hs} {S S' : WS} {T : Int → Prop}
theorem Ag.refl (w : World) (o : Nat → Int) : Ag w o o := fun _ _ => rfl
theorem Ag.trans (h : Ag w o o1) (h' : Ag w1 o1 o2) (hs : w.heap.size ≤ w1.heap.size) : Ag w o o2 := fun i hi => by rw [h' i (by omega), h i hi]
theorem keep_ag (h : Keep (fun i => T (o i)) w w1) (ha : Ag w o o1) (h' : Keep (fun i => T (o1 i)) w1 w2) : Keep (fun i => T (o i)) w w2 :=
  h.trans h' fun i hi ht => by rw [ha i hi] at ht; exact ht
theorem Rp.keep0 (h : Rp ex w b o h' S) (hk : Keep None w w') : Rp ex w' b o h' S :=
  ⟨h.self.keep0 hk, h.selfO, h.va.keep0 hk, h.vaO, h.tr.keep0 hk, h.trO, h.st.keep0 hk, h.stO, h.out.keep0 hk, h.outO, h.hl, h.ll, fun i x ids hx hi hn => (h.inn i x ids hx hi hn).keep0 hk,
   fun i x hx j hj => ⟨(h.innO i x hx j hj).1, Nat.lt_of_lt_of_le (h.innO i x hx j hj).2 hk.size⟩, h.lo.keep0 hk, h.loO, fun i L u v hH => by
    obtain ⟨e, lp, ln, lc, hB, hR, hO⟩ := h.hel i L u v hH
    exact ⟨e, lp, ln, lc, hB.keep0 hk, hR.keep0 hk, fun j hj => ⟨(hO j hj).1, Nat.lt_of_lt_of_le (hO j hj).2 hk.size⟩⟩⟩
/-- what changes nothing of it -/
theorem Rp.keepN {U : Nat → Prop} (h : Rp ex w b o h' S) (hk : Keep U w w') (hU : ∀ i, i < w.heap.size → U i → o i = -9) : Rp ex w' b o h' S := by
  have no : ∀ {i : Nat} {t : Int}, i < w.heap.size → o i = t → t ≠ -9 → ¬ U i := fun hi ho ht hu => by have := hU _ hi hu; omega
  have nO : ∀ {e : TypeId} {sz : Nat} {p : Option Addr} {n c : Nat} {xs : List Value} {t : Int}, Own w e sz p n c xs → (∀ i, ob p i → o i = t) → t ≠ -9 → ∀ i, ob p i → ¬ U i := fun hO ht hne i hi => no (hO.lt i hi) (ht i hi) hne
  refine ⟨h.self.keep hk (no h.self.lt h.selfO (by decide)), h.selfO, h.va.keep hk (nO h.va h.vaO (by decide)), h.vaO, h.tr.keep hk (nO h.tr h.trO (by decide)), h.trO, h.st.keep hk (nO h.st h.stO (by decide)), h.stO, h.out.keep hk (nO h.out h.outO (by decide)), h.outO, h.hl, h.ll,
    fun i x ids hx hi hn => (h.inn i x ids hx hi hn).keep hk fun j hj => no (h.innO i x hx j hj).2 (h.innO i x hx j hj).1 (by omega),
    fun i x hx j hj => ⟨(h.innO i x hx j hj).1, Nat.lt_of_lt_of_le (h.innO i x hx j hj).2 hk.size⟩, h.lo.keep hk (nO h.lo h.loO (by decide)), h.loO, fun i L u v hH => ?_⟩
  obtain ⟨e, lp, ln, lc, hB, hR, hO⟩ := h.hel i L u v hH
  exact ⟨e, lp, ln, lc, hB.keep hk (no hB.lt e (by decide)), hR.keep hk fun j hj => no (hO j hj).2 (hO j hj).1 (by decide), fun j hj => ⟨(hO j hj).1, Nat.lt_of_lt_of_le (hO j hj).2 hk.size⟩⟩
theorem Rp.reown (h : Rp ex w b o h' S) (ha : Ag w o o') : Rp ex w b o' h' S :=
  ⟨h.self, by rw [ha _ h.self.lt]; exact h.selfO, h.va, fun i hi => by rw [ha i (h.va.lt i hi)]; exact h.vaO i hi, h.tr, fun i hi => by rw [ha i (h.tr.lt i hi)]; exact h.trO i hi,
   h.st, fun i hi => by rw [ha i (h.st.lt i hi)]; exact h.stO i hi, h.out, fun i hi => by rw [ha i (h.out.lt i hi)]; exact h.outO i hi, h.hl, h.ll, h.inn,
   fun i x hx j hj => ⟨by rw [ha j (h.innO i x hx j hj).2]; exact (h.innO i x hx j hj).1, (h.innO i x hx j hj).2⟩, h.lo, fun i hi => by rw [ha i (h.lo.lt i hi)]; exact h.loO i hi, fun i L u v hH => by
    obtain ⟨e, lp, ln, lc, hB, hR, hO⟩ := h.hel i L u v hH
    exact ⟨by rw [ha i hB.lt]; exact e, lp, ln, lc, hB, hR, fun j hj => ⟨by rw [ha j (hO j hj).2]; exact (hO j hj).1, (hO j hj).2⟩⟩⟩
/-- what a step leaves: blocks of the tags T alone have turned -/
def Nx (T : Int → Prop) (ex : Nat → Prop) (w : World) (b : Nat) (o : Nat → Int) (S' : WS) (w' : World) : Prop :=
  ∃ o' h', Rp ex w' b o' h' S' ∧ Ag w o o' ∧ Keep (fun i => T (o i)) w w'
theorem Nx.same (h : Rp ex w b o h' S) (hk : Keep None w w') : Nx T ex w b o S w' := ⟨o, h', h.keep0 hk, Ag.refl _ _, hk.none⟩
theorem Nx.mono {T' : Int → Prop} (h : Nx T ex w b o S w') (ht : ∀ t, T t → T' t) : Nx T' ex w b o S w' := by
  obtain ⟨o', h', hR, ha, hk⟩ := h
  exact ⟨o', h', hR, ha, hk.mono fun i _ hi => ht _ hi⟩
end

/-- how a literal stands: asked -/
theorem of26 {ex : Nat → Prop} {w : World} {b : Nat} {o : Nat → Int} {h : Hs} {S : WS} (hR : Rp ex w b o h S) (hc : Cons S.tr) (hnv : S.nv ≤ 1048576) {l : Int} (hl : Wi S.nv l) :
    Calls Try.prog 26 #[Pt b, I l] w fun e w' => e = .returned (J8 (lv S.tr l)) ∧ Keep None w w' := by
  refine ans_of (V26_calls (some ⟨b, 0, none⟩) l w (Ans w _) ?_)
  unfold V26
  obtain ⟨h0, h1, h2⟩ := hl
  have hvl := hR.va.len
  rw [vals_len] at hvl
  have rd : ∀ (v : Nat), v ≤ S.nv → ∀ {K : Int → Prop}, K (lv S.tr v) → ixA h.vv.1 h.vv.2.1 (v : Int) 1 fun p => ldI .i8 w p K := fun v hv K hK => by
    refine hR.va.ix (by omega) (by omega) fun bb hb => ?_
    rw [Int.toNat_natCast, Nat.mul_one]
    have hO := hR.va
    rw [hb] at hO
    exact ldI_of (by rw [hO.cell _ (by omega)]; exact vals_at hv) hK
  refine pif_of (fun hlt => ?_) fun hge => ?_
  · have hlt : l < 0 := by simpa using hlt
    refine nn_of (ldC_of (x := h.vv.1) (n := h.vv.2.1) (c := h.vv.2.2) (by rw [add_mk]; exact hR.self.cell 0) ?_)
    have e1 : IntKind.wrap .i64 (0 - l) = ((-l).toNat : Nat) := by rw [IntKind.wrap_i64]; omega
    rw [e1]
    refine rd _ (by omega) ⟨?_, Keep.refl _ _⟩
    have e2 : (((-l).toNat : Nat) : Int) = -l := by omega
    rw [e2]
    have e3 := lv_neg hc l
    rw [e3]
    have := lv_cases S.tr l
    have e4 : IntKind.wrap .i8 (0 - -lv S.tr l) = lv S.tr l := by
      rcases this with h | h | h <;> rw [h] <;> decide
    rw [e4]
  · have hge : ¬ l < 0 := by simpa using hge
    refine nn_of (ldC_of (x := h.vv.1) (n := h.vv.2.1) (c := h.vv.2.2) (by rw [add_mk]; exact hR.self.cell 0) ?_)
    have e1 : l = ((l.toNat : Nat) : Int) := by omega
    rw [e1]
    exact rd _ (by omega) ⟨rfl, Keep.refl _ _⟩

theorem lv_put {tr : List Int} {l : Int} (hn : lv tr l = 0) (h0 : l ≠ 0) (k : Int) : lv (tr ++ [l]) k = if k = l then 1 else if k = -l then -1 else lv tr k := by
  obtain ⟨n1, n2⟩ := lv_nil.1 hn
  unfold lv
  simp only [List.mem_append, List.mem_singleton]
  by_cases h1 : k = l
  · rw [if_pos (Or.inr h1), if_pos h1]
  · rw [if_neg h1]
    by_cases h2 : k = -l
    · subst h2
      rw [if_neg (by rintro (h | h); exact n2 h; exact h1 h), if_pos (by rw [Int.neg_neg]; exact Or.inr rfl), if_pos rfl]
    · rw [if_neg h2]
      have e1 : (k ∈ tr ∨ k = l) ↔ k ∈ tr := ⟨fun h => h.resolve_right h1, Or.inl⟩
      have e2 : (-k ∈ tr ∨ -k = l) ↔ -k ∈ tr := ⟨fun h => h.resolve_right (by omega), Or.inl⟩
      simp only [e1, e2]
theorem cons_put {tr : List Int} {l : Int} (h : Cons tr) (hn : lv tr l = 0) (h0 : l ≠ 0) : Cons (tr ++ [l]) := by
  obtain ⟨n1, n2⟩ := lv_nil.1 hn
  intro k hk hk'
  simp only [List.mem_append, List.mem_singleton] at hk hk'
  rcases hk with hk | rfl <;> rcases hk' with hk' | hk'
  · exact h k hk hk'
  · have : k = -l := by omega
    subst this; exact n2 hk
  · exact n2 hk'
  · omega
theorem vals_put {nv : Nat} {tr : List Int} {l : Int} (hn : lv tr l = 0) (hl : Wi nv l) : (vals nv tr).set l.natAbs (J8 (if l < 0 then -1 else 1)) = vals nv (tr ++ [l]) := by
  obtain ⟨h0, h1, h2⟩ := hl
  apply List.ext_getElem?
  intro i
  by_cases hi : i ≤ nv
  · rw [vals_at hi, List.getElem?_set, vals_len, lv_put hn h0]
    by_cases he : l.natAbs = i
    · rw [if_pos he, if_pos (by omega)]
      congr 2
      by_cases hlt : l < 0
      · rw [if_pos hlt, if_neg (by omega), if_pos (by omega)]
      · rw [if_neg hlt, if_pos (by omega)]
    · rw [if_neg he, vals_at hi, if_neg (by omega), if_neg (by omega)]
  · rw [List.getElem?_eq_none (by rw [List.length_set, vals_len]; omega), List.getElem?_eq_none (by rw [vals_len]; omega)]
def tPut (t : Int) : Prop := t = -1 ∨ t = -2 ∨ t = -6
theorem put27 {ex : Nat → Prop} {w : World} {b : Nat} {o : Nat → Int} {h : Hs} {S : WS} (hR : Rp ex w b o h S) (hnv : S.nv ≤ 1048576) (htr : S.tr.length ≤ 1048576) {l : Int} (hl : Wi S.nv l) (hn : lv S.tr l = 0) :
    Calls Try.prog 27 #[Pt b, I l] w fun e w' => e = .returned (.tuple #[]) ∧ Nx tPut ex w b o { S with tr := S.tr ++ [l] } w' := by
  refine (V27_calls (some ⟨b, 0, none⟩) l w (fun v w' => v = .tuple #[] ∧ Nx tPut ex w b o { S with tr := S.tr ++ [l] } w') ?_).mono fun e w' ⟨v, he, hv, hk⟩ => ⟨by rw [he, hv], hk⟩
  unfold V27
  obtain ⟨h0, h1, h2⟩ := hl
  have hvl := hR.va.len
  rw [vals_len] at hvl
  have htl := own_len hR.tr
  refine nn_of (ldC_of (x := h.tt.1) (n := h.tt.2.1) (c := h.tt.2.2) (by rw [add_mk]; exact hR.self.cell 1) ?_)
  refine Apart.app1 (g := h.tt) hR.tr (by omega) fun g' w2 e1 hO2 hd => ?_
  -- the trail's new block
  have key : ∃ o' : Nat → Int, Ag w o o' ∧ (∀ i, ob g'.1 i → o' i = -2) ∧ Keep (fun i => o i = -2) w w2 := by
    rcases hd with ⟨e, _, kk⟩ | ⟨e, kk⟩
    · exact ⟨o, Ag.refl _ _, fun i hi => hR.trO i (by rw [e] at hi; exact hi), kk.mono fun i _ hi => hR.trO i hi⟩
    · exact ⟨fun i => if i < w.heap.size then o i else -2, fun i hi => if_pos hi, fun i hi => if_neg (by have := e i hi; omega), kk.none⟩
  obtain ⟨o', ha, hg, k2⟩ := key
  have hR' := hR.reown ha
  have k2' : Keep (fun i => o' i = -2) w w2 := k2.mono fun i hi hh => by rw [ha i hi]; exact hh
  have z2 := k2.size
  have nOld : ∀ {e : TypeId} {sz : Nat} {p : Option Addr} {n c : Nat} {xs : List Value} {t : Int}, Own w e sz p n c xs → (∀ i, ob p i → o' i = t) → t ≠ -2 → Own w2 e sz p n c xs := fun hO ht hne => hO.keep k2' fun i hi hh => hne ((ht i hi).symm.trans hh)
  have self2 := hR'.self.keep k2' (fun hh => by have := hR'.selfO; omega)
  refine nn_of ?_
  simp only [add_mk, Nat.zero_add, Nat.add_zero]
  refine st_of self2 (by simp) rfl fun w3 self3 k3 z3 => ?_
  have one6 : ∀ {i : Nat}, One b i → o' i = -6 := fun {i} hi => by have : i = b := hi; rw [this]; exact hR'.selfO
  have keep3 : ∀ {e : TypeId} {sz : Nat} {p : Option Addr} {n c : Nat} {xs : List Value} {t : Int}, Own w2 e sz p n c xs → (∀ i, ob p i → o' i = t) → t ≠ -6 → Own w3 e sz p n c xs := fun hO ht hne => hO.keep k3 fun i hi hh => hne ((ht i hi).symm.trans (one6 hh))
  have va3 := keep3 (nOld hR'.va hR'.vaO (by decide)) hR'.vaO (by decide)
  have tr3 : Own w3 3 1 g'.1 g'.2.1 g'.2.2 ((S.tr ++ [l]).map I) := keep3 hO2 hg (by decide)
  have st3 := keep3 (nOld hR'.st hR'.stO (by decide)) hR'.stO (by decide)
  have out3 := keep3 (nOld hR'.out hR'.outO (by decide)) hR'.outO (by decide)
  have lo3 := keep3 (nOld hR'.lo hR'.loO (by decide)) hR'.loO (by decide)
  have k23 : Keep (fun i => o' i = -2 ∨ o' i = -6) w w3 := (k2'.mono fun i _ hh => Or.inl hh).trans k3 fun i hi hh => Or.inr (one6 hh)
  have fin : ∀ (m : Nat) (v : Int), m = l.natAbs → v = (if l < 0 then -1 else 1) → ixA h.vv.1 h.vv.2.1 (m : Int) 1 fun p11 => st w3 (p11.add 0) (.int .i8 v) fun w4 => True ∧ Nx tPut ex w b o { S with tr := S.tr ++ [l] } w4 := fun m v hm hv => by
    refine va3.ix (by omega) (by omega) fun bb hb => ?_
    rw [Int.toNat_natCast, Nat.mul_one, add_mk, Nat.add_zero]
    have va3' := va3
    rw [hb] at va3'
    refine va3'.st (by omega) rfl fun w4 va4 k4 z4 => ⟨trivial, ?_⟩
    have one1 : ∀ {i : Nat}, One bb i → o' i = -1 := fun {i} hi => hR'.vaO i ⟨_, hb, (show i = bb from hi).symm⟩
    have keep4 : ∀ {e : TypeId} {sz : Nat} {p : Option Addr} {n c : Nat} {xs : List Value} {t : Int}, Own w3 e sz p n c xs → (∀ i, ob p i → o' i = t) → t ≠ -1 → Own w4 e sz p n c xs := fun hO ht hne => hO.keep k4 fun i hi hh => hne ((ht i hi).symm.trans (one1 hh))
    have k24 : Keep (fun i => tPut (o' i)) w w4 := (k23.mono fun i _ hh => by rcases hh with hh | hh <;> rw [hh] <;> simp [tPut]).trans k4 fun i hi hh => Or.inl (one1 hh)
    have z4' := k24.size
    rw [hm, hv, vals_put hn ⟨h0, h1, h2⟩, ← hb] at va4
    refine ⟨o', { h with tt := g' }, ⟨self3.keep k4 (fun hh => by have := one1 hh; have := hR'.selfO; omega), hR'.selfO, va4, hR'.vaO, keep4 tr3 hg (by decide), hg, keep4 st3 hR'.stO (by decide), hR'.stO, keep4 out3 hR'.outO (by decide), hR'.outO, hR'.hl, hR'.ll, fun i x ids hx hi hne => ?_, fun i x hx j hj => ⟨(hR'.innO i x hx j hj).1, by have := (hR'.innO i x hx j hj).2; omega⟩, keep4 lo3 hR'.loO (by decide), hR'.loO, fun i L u v hH => ?_⟩, ha, k24.mono fun i hi hh => by rw [← ha i hi]; exact hh⟩
    · refine (hR'.inn i x ids hx hi hne).keep k24 fun j hj hh => ?_
      have := (hR'.innO i x hx j hj).1
      rcases hh with hh | hh | hh <;> omega
    · obtain ⟨e, lp, ln, lc, hB, hRd, hO⟩ := hR'.hel i L u v hH
      refine ⟨e, lp, ln, lc, hB.keep k24 (fun hh => by rcases hh with hh | hh | hh <;> omega), hRd.keep k24 (fun j hj hh => by have := (hO j hj).1; rcases hh with hh | hh | hh <;> omega), fun j hj => ⟨(hO j hj).1, by have := (hO j hj).2; omega⟩⟩
  refine pif_of (fun hlt => ?_) fun hge => ?_
  · have hlt : l < 0 := by simpa using hlt
    refine nn_of (ldC_of (x := h.vv.1) (n := h.vv.2.1) (c := h.vv.2.2) (by rw [add_mk]; exact self3.cell 0) ?_)
    have e1 : IntKind.wrap .i64 (0 - l) = ((l.natAbs : Nat) : Int) := by rw [IntKind.wrap_i64]; omega
    rw [e1]
    exact fin _ _ rfl (by rw [if_pos hlt])
  · have hge : ¬ l < 0 := by simpa using hge
    refine nn_of (ldC_of (x := h.vv.1) (n := h.vv.2.1) (c := h.vv.2.2) (by rw [add_mk]; exact self3.cell 0) ?_)
    have e1 : l = ((l.natAbs : Nat) : Int) := by omega
    have := fin l.natAbs 1 rfl (by rw [if_neg hge])
    rw [← e1] at this
    exact this
end Go.Proofs.Ytjpblaenebodlaa.Wt
