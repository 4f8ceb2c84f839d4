/- Watch in memory: what stands where; values; a literal put. -/
import Derived.Test.YtjpblaenebodlaaMLits2
import Derived.Test.YtjpblaenebodlaaMVcL
import Derived.Laws.StructEq
import Derived.ChangeKeysEq
set_option linter.unusedVariables false
set_option linter.unusedSimpArgs false
set_option linter.unusedSectionVars false
set_option maxRecDepth 100000
namespace Go.Proofs.Ytjpblaenebodlaa.Wt
open Go Go.Proofs.Ytjpblaenebodlaa.Vc Go.Proofs.Ytjpblaenebodlaa.T
open Go.Proofs.Ytjpblaenebodlaa.Apart (RdL own_rdl wrap_nat getE own_len copy same take_snoc Sl sv New)
open Go.Proofs.Ytjpblaenebodlaa.Lits (fl fl_iff idx idx_inj idx_range Ans ans_of)

abbrev I (n : Int) : Value := .int .i64 n
abbrev J8 (n : Int) : Value := .int .i8 n
abbrev Pt (b : Nat) : Value := .pointer (some ⟨b, 0, none⟩)
/-- how a literal stands -/
def lv (tr : List Int) (l : Int) : Int := if l ∈ tr then 1 else if -l ∈ tr then -1 else 0
def Cons (tr : List Int) : Prop := ∀ l ∈ tr, -l ∉ tr
theorem lv_neg {tr : List Int} (h : Cons tr) (l : Int) : lv tr (-l) = -lv tr l := by
  unfold lv
  rw [Int.neg_neg]
  by_cases h1 : l ∈ tr
  · rw [if_neg (h l h1), if_pos h1, if_pos h1]
  · by_cases h2 : -l ∈ tr
    · rw [if_pos h2, if_neg h1, if_pos h2]; rfl
    · rw [if_neg h2, if_neg h1, if_neg h1, if_neg h2]; rfl
theorem lv_one {tr : List Int} {l : Int} : lv tr l = 1 ↔ l ∈ tr := by
  unfold lv
  by_cases h1 : l ∈ tr
  · simp [h1]
  · by_cases h2 : -l ∈ tr <;> simp [h1, h2]
theorem lv_no {tr : List Int} (h : Cons tr) {l : Int} : lv tr l = -1 ↔ -l ∈ tr := by
  have := lv_neg h l
  rw [← lv_one (tr := tr) (l := -l)]
  omega
theorem lv_nil {tr : List Int} {l : Int} : lv tr l = 0 ↔ l ∉ tr ∧ -l ∉ tr := by
  unfold lv
  by_cases h1 : l ∈ tr
  · simp [h1]
  · by_cases h2 : -l ∈ tr <;> simp [h1, h2]
theorem lv_cases (tr : List Int) (l : Int) : lv tr l = 1 ∨ lv tr l = -1 ∨ lv tr l = 0 := by
  unfold lv
  by_cases h1 : l ∈ tr
  · simp [h1]
  · by_cases h2 : -l ∈ tr <;> simp [h1, h2]
/-- a literal of these variables -/
def Wi (nv : Nat) (l : Int) : Prop := l ≠ 0 ∧ -(nv : Int) ≤ l ∧ l ≤ nv
def vals (nv : Nat) (tr : List Int) : List Value := (List.range (nv + 1)).map fun v => J8 (lv tr (v : Nat))
theorem vals_len (nv : Nat) (tr : List Int) : (vals nv tr).length = nv + 1 := by simp [vals]
theorem vals_at {nv v : Nat} {tr : List Int} (h : v ≤ nv) : (vals nv tr)[v]? = some (J8 (lv tr v)) := by simp [vals, show v < nv + 1 by omega]

/-- a Watch -/
structure WS where
  nv : Nat
  tr : List Int
  st : List Nat
  hd : Nat
  H : Nat → Option (List Int × Int × Int)
  ls : List (List Nat)
  lo : List Nat
  rest : Bool
  clash : Bool
structure Hs where
  vv : Sl
  tt : Sl
  ss : Sl
  oo : Sl
  ll : Sl
  hh : List Sl
/-- it stands in memory so; o tells whose a block is; of the lists that ex names nothing is told -/
structure Rp (ex : Nat → Prop) (w : World) (b : Nat) (o : Nat → Int) (h : Hs) (S : WS) : Prop where
  self : Blk w b [sv h.vv, sv h.tt, sv h.ss, I S.hd, sv h.oo, sv h.ll, .bool S.rest, .bool S.clash] 64
  selfO : o b = -6
  va : Own w 67 1 h.vv.1 h.vv.2.1 h.vv.2.2 (vals S.nv S.tr)
  vaO : ∀ i, ob h.vv.1 i → o i = -1
  tr : Own w 3 1 h.tt.1 h.tt.2.1 h.tt.2.2 (S.tr.map I)
  trO : ∀ i, ob h.tt.1 i → o i = -2
  st : Own w 3 1 h.ss.1 h.ss.2.1 h.ss.2.2 (S.st.map fun n : Nat => I n)
  stO : ∀ i, ob h.ss.1 i → o i = -3
  out : Own w 62 1 h.oo.1 h.oo.2.1 h.oo.2.2 (h.hh.map sv)
  outO : ∀ i, ob h.oo.1 i → o i = -4
  hl : h.hh.length = 2 * S.nv
  ll : S.ls.length = 2 * S.nv
  inn : ∀ (i : Nat) (x : Sl) (ids : List Nat), h.hh[i]? = some x → S.ls[i]? = some ids → ¬ ex i → Own w 74 1 x.1 x.2.1 x.2.2 (ids.map Pt)
  innO : ∀ (i : Nat) (x : Sl), h.hh[i]? = some x → ∀ j, ob x.1 j → o j = i ∧ j < w.heap.size
  lo : Own w 74 1 h.ll.1 h.ll.2.1 h.ll.2.2 (S.lo.map Pt)
  loO : ∀ i, ob h.ll.1 i → o i = -5
  hel : ∀ (i : Nat) (L : List Int) (u v : Int), S.H i = some (L, u, v) → o i = -7 ∧ ∃ lp ln lc, Blk w i [.slice lp ln lc, I u, I v] 77 ∧ RdL w lp ln L ∧ ∀ j, ob lp j → o j = -8 ∧ j < w.heap.size
/-- whose a block is, of the old ones, stays -/
def Ag (w : World) (o o' : Nat → Int) : Prop := ∀ i, i < w.heap.size → o' i = o i
section
variable {ex : Nat → Prop} {w w' w1 w2 : World} {b : Nat} {o o' o1 o2 : Nat → Int} {h h' : Hs} {S S' : WS} {T : Int → Prop}
theorem Ag.refl (w : World) (o : Nat → Int) : Ag w o o := fun _ _ => rfl
theorem Ag.trans (h : Ag w o o1) (h' : Ag w1 o1 o2) (hs : w.heap.size ≤ w1.heap.size) : Ag w o o2 := fun i hi => by rw [h' i (by omega), h i hi]
theorem keep_ag (h : Keep (fun i => T (o i)) w w1) (ha : Ag w o o1) (h' : Keep (fun i => T (o1 i)) w1 w2) : Keep (fun i => T (o i)) w w2 :=
  h.trans h' fun i hi ht => by rw [ha i hi] at ht; exact ht
theorem Rp.keep0 (h : Rp ex w b o h' S) (hk : Keep None w w') : Rp ex w' b o h' S :=
  ⟨h.self.keep0 hk, h.selfO, h.va.keep0 hk, h.vaO, h.tr.keep0 hk, h.trO, h.st.keep0 hk, h.stO, h.out.keep0 hk, h.outO, h.hl, h.ll, fun i x ids hx hi hn => (h.inn i x ids hx hi hn).keep0 hk,
   fun i x hx j hj => ⟨(h.innO i x hx j hj).1, Nat.lt_of_lt_of_le (h.innO i x hx j hj).2 hk.size⟩, h.lo.keep0 hk, h.loO, fun i L u v hH => by
    obtain ⟨e, lp, ln, lc, hB, hR, hO⟩ := h.hel i L u v hH
    exact ⟨e, lp, ln, lc, hB.keep0 hk, hR.keep0 hk, fun j hj => ⟨(hO j hj).1, Nat.lt_of_lt_of_le (hO j hj).2 hk.size⟩⟩⟩
/-- what changes nothing of it -/
theorem Rp.keepN {U : Nat → Prop} (h : Rp ex w b o h' S) (hk : Keep U w w') (hU : ∀ i, i < w.heap.size → U i → o i = -9) : Rp ex w' b o h' S := by
  have no : ∀ {i : Nat} {t : Int}, i < w.heap.size → o i = t → t ≠ -9 → ¬ U i := fun hi ho ht hu => by have := hU _ hi hu; omega
  have nO : ∀ {e : TypeId} {sz : Nat} {p : Option Addr} {n c : Nat} {xs : List Value} {t : Int}, Own w e sz p n c xs → (∀ i, ob p i → o i = t) → t ≠ -9 → ∀ i, ob p i → ¬ U i := fun hO ht hne i hi => no (hO.lt i hi) (ht i hi) hne
  refine ⟨h.self.keep hk (no h.self.lt h.selfO (by decide)), h.selfO, h.va.keep hk (nO h.va h.vaO (by decide)), h.vaO, h.tr.keep hk (nO h.tr h.trO (by decide)), h.trO, h.st.keep hk (nO h.st h.stO (by decide)), h.stO, h.out.keep hk (nO h.out h.outO (by decide)), h.outO, h.hl, h.ll,
    fun i x ids hx hi hn => (h.inn i x ids hx hi hn).keep hk fun j hj => no (h.innO i x hx j hj).2 (h.innO i x hx j hj).1 (by omega),
    fun i x hx j hj => ⟨(h.innO i x hx j hj).1, Nat.lt_of_lt_of_le (h.innO i x hx j hj).2 hk.size⟩, h.lo.keep hk (nO h.lo h.loO (by decide)), h.loO, fun i L u v hH => ?_⟩
  obtain ⟨e, lp, ln, lc, hB, hR, hO⟩ := h.hel i L u v hH
  exact ⟨e, lp, ln, lc, hB.keep hk (no hB.lt e (by decide)), hR.keep hk fun j hj => no (hO j hj).2 (hO j hj).1 (by decide), fun j hj => ⟨(hO j hj).1, Nat.lt_of_lt_of_le (hO j hj).2 hk.size⟩⟩
theorem Rp.reown (h : Rp ex w b o h' S) (ha : Ag w o o') : Rp ex w b o' h' S :=
  ⟨h.self, by rw [ha _ h.self.lt]; exact h.selfO, h.va, fun i hi => by rw [ha i (h.va.lt i hi)]; exact h.vaO i hi, h.tr, fun i hi => by rw [ha i (h.tr.lt i hi)]; exact h.trO i hi,
   h.st, fun i hi => by rw [ha i (h.st.lt i hi)]; exact h.stO i hi, h.out, fun i hi => by rw [ha i (h.out.lt i hi)]; exact h.outO i hi, h.hl, h.ll, h.inn,
   fun i x hx j hj => ⟨by rw [ha j (h.innO i x hx j hj).2]; exact (h.innO i x hx j hj).1, (h.innO i x hx j hj).2⟩, h.lo, fun i hi => by rw [ha i (h.lo.lt i hi)]; exact h.loO i hi, fun i L u v hH => by
    obtain ⟨e, lp, ln, lc, hB, hR, hO⟩ := h.hel i L u v hH
    exact ⟨by rw [ha i hB.lt]; exact e, lp, ln, lc, hB, hR, fun j hj => ⟨by rw [ha j (hO j hj).2]; exact (hO j hj).1, (hO j hj).2⟩⟩⟩
/-- what a step leaves: blocks of the tags T alone have turned -/
def Nx (T : Int → Prop) (ex : Nat → Prop) (w : World) (b : Nat) (o : Nat → Int) (S' : WS) (w' : World) : Prop :=
  ∃ o' h', Rp ex w' b o' h' S' ∧ Ag w o o' ∧ Keep (fun i => T (o i)) w w'
theorem Nx.same (h : Rp ex w b o h' S) (hk : Keep None w w') : Nx T ex w b o S w' := ⟨o, h', h.keep0 hk, Ag.refl _ _, hk.none⟩
theorem Nx.mono {T' : Int → Prop} (h : Nx T ex w b o S w') (ht : ∀ t, T t → T' t) : Nx T' ex w b o S w' := by
  obtain ⟨o', h', hR, ha, hk⟩ := h
  exact ⟨o', h', hR, ha, hk.mono fun i _ hi => ht _ hi⟩
end

/-- how a literal stands: asked -/
theorem of26 {ex : Nat → Prop} {w : World} {b : Nat} {o : Nat → Int} {h : Hs} {S : WS} (hR : Rp ex w b o h S) (hc : Cons S.tr) (hnv : S.nv ≤ 1048576) {l : Int} (hl : Wi S.nv l) :
    Calls Try.prog 26 #[Pt b, I l] w fun e w' => e = .returned (J8 (lv S.tr l)) ∧ Keep None w w' := by
  refine ans_of (V26_calls (some ⟨b, 0, none⟩) l w (Ans w _) ?_)
  unfold V26
  obtain ⟨h0, h1, h2⟩ := hl
  have hvl := hR.va.len
  rw [vals_len] at hvl
  have rd : ∀ (v : Nat), v ≤ S.nv → ∀ {K : Int → Prop}, K (lv S.tr v) → ixA h.vv.1 h.vv.2.1 (v : Int) 1 fun p => ldI .i8 w p K := fun v hv K hK => by
    refine hR.va.ix (by omega) (by omega) fun bb hb => ?_
    rw [Int.toNat_natCast, Nat.mul_one]
    have hO := hR.va
    rw [hb] at hO
    exact ldI_of (by rw [hO.cell _ (by omega)]; exact vals_at hv) hK
  refine pif_of (fun hlt => ?_) fun hge => ?_
  · have hlt : l < 0 := by simpa using hlt
    refine nn_of (ldC_of (x := h.vv.1) (n := h.vv.2.1) (c := h.vv.2.2) (by rw [add_mk]; exact hR.self.cell 0) ?_)
    have e1 : IntKind.wrap .i64 (0 - l) = ((-l).toNat : Nat) := by rw [IntKind.wrap_i64]; omega
    rw [e1]
    refine rd _ (by omega) ⟨?_, Keep.refl _ _⟩
    have e2 : (((-l).toNat : Nat) : Int) = -l := by omega
    rw [e2]
    have e3 := lv_neg hc l
    rw [e3]
    have := lv_cases S.tr l
    have e4 : IntKind.wrap .i8 (0 - -lv S.tr l) = lv S.tr l := by
      rcases this with h | h | h <;> rw [h] <;> decide
    rw [e4]
  · have hge : ¬ l < 0 := by simpa using hge
    refine nn_of (ldC_of (x := h.vv.1) (n := h.vv.2.1) (c := h.vv.2.2) (by rw [add_mk]; exact hR.self.cell 0) ?_)
    have e1 : l = ((l.toNat : Nat) : Int) := by omega
    rw [e1]
    exact rd _ (by omega) ⟨rfl, Keep.refl _ _⟩

theorem lv_put {tr : List Int} {l : Int} (hn : lv tr l = 0) (h0 : l ≠ 0) (k : Int) : lv (tr ++ [l]) k = if k = l then 1 else if k = -l then -1 else lv tr k := by
  obtain ⟨n1, n2⟩ := lv_nil.1 hn
  unfold lv
  simp only [List.mem_append, List.mem_singleton]
  by_cases h1 : k = l
  · rw [if_pos (Or.inr h1), if_pos h1]
  · rw [if_neg h1]
    by_cases h2 : k = -l
    · subst h2
      rw [if_neg (by rintro (h | h); exact n2 h; exact h1 h), if_pos (by rw [Int.neg_neg]; exact Or.inr rfl), if_pos rfl]
    · rw [if_neg h2]
      have e1 : (k ∈ tr ∨ k = l) ↔ k ∈ tr := ⟨fun h => h.resolve_right h1, Or.inl⟩
      have e2 : (-k ∈ tr ∨ -k = l) ↔ -k ∈ tr := ⟨fun h => h.resolve_right (by omega), Or.inl⟩
      simp only [e1, e2]
theorem cons_put {tr : List Int} {l : Int} (h : Cons tr) (hn : lv tr l = 0) (h0 : l ≠ 0) : Cons (tr ++ [l]) := by
  obtain ⟨n1, n2⟩ := lv_nil.1 hn
  intro k hk hk'
  simp only [List.mem_append, List.mem_singleton] at hk hk'
  rcases hk with hk | rfl <;> rcases hk' with hk' | hk'
  · exact h k hk hk'
  · have : k = -l := by omega
    subst this; exact n2 hk
  · exact n2 hk'
  · omega
theorem vals_put {nv : Nat} {tr : List Int} {l : Int} (hn : lv tr l = 0) (hl : Wi nv l) : (vals nv tr).set l.natAbs (J8 (if l < 0 then -1 else 1)) = vals nv (tr ++ [l]) := by
  obtain ⟨h0, h1, h2⟩ := hl
  apply List.ext_getElem?
  intro i
  by_cases hi : i ≤ nv
  · rw [vals_at hi, List.getElem?_set, vals_len, lv_put hn h0]
    by_cases he : l.natAbs = i
    · rw [if_pos he, if_pos (by omega)]
      congr 2
      by_cases hlt : l < 0
      · rw [if_pos hlt, if_neg (by omega), if_pos (by omega)]
      · rw [if_neg hlt, if_pos (by omega)]
    · rw [if_neg he, vals_at hi, if_neg (by omega), if_neg (by omega)]
  · rw [List.getElem?_eq_none (by rw [List.length_set, vals_len]; omega), List.getElem?_eq_none (by rw [vals_len]; omega)]
def tPut (t : Int) : Prop := t = -1 ∨ t = -2 ∨ t = -6
theorem put27 {ex : Nat → Prop} {w : World} {b : Nat} {o : Nat → Int} {h : Hs} {S : WS} (hR : Rp ex w b o h S) (hnv : S.nv ≤ 1048576) (htr : S.tr.length ≤ 1048576) {l : Int} (hl : Wi S.nv l) (hn : lv S.tr l = 0) :
    Calls Try.prog 27 #[Pt b, I l] w fun e w' => e = .returned (.tuple #[]) ∧ Nx tPut ex w b o { S with tr := S.tr ++ [l] } w' := by
  refine (V27_calls (some ⟨b, 0, none⟩) l w (fun v w' => v = .tuple #[] ∧ Nx tPut ex w b o { S with tr := S.tr ++ [l] } w') ?_).mono fun e w' ⟨v, he, hv, hk⟩ => ⟨by rw [he, hv], hk⟩
  unfold V27
  obtain ⟨h0, h1, h2⟩ := hl
  have hvl := hR.va.len
  rw [vals_len] at hvl
  have htl := own_len hR.tr
  refine nn_of (ldC_of (x := h.tt.1) (n := h.tt.2.1) (c := h.tt.2.2) (by rw [add_mk]; exact hR.self.cell 1) ?_)
  refine Apart.app1 (g := h.tt) hR.tr (by omega) fun g' w2 e1 hO2 hd => ?_
  -- the trail's new block
  have key : ∃ o' : Nat → Int, Ag w o o' ∧ (∀ i, ob g'.1 i → o' i = -2) ∧ Keep (fun i => o i = -2) w w2 := by
    rcases hd with ⟨e, _, kk⟩ | ⟨e, kk⟩
    · exact ⟨o, Ag.refl _ _, fun i hi => hR.trO i (by rw [e] at hi; exact hi), kk.mono fun i _ hi => hR.trO i hi⟩
    · exact ⟨fun i => if i < w.heap.size then o i else -2, fun i hi => if_pos hi, fun i hi => if_neg (by have := e i hi; omega), kk.none⟩
  obtain ⟨o', ha, hg, k2⟩ := key
  have hR' := hR.reown ha
  have k2' : Keep (fun i => o' i = -2) w w2 := k2.mono fun i hi hh => by rw [ha i hi]; exact hh
  have z2 := k2.size
  have nOld : ∀ {e : TypeId} {sz : Nat} {p : Option Addr} {n c : Nat} {xs : List Value} {t : Int}, Own w e sz p n c xs → (∀ i, ob p i → o' i = t) → t ≠ -2 → Own w2 e sz p n c xs := fun hO ht hne => hO.keep k2' fun i hi hh => hne ((ht i hi).symm.trans hh)
  have self2 := hR'.self.keep k2' (fun hh => by have := hR'.selfO; omega)
  refine nn_of ?_
  simp only [add_mk, Nat.zero_add, Nat.add_zero]
  refine st_of self2 (by simp) rfl fun w3 self3 k3 z3 => ?_
  have one6 : ∀ {i : Nat}, One b i → o' i = -6 := fun {i} hi => by have : i = b := hi; rw [this]; exact hR'.selfO
  have keep3 : ∀ {e : TypeId} {sz : Nat} {p : Option Addr} {n c : Nat} {xs : List Value} {t : Int}, Own w2 e sz p n c xs → (∀ i, ob p i → o' i = t) → t ≠ -6 → Own w3 e sz p n c xs := fun hO ht hne => hO.keep k3 fun i hi hh => hne ((ht i hi).symm.trans (one6 hh))
  have va3 := keep3 (nOld hR'.va hR'.vaO (by decide)) hR'.vaO (by decide)
  have tr3 : Own w3 3 1 g'.1 g'.2.1 g'.2.2 ((S.tr ++ [l]).map I) := keep3 hO2 hg (by decide)
  have st3 := keep3 (nOld hR'.st hR'.stO (by decide)) hR'.stO (by decide)
  have out3 := keep3 (nOld hR'.out hR'.outO (by decide)) hR'.outO (by decide)
  have lo3 := keep3 (nOld hR'.lo hR'.loO (by decide)) hR'.loO (by decide)
  have k23 : Keep (fun i => o' i = -2 ∨ o' i = -6) w w3 := (k2'.mono fun i _ hh => Or.inl hh).trans k3 fun i hi hh => Or.inr (one6 hh)
  have fin : ∀ (m : Nat) (v : Int), m = l.natAbs → v = (if l < 0 then -1 else 1) → ixA h.vv.1 h.vv.2.1 (m : Int) 1 fun p11 => st w3 (p11.add 0) (.int .i8 v) fun w4 => True ∧ Nx tPut ex w b o { S with tr := S.tr ++ [l] } w4 := fun m v hm hv => by
    refine va3.ix (by omega) (by omega) fun bb hb => ?_
    rw [Int.toNat_natCast, Nat.mul_one, add_mk, Nat.add_zero]
    have va3' := va3
    rw [hb] at va3'
    refine va3'.st (by omega) rfl fun w4 va4 k4 z4 => ⟨trivial, ?_⟩
    have one1 : ∀ {i : Nat}, One bb i → o' i = -1 := fun {i} hi => hR'.vaO i ⟨_, hb, (show i = bb from hi).symm⟩
    have keep4 : ∀ {e : TypeId} {sz : Nat} {p : Option Addr} {n c : Nat} {xs : List Value} {t : Int}, Own w3 e sz p n c xs → (∀ i, ob p i → o' i = t) → t ≠ -1 → Own w4 e sz p n c xs := fun hO ht hne => hO.keep k4 fun i hi hh => hne ((ht i hi).symm.trans (one1 hh))
    have k24 : Keep (fun i => tPut (o' i)) w w4 := (k23.mono fun i _ hh => by rcases hh with hh | hh <;> rw [hh] <;> simp [tPut]).trans k4 fun i hi hh => Or.inl (one1 hh)
    have z4' := k24.size
    rw [hm, hv, vals_put hn ⟨h0, h1, h2⟩, ← hb] at va4
    refine ⟨o', { h with tt := g' }, ⟨self3.keep k4 (fun hh => by have := one1 hh; have := hR'.selfO; omega), hR'.selfO, va4, hR'.vaO, keep4 tr3 hg (by decide), hg, keep4 st3 hR'.stO (by decide), hR'.stO, keep4 out3 hR'.outO (by decide), hR'.outO, hR'.hl, hR'.ll, fun i x ids hx hi hne => ?_, fun i x hx j hj => ⟨(hR'.innO i x hx j hj).1, by have := (hR'.innO i x hx j hj).2; omega⟩, keep4 lo3 hR'.loO (by decide), hR'.loO, fun i L u v hH => ?_⟩, ha, k24.mono fun i hi hh => by rw [← ha i hi]; exact hh⟩
    · refine (hR'.inn i x ids hx hi hne).keep k24 fun j hj hh => ?_
      have := (hR'.innO i x hx j hj).1
      rcases hh with hh | hh | hh <;> omega
    · obtain ⟨e, lp, ln, lc, hB, hRd, hO⟩ := hR'.hel i L u v hH
      refine ⟨e, lp, ln, lc, hB.keep k24 (fun hh => by rcases hh with hh | hh | hh <;> omega), hRd.keep k24 (fun j hj hh => by have := (hO j hj).1; rcases hh with hh | hh | hh <;> omega), fun j hj => ⟨(hO j hj).1, by have := (hO j hj).2; omega⟩⟩
  refine pif_of (fun hlt => ?_) fun hge => ?_
  · have hlt : l < 0 := by simpa using hlt
    refine nn_of (ldC_of (x := h.vv.1) (n := h.vv.2.1) (c := h.vv.2.2) (by rw [add_mk]; exact self3.cell 0) ?_)
    have e1 : IntKind.wrap .i64 (0 - l) = ((l.natAbs : Nat) : Int) := by rw [IntKind.wrap_i64]; omega
    rw [e1]
    exact fin _ _ rfl (by rw [if_pos hlt])
  · have hge : ¬ l < 0 := by simpa using hge
    refine nn_of (ldC_of (x := h.vv.1) (n := h.vv.2.1) (c := h.vv.2.2) (by rw [add_mk]; exact self3.cell 0) ?_)
    have e1 : l = ((l.natAbs : Nat) : Int) := by omega
    have := fin l.natAbs 1 rfl (by rw [if_neg hge])
    rw [← e1] at this
    exact this
end Go.Proofs.Ytjpblaenebodlaa.Wt

/- Watch: what is cut off; lists of those that watch. -/
set_option linter.unusedVariables false
set_option linter.unusedSimpArgs false
set_option linter.unusedSectionVars false
set_option maxRecDepth 100000
namespace Go.Proofs.Ytjpblaenebodlaa.Wt
open Go Go.Proofs.Ytjpblaenebodlaa.Vc Go.Proofs.Ytjpblaenebodlaa.T
open Go.Proofs.Ytjpblaenebodlaa.Apart (RdL own_rdl wrap_nat getE own_len copy same take_snoc Sl sv New)
open Go.Proofs.Ytjpblaenebodlaa.Lits (fl fl_iff idx idx_inj idx_range Ans ans_of indexP formedP)

theorem wi_fl {nv : Nat} (hnv : nv ≤ 1048576) {l : Int} (h : Wi nv l) : fl l = true := by
  obtain ⟨h0, h1, h2⟩ := h
  exact fl_iff.2 ⟨h0, by omega, by omega⟩
theorem var45 {w : World} {l : Int} (h : fl l = true) : Calls Try.prog 45 #[I l] w fun e w' => e = .returned (I (l.natAbs : Nat)) ∧ Keep None w w' := by
  refine ans_of (V45_calls l w (Ans w _) ?_)
  unfold V45
  obtain ⟨h0, h1, h2⟩ := fl_iff.1 h
  refine cl_of ok44 (formedP l) fun e w1 ⟨he, k1⟩ => ⟨_, he, ?_⟩
  rw [h]
  refine pif_f rfl ?_
  refine pif_of (fun hlt => ⟨?_, k1⟩) fun hge => ⟨?_, k1⟩
  · have hlt : l < 0 := by simpa using hlt
    congr 1
    rw [IntKind.wrap_i64]; omega
  · have hge : ¬ l < 0 := by simpa using hge
    congr 1
    omega
def idxN (l : Int) : Nat := (idx l).toNat
theorem idxN_lt {nv : Nat} {l : Int} (h : Wi nv l) : idxN l < 2 * nv := by
  obtain ⟨h0, h1, h2⟩ := h
  unfold idxN idx
  split <;> omega
theorem idxN_eq {nv : Nat} (hnv : nv ≤ 1048576) {l : Int} (h : Wi nv l) : idx l = (idxN l : Nat) := by
  have := idx_range (wi_fl hnv h)
  unfold idxN; omega
theorem idxN_inj {nv : Nat} (hnv : nv ≤ 1048576) {a c : Int} (ha : Wi nv a) (hc : Wi nv c) (h : idxN a = idxN c) : a = c :=
  idx_inj (wi_fl hnv ha) (wi_fl hnv hc) (by rw [idxN_eq hnv ha, idxN_eq hnv hc, h])
section
variable {ex : Nat → Prop} {w w' w1 w2 : World} {b : Nat} {o o' : Nat → Int} {h : Hs} {S : WS}
/-- what is left when other tags' blocks turn -/
theorem Rp.own {T : Int → Prop} {e : TypeId} {sz : Nat} {p : Option Addr} {n c : Nat} {xs : List Value} {t : Int} (hO : Own w e sz p n c xs) (ht : ∀ i, ob p i → o i = t) (hk : Keep (fun i => T (o i)) w w') (hne : ¬ T t) : Own w' e sz p n c xs :=
  hO.keep hk fun i hi hh => hne ((ht i hi) ▸ hh)
theorem Rp.selfK {T : Int → Prop} (hR : Rp ex w b o h S) (hk : Keep (fun i => T (o i)) w w') (hne : ¬ T (-6)) : Blk w' b [sv h.vv, sv h.tt, sv h.ss, I S.hd, sv h.oo, sv h.ll, .bool S.rest, .bool S.clash] 64 :=
  hR.self.keep hk fun hh => hne (hR.selfO ▸ hh)
theorem Rp.innK {T : Int → Prop} (hR : Rp ex w b o h S) (hk : Keep (fun i => T (o i)) w w') (hne : ∀ t : Int, 0 ≤ t → ¬ T t) : ∀ (i : Nat) (x : Sl) (ids : List Nat), h.hh[i]? = some x → S.ls[i]? = some ids → ¬ ex i → Own w' 74 1 x.1 x.2.1 x.2.2 (ids.map Pt) := fun i x ids hx hi hn =>
  (hR.inn i x ids hx hi hn).keep hk fun j hj hh => hne i (by omega) ((hR.innO i x hx j hj).1 ▸ hh)
theorem Rp.innOK {U : Nat → Prop} (hR : Rp ex w b o h S) (hk : Keep U w w') : ∀ (i : Nat) (x : Sl), h.hh[i]? = some x → ∀ j, ob x.1 j → o j = i ∧ j < w'.heap.size := fun i x hx j hj =>
  ⟨(hR.innO i x hx j hj).1, Nat.lt_of_lt_of_le (hR.innO i x hx j hj).2 hk.size⟩
theorem Rp.helK {T : Int → Prop} (hR : Rp ex w b o h S) (hk : Keep (fun i => T (o i)) w w') (h7 : ¬ T (-7)) (h8 : ¬ T (-8)) : ∀ (i : Nat) (L : List Int) (u v : Int), S.H i = some (L, u, v) → o i = -7 ∧ ∃ lp ln lc, Blk w' i [.slice lp ln lc, I u, I v] 77 ∧ RdL w' lp ln L ∧ ∀ j, ob lp j → o j = -8 ∧ j < w'.heap.size := fun i L u v hH => by
  obtain ⟨e, lp, ln, lc, hB, hRd, hO⟩ := hR.hel i L u v hH
  exact ⟨e, lp, ln, lc, hB.keep hk fun hh => h7 (e ▸ hh), hRd.keep hk fun j hj hh => h8 ((hO j hj).1 ▸ hh), fun j hj => ⟨(hO j hj).1, Nat.lt_of_lt_of_le (hO j hj).2 hk.size⟩⟩
end
theorem vals_cut {nv : Nat} {A B : List Int} {l : Int} (hl : Wi nv l) (hnd : (A ++ l :: B).Nodup) (hc : Cons (A ++ l :: B)) : (vals nv (A ++ l :: B)).set l.natAbs (J8 0) = vals nv (A ++ B) := by
  obtain ⟨h0, h1, h2⟩ := hl
  have n1 : l ∉ A ++ B := by
    have := (List.perm_middle (a := l) (l₁ := A) (l₂ := B)).nodup_iff.1 hnd
    exact (List.nodup_cons.1 this).1
  have n2 : -l ∉ A ++ B := fun h => hc l (by simp) (by
    rcases List.mem_append.1 h with h | h
    · exact List.mem_append.2 (Or.inl h)
    · exact List.mem_append.2 (Or.inr (by simp [h])))
  apply List.ext_getElem?
  intro i
  by_cases hi : i ≤ nv
  · rw [vals_at hi, List.getElem?_set, vals_len]
    have mem : ∀ k : Int, k ∈ A ++ l :: B ↔ k ∈ A ++ B ∨ k = l := fun k => by simp only [List.mem_append, List.mem_cons]; exact ⟨fun h => by rcases h with h | h | h <;> simp [h], fun h => by rcases h with (h | h) | h <;> simp [h]⟩
    by_cases he : l.natAbs = i
    · rw [if_pos he, if_pos (by omega)]
      congr 2
      symm
      rw [lv_nil]
      rcases (by omega : (i : Int) = l ∨ (i : Int) = -l) with e | e <;> rw [e]
      · exact ⟨n1, n2⟩
      · exact ⟨n2, by rw [Int.neg_neg]; exact n1⟩
    · rw [if_neg he, vals_at hi]
      congr 2
      unfold lv
      have e1 : ((i : Int) ∈ A ++ l :: B) ↔ (i : Int) ∈ A ++ B := by rw [mem]; exact ⟨fun h => h.resolve_right (by omega), Or.inl⟩
      have e2 : (-(i : Int) ∈ A ++ l :: B) ↔ -(i : Int) ∈ A ++ B := by rw [mem]; exact ⟨fun h => h.resolve_right (by omega), Or.inl⟩
      simp only [e1, e2]
  · rw [List.getElem?_eq_none (by rw [List.length_set, vals_len]; omega), List.getElem?_eq_none (by rw [vals_len]; omega)]
theorem cut28 {ex : Nat → Prop} {w : World} {b : Nat} {o : Nat → Int} {h : Hs} {S : WS} (hR : Rp ex w b o h S) (hnv : S.nv ≤ 1048576) (hc : Cons S.tr) (hnd : S.tr.Nodup) (hw : ∀ l ∈ S.tr, Wi S.nv l) (hhd : S.hd ≤ 1048576) (htl : S.tr.length ≤ 1048576) {n : Nat} (hn : n ≤ S.tr.length) :
    Calls Try.prog 28 #[Pt b, I n] w fun e w' => e = .returned (.tuple #[]) ∧ Nx tPut ex w b o { S with tr := S.tr.take n, hd := min S.hd n } w' := by
  refine (V28_calls (some ⟨b, 0, none⟩) n w (fun v w' => v = .tuple #[] ∧ Nx tPut ex w b o { S with tr := S.tr.take n, hd := min S.hd n } w') ?_).mono fun e w' ⟨v, he, hv, hk⟩ => ⟨by rw [he, hv], hk⟩
  unfold V28
  have hvl := hR.va.len
  rw [vals_len] at hvl
  have hl := own_len hR.tr
  have htle := hR.tr.le
  simp only [add_mk, Nat.zero_add, Nat.add_zero, Int.toNat_natCast, Nat.sub_zero]
  refine nn_of (ldC_of (x := h.tt.1) (n := h.tt.2.1) (c := h.tt.2.2) (hR.self.cell 1) ⟨by omega, by omega, ?_⟩)
  refine lp_of (fun s W => ∃ i : Nat, s.1 = (i : Int) ∧ n + i ≤ S.tr.length ∧ Own W 67 1 h.vv.1 h.vv.2.1 h.vv.2.2 (vals S.nv (S.tr.take n ++ S.tr.drop (n + i))) ∧ Keep (fun j => o j = -1) w W) (fun s _ => (S.tr.length - n - s.1).toNat)
    ⟨0, rfl, by omega, by rw [Nat.add_zero, List.take_append_drop]; exact hR.va, Keep.refl _ _⟩ ?_
  rintro ⟨i', ⟨⟩⟩ W ⟨i, rfl, hi, hV, kW⟩
  simp only []
  have trW : Own W 3 1 h.tt.1 h.tt.2.1 h.tt.2.2 (S.tr.map I) := Rp.own (T := fun t => t = -1) hR.tr hR.trO kW (by decide)
  have selfW := Rp.selfK (T := fun t => t = -1) hR kW (by decide)
  refine pif_of (fun hlt => ?_) fun hge => ?_
  · have hlt : i < S.tr.length - n := by have : (i : Int) < ((h.tt.2.1 - n : Nat) : Int) := by simpa using hlt
                                         omega
    rw [wrap_nat i (by omega)]
    obtain ⟨l, hx⟩ := getE (show n + i < S.tr.length by omega)
    have hwl := hw l (List.mem_of_getElem? hx)
    have rdT : RdL W (slA h.tt.1 h.tt.2.2 n 1) (h.tt.2.1 - n) (S.tr.drop n) := Lits.RdL.drop (own_rdl trW) (by omega) htle.1
    refine rdT.ix (by omega) fun a x hx' ha => ldI_of ha ?_
    rw [List.getElem?_drop, hx] at hx'
    injection hx' with hx'
    subst hx'
    refine nn_of (ldC_of (x := h.vv.1) (n := h.vv.2.1) (c := h.vv.2.2) (selfW.drew.cell 0) ?_)
    refine cl_of ok45 (var45 (wi_fl hnv hwl)) fun e w2 ⟨he, k2⟩ => ⟨_, he, ?_⟩
    have dr : Keep None W W.drew := (Keep.refl _ _).drew
    have self2 := (selfW.keep0 dr).keep0 k2
    refine ⟨ldC_of (x := h.vv.1) (n := h.vv.2.1) (c := h.vv.2.2) (self2.cell 0) rfl, ?_⟩
    have hV2 := (hV.keep0 dr).keep0 k2
    have hwl' := hwl
    obtain ⟨h0, h1, h2⟩ := hwl'
    refine hV2.ix (by omega) (by omega) fun bb hb => ?_
    rw [Int.toNat_natCast, Nat.mul_one, add_mk, Nat.add_zero]
    have hV2' := hV2
    rw [hb] at hV2'
    refine hV2'.st (by omega) rfl fun w3 va3 k3 z3 => ?_
    refine ⟨⟨i + 1, rfl, by omega, ?_, (kW.trans (dr.trans k2 fun _ _ h => h) fun _ _ h => h.elim).trans k3 fun j hj hh => hR.vaO j ⟨_, hb, (show j = bb from hh).symm⟩⟩, by omega⟩
    have e1 : S.tr.drop (n + i) = l :: S.tr.drop (n + (i + 1)) := by
      obtain ⟨hlt', hxe⟩ := List.getElem?_eq_some_iff.1 hx
      rw [List.drop_eq_getElem_cons hlt', hxe]; rfl
    have hsub : (S.tr.take n ++ l :: S.tr.drop (n + (i + 1))).Sublist S.tr := by
      rw [← e1]
      have h3 : (S.tr.drop (n + i)).Sublist (S.tr.drop n) := by rw [← List.drop_drop]; exact List.drop_sublist _ _
      have := List.Sublist.append (List.Sublist.refl (S.tr.take n)) h3
      rwa [List.take_append_drop] at this
    rw [e1, vals_cut hwl (hsub.nodup hnd) (fun k hk hk' => hc k (hsub.subset hk) (hsub.subset hk')), ← hb] at va3
    exact va3
  · have hge : n + i = S.tr.length := by have : ¬ (i : Int) < ((h.tt.2.1 - n : Nat) : Int) := by simpa using hge
                                         omega
    rw [hge, List.drop_length, List.append_nil] at hV
    refine nn_of (ldC_of (x := h.tt.1) (n := h.tt.2.1) (c := h.tt.2.2) (selfW.cell 1) ⟨by omega, by omega, nn_of ?_⟩)
    refine st_of selfW (by simp) rfl fun w4 self4 k4 z4 => ?_
    refine nn_of (ldI_of (self4.cell 3) (nn_of ?_))
    refine st_of self4 (by simp) rfl fun w5 self5 k5 z5 => ⟨by first | rfl | trivial, ?_⟩
    have one6 : ∀ {i : Nat}, One b i → o i = -6 := fun {i} hi => by have : i = b := hi; rw [this]; exact hR.selfO
    have k45 : Keep (fun j => o j = -6) W w5 := (k4.mono fun j _ hh => one6 hh).trans k5 fun j _ hh => one6 hh
    have kk : Keep (fun j => (fun t : Int => t = -1 ∨ t = -6) (o j)) w w5 := (kW.mono fun j _ hh => Or.inl hh).trans k45 fun j _ hh => Or.inr hh
    have emin : (if (n : Int) < (S.hd : Int) then (n : Int) else (S.hd : Int)) = ((min S.hd n : Nat) : Int) := by
      split <;> omega
    rw [emin] at self5
    have trC : Own W 3 1 h.tt.1 n h.tt.2.2 ((S.tr.take n).map I) := by
      have := trW.cut (m := n) (by omega)
      rw [Nat.mul_one, ← List.map_take] at this
      exact this
    have esl : slA h.tt.1 h.tt.2.2 0 1 = h.tt.1 := Lits.slA_zero _ _ _
    rw [esl] at self5
    refine ⟨o, { h with tt := (h.tt.1, n, h.tt.2.2) }, ⟨self5, hR.selfO, Rp.own (T := fun t => t = -6) hV hR.vaO k45 (by decide), hR.vaO, Rp.own (T := fun t => t = -6) trC hR.trO k45 (by decide), hR.trO,
      Rp.own (T := fun t => t = -1 ∨ t = -6) hR.st hR.stO kk (by decide), hR.stO, Rp.own (T := fun t => t = -1 ∨ t = -6) hR.out hR.outO kk (by decide), hR.outO, hR.hl, hR.ll, Rp.innK (S := S) (h := h) (T := fun t => t = -1 ∨ t = -6) hR kk (fun t ht hh => by omega), Rp.innOK (S := S) (h := h) hR kk,
      Rp.own (T := fun t => t = -1 ∨ t = -6) hR.lo hR.loO kk (by decide), hR.loO, Rp.helK (S := S) (T := fun t => t = -1 ∨ t = -6) hR kk (by decide) (by decide)⟩, Ag.refl _ _, kk.mono fun j _ hh => by rcases hh with hh | hh <;> simp [tPut, hh]⟩
end Go.Proofs.Ytjpblaenebodlaa.Wt

/- Watch: a clause that watches a literal; lists written down. -/
set_option linter.unusedVariables false
set_option linter.unusedSimpArgs false
set_option linter.unusedSectionVars false
set_option maxRecDepth 100000
namespace Go.Proofs.Ytjpblaenebodlaa.Wt
open Go Go.Proofs.Ytjpblaenebodlaa.Vc Go.Proofs.Ytjpblaenebodlaa.T
open Go.Proofs.Ytjpblaenebodlaa.Apart (RdL own_rdl wrap_nat getE own_len copy same take_snoc Sl sv New)
open Go.Proofs.Ytjpblaenebodlaa.Lits (fl fl_iff idx idx_inj idx_range Ans ans_of indexP formedP)

theorem pts_len {w : World} {e : TypeId} {p : Option Addr} {n c : Nat} {ys : List Nat} (h : Own w e 1 p n c (ys.map Pt)) : ys.length = n := by
  have := h.len; simpa using this
section
variable {ex : Nat → Prop} {w w' : World} {b : Nat} {o : Nat → Int} {h : Hs} {S : WS}
theorem Rp.exMono {ex' : Nat → Prop} (hR : Rp ex w b o h S) (he : ∀ i, ex i → ex' i) : Rp ex' w b o h S :=
  ⟨hR.self, hR.selfO, hR.va, hR.vaO, hR.tr, hR.trO, hR.st, hR.stO, hR.out, hR.outO, hR.hl, hR.ll, fun i x ids hx hi hn => hR.inn i x ids hx hi fun h => hn (he i h), hR.innO, hR.lo, hR.loO, hR.hel⟩
/-- the lists' headers -/
theorem Rp.outAt (hR : Rp ex w b o h S) {i : Nat} {x : Sl} (hx : h.hh[i]? = some x) {K : Addr → Prop} (hK : ∀ a, w.cell? a = some (sv x) → K a) : ixA h.oo.1 h.oo.2.1 (i : Int) 1 K := by
  have hl := hR.out.len
  have hi := (List.getElem?_eq_some_iff.1 hx).1
  rw [List.length_map] at hl
  refine hR.out.ix (by omega) (by omega) fun bb hb => hK _ ?_
  have hO := hR.out
  rw [hb] at hO
  rw [hO.cell _ (by omega), Int.toNat_natCast, Nat.mul_one, List.getElem?_map, hx]; rfl
/-- one list goes on -/
theorem appH (hR : Rp ex w b o h S) {i : Nat} {x : Sl} {ids : List Nat} (hx : h.hh[i]? = some x) (hids : S.ls[i]? = some ids) (hne : ¬ ex i) (hlen : ids.length ≤ 17592186044415) {hb bb : Nat} (hB : Blk w bb [Pt hb] 74)
    {K : Option Addr → Nat → Nat → World → Prop}
    (hK : ∀ (g : Sl) (w' : World) (o' : Nat → Int), Rp (fun j => ex j ∨ j = i) w' b o' h S → Ag w o o' → Own w' 74 1 g.1 g.2.1 g.2.2 ((ids ++ [hb]).map Pt) → (∀ j, ob g.1 j → o' j = i) → Keep (fun j => o j = i) w w' → K g.1 g.2.1 g.2.2 w') :
    ∃ (p' : Option Addr) (n' c' : Nat), ∃ w' : World, (Builtin.append_ #[62, 62] 62 #[.slice x.1 x.2.1 x.2.2, .slice (some (⟨bb, 0, none⟩ : Addr)) 1 1]).run Try.prog w = .ok (.slice p' n' c') w' ∧ K p' n' c' w' := by
  have hO := hR.inn i x ids hx hids hne
  have hn := pts_len hO
  have hxo := hR.innO i x hx
  refine app_of2 (e := 74) (sz := 1) (z := .pointer none) (B := 8) Try.underlying62 (by kernel_rfl) rfl (by omega) hO hB.news1 (fun u hu => ?_) (by simp only [maxLen]; omega) (by omega) fun p' c' w' hO' hd => ?_
  · simp only [List.mem_singleton] at hu; subst hu; rfl
  have key : ∃ o' : Nat → Int, Ag w o o' ∧ (∀ j, ob p' j → o' j = i) ∧ Keep (fun j => o j = i) w w' := by
    rcases hd with ⟨e, _, _, kk⟩ | ⟨e, kk⟩
    · exact ⟨o, Ag.refl _ _, fun j hj => (hxo j (by rw [e] at hj; exact hj)).1, kk.mono fun j _ hj => (hxo j hj).1⟩
    · exact ⟨fun j => if j < w.heap.size then o j else i, fun j hj => if_pos hj, fun j hj => if_neg (by have := e j hj; omega), kk.none⟩
  obtain ⟨o', ha, hg, kk⟩ := key
  have hR' := hR.reown ha
  have k' : Keep (fun j => (fun t : Int => t = i) (o' j)) w w' := kk.mono fun j hj hh => by show o' j = i; rw [ha j hj]; exact hh
  have ni : ∀ {t : Int}, t < 0 → ¬ t = (i : Int) := fun h hh => by omega
  refine hK (p', x.2.1 + 1, c') w' o' ⟨Rp.selfK (T := fun t => t = i) hR' k' (ni (by decide)), hR'.selfO, Rp.own (T := fun t => t = i) hR'.va hR'.vaO k' (ni (by decide)), hR'.vaO, Rp.own (T := fun t => t = i) hR'.tr hR'.trO k' (ni (by decide)), hR'.trO,
    Rp.own (T := fun t => t = i) hR'.st hR'.stO k' (ni (by decide)), hR'.stO, Rp.own (T := fun t => t = i) hR'.out hR'.outO k' (ni (by decide)), hR'.outO, hR'.hl, hR'.ll, fun j y ids' hy hj hnj => ?_, hR'.innOK k',
    Rp.own (T := fun t => t = i) hR'.lo hR'.loO k' (ni (by decide)), hR'.loO, Rp.helK (T := fun t => t = i) hR' k' (ni (by decide)) (ni (by decide))⟩ ha (by rw [List.map_append]; exact hO') hg kk
  refine (hR'.inn j y ids' hy hj fun he => hnj (Or.inl he)).keep k' fun t ht hh => ?_
  have := (hR'.innO j y hy t ht).1
  have hh' : o' t = i := hh
  exact hnj (Or.inr (by omega))
/-- a list's header written down -/
theorem setOut {i : Nat} {ids' : List Nat} {g : Sl} (hR : Rp (fun j => ex j ∨ j = i) w b o h S) (hi : i < 2 * S.nv) (hO : Own w 74 1 g.1 g.2.1 g.2.2 (ids'.map Pt)) (hg : ∀ j, ob g.1 j → o j = i) {K : World → Prop}
    (hK : ∀ w', Rp ex w' b o { h with hh := h.hh.set i g } { S with ls := S.ls.set i ids' } → Keep (fun j => o j = -4) w w' → K w') :
    ixA h.oo.1 h.oo.2.1 (i : Int) 1 fun p => st w (p.add 0) (.slice g.1 g.2.1 g.2.2) K := by
  have hl := hR.out.len
  rw [List.length_map] at hl
  have hhl := hR.hl
  have hll := hR.ll
  refine hR.out.ix (by omega) (by omega) fun bb hb => ?_
  rw [Int.toNat_natCast, Nat.mul_one, add_mk, Nat.add_zero]
  have hOut := hR.out
  rw [hb] at hOut
  refine hOut.st (by omega) rfl fun w' out' k1 z1 => ?_
  have kk : Keep (fun j => (fun t : Int => t = -4) (o j)) w w' := k1.mono fun j _ hj => hR.outO j ⟨_, hb, (show j = bb from hj).symm⟩
  refine hK w' ⟨Rp.selfK (S := S) (h := h) (T := fun t => t = -4) hR kk (by decide), hR.selfO, Rp.own (T := fun t => t = -4) hR.va hR.vaO kk (by decide), hR.vaO, Rp.own (T := fun t => t = -4) hR.tr hR.trO kk (by decide), hR.trO,
    Rp.own (T := fun t => t = -4) hR.st hR.stO kk (by decide), hR.stO, by rw [List.map_set, hb]; exact out', hR.outO, by rw [List.length_set]; exact hhl, by rw [List.length_set]; exact hll, fun j y ids hy hj hnj => ?_, fun j y hy t ht => ?_,
    Rp.own (T := fun t => t = -4) hR.lo hR.loO kk (by decide), hR.loO, Rp.helK (S := S) (T := fun t => t = -4) hR kk (by decide) (by decide)⟩ kk
  · by_cases hji : j = i
    · subst hji
      rw [List.getElem?_set_self (by omega)] at hy hj
      injection hy with hy; injection hj with hj; subst hy hj
      exact hO.keep kk fun t ht hh => by have := hg t ht; have hh' : o t = -4 := hh; omega
    · rw [List.getElem?_set_ne (fun e => hji e.symm)] at hy hj
      exact Rp.innK (S := S) (h := h) (T := fun t => t = -4) hR kk (fun t ht hh => by omega) j y ids hy hj fun he => by rcases he with he | he; exact hnj he; exact hji he
  · by_cases hji : j = i
    · subst hji
      rw [List.getElem?_set_self (by omega)] at hy
      injection hy with hy; subst hy
      exact ⟨hg t ht, Nat.lt_of_lt_of_le (hO.lt t ht) kk.size⟩
    · rw [List.getElem?_set_ne (fun e => hji e.symm)] at hy
      exact Rp.innOK (S := S) (h := h) hR kk j y hy t ht
end
def Push3 (b hb : Nat) (x42 : Option Addr) (x42n x42c : Nat) (x44 : Option Addr) (x44n x44c : Nat) (l : Int) (W : World) (K : World → Prop) : Prop :=
          (
            cl Try.prog 60 [.int .i64 l] W fun e46 w8 => ∃ x45 : Int, e46 = Ending.returned (.int .i64 x45) ∧
            (
              ldC w8 ((⟨b, 0, none⟩ : Addr).add 4) fun x47 x47n x47c =>
              ((.slice x47 x47n x47c : Value) = .slice x44 x44n x44c)) ∧
            (
              ldC w8 ((⟨b, 0, none⟩ : Addr).add 4) fun x48 x48n x48c =>
              ((.slice x48 x48n x48c : Value) = .slice x42 x42n x42c)) ∧
            (
              cl Try.prog 60 [.int .i64 l] w8 fun e50 w9 => ∃ x49 : Int, e50 = Ending.returned (.int .i64 x49) ∧
              (
                ldC w9 ((⟨b, 0, none⟩ : Addr).add 4) fun x51 x51n x51c =>
                ((.slice x51 x51n x51c : Value) = .slice x44 x44n x44c)) ∧
              (
                ldC w9 ((⟨b, 0, none⟩ : Addr).add 4) fun x52 x52n x52c =>
                ((.slice x52 x52n x52c : Value) = .slice x42 x42n x42c)) ∧
              ixA x44 x44n x49 1 fun p53 =>
              ldC w9 p53 fun x54 x54n x54c =>
              alc w9 [Pt hb] 74 fun b55 w10 =>
              (
                ldC w10 p53 fun x56 x56n x56c =>
                ((.slice x56 x56n x56c : Value) = .slice x54 x54n x54c)) ∧
              (
                ldC w10 ((⟨b, 0, none⟩ : Addr).add 4) fun x57 x57n x57c =>
                ((.slice x57 x57n x57c : Value) = .slice x44 x44n x44c)) ∧
              (
                ldC w10 ((⟨b, 0, none⟩ : Addr).add 4) fun x58 x58n x58c =>
                ((.slice x58 x58n x58c : Value) = .slice x42 x42n x42c)) ∧
              ∃ (x59 : Option Addr) (x59n x59c : Nat), ∃ w11 : World, (Builtin.append_ #[62, 62] 62 #[.slice x54 x54n x54c, .slice (some (⟨b55, 0, none⟩ : Addr)) 1 1]).run Try.prog w10 = .ok (.slice x59 x59n x59c) w11 ∧
              (
                ldC w11 ((⟨b, 0, none⟩ : Addr).add 4) fun x60 x60n x60c =>
                ((.slice x60 x60n x60c : Value) = .slice x42 x42n x42c)) ∧
              ixA x42 x42n x45 1 fun p61 =>
              st w11 (p61.add 0) (.slice x59 x59n x59c) fun w12 =>
              K w12) ∧
            (
              alc w8 [Pt hb] 74 fun b63 w13 =>
              (
                ldC w13 ((⟨b, 0, none⟩ : Addr).add 4) fun x64 x64n x64c =>
                ((.slice x64 x64n x64c : Value) = .slice x44 x44n x44c)) ∧
              (
                ldC w13 ((⟨b, 0, none⟩ : Addr).add 4) fun x65 x65n x65c =>
                ((.slice x65 x65n x65c : Value) = .slice x42 x42n x42c)) ∧
              cl Try.prog 60 [.int .i64 l] w13 fun e67 w14 => ∃ x66 : Int, e67 = Ending.returned (.int .i64 x66) ∧
              (
                ldC w14 ((⟨b, 0, none⟩ : Addr).add 4) fun x68 x68n x68c =>
                ((.slice x68 x68n x68c : Value) = .slice x44 x44n x44c)) ∧
              (
                ldC w14 ((⟨b, 0, none⟩ : Addr).add 4) fun x69 x69n x69c =>
                ((.slice x69 x69n x69c : Value) = .slice x42 x42n x42c)) ∧
              ixA x44 x44n x66 1 fun p70 =>
              ldC w14 p70 fun x71 x71n x71c =>
              ∃ (x72 : Option Addr) (x72n x72c : Nat), ∃ w15 : World, (Builtin.append_ #[62, 62] 62 #[.slice x71 x71n x71c, .slice (some (⟨b63, 0, none⟩ : Addr)) 1 1]).run Try.prog w14 = .ok (.slice x72 x72n x72c) w15 ∧
              (
                ldC w15 ((⟨b, 0, none⟩ : Addr).add 4) fun x73 x73n x73c =>
                ((.slice x73 x73n x73c : Value) = .slice x42 x42n x42c)) ∧
              ixA x42 x42n x45 1 fun p74 =>
              st w15 (p74.add 0) (.slice x72 x72n x72c) fun w16 =>
              K w16)) ∧
          (
            alc W [Pt hb] 74 fun b76 w17 =>
            (
              ldC w17 ((⟨b, 0, none⟩ : Addr).add 4) fun x77 x77n x77c =>
              ((.slice x77 x77n x77c : Value) = .slice x44 x44n x44c)) ∧
            (
              ldC w17 ((⟨b, 0, none⟩ : Addr).add 4) fun x78 x78n x78c =>
              ((.slice x78 x78n x78c : Value) = .slice x42 x42n x42c)) ∧
            cl Try.prog 60 [.int .i64 l] w17 fun e80 w18 => ∃ x79 : Int, e80 = Ending.returned (.int .i64 x79) ∧
            (
              ldC w18 ((⟨b, 0, none⟩ : Addr).add 4) fun x81 x81n x81c =>
              ((.slice x81 x81n x81c : Value) = .slice x44 x44n x44c)) ∧
            (
              ldC w18 ((⟨b, 0, none⟩ : Addr).add 4) fun x82 x82n x82c =>
              ((.slice x82 x82n x82c : Value) = .slice x42 x42n x42c)) ∧
            cl Try.prog 60 [.int .i64 l] w18 fun e84 w19 => ∃ x83 : Int, e84 = Ending.returned (.int .i64 x83) ∧
            (
              ldC w19 ((⟨b, 0, none⟩ : Addr).add 4) fun x85 x85n x85c =>
              ((.slice x85 x85n x85c : Value) = .slice x44 x44n x44c)) ∧
            (
              ldC w19 ((⟨b, 0, none⟩ : Addr).add 4) fun x86 x86n x86c =>
              ((.slice x86 x86n x86c : Value) = .slice x42 x42n x42c)) ∧
            ixA x44 x44n x83 1 fun p87 =>
            ldC w19 p87 fun x88 x88n x88c =>
            ∃ (x89 : Option Addr) (x89n x89c : Nat), ∃ w20 : World, (Builtin.append_ #[62, 62] 62 #[.slice x88 x88n x88c, .slice (some (⟨b76, 0, none⟩ : Addr)) 1 1]).run Try.prog w19 = .ok (.slice x89 x89n x89c) w20 ∧
            (
              ldC w20 ((⟨b, 0, none⟩ : Addr).add 4) fun x90 x90n x90c =>
              ((.slice x90 x90n x90c : Value) = .slice x42 x42n x42c)) ∧
            ixA x42 x42n x79 1 fun p91 =>
            st w20 (p91.add 0) (.slice x89 x89n x89c) fun w21 =>
            K w21)
def tPush (i : Nat) (t : Int) : Prop := t = -4 ∨ t = i
theorem push3 {ex : Nat → Prop} {w : World} {b : Nat} {o : Nat → Int} {h : Hs} {S : WS} (hR : Rp ex w b o h S) (hnv : S.nv ≤ 1048576) {l : Int} (hl : Wi S.nv l) {ids : List Nat} (hids : S.ls[idxN l]? = some ids) (hne : ¬ ex (idxN l)) (hlen : ids.length ≤ 17592186044415) {hb : Nat}
    {K : World → Prop} (hK : ∀ w', Nx (tPush (idxN l)) ex w b o { S with ls := S.ls.set (idxN l) (ids ++ [hb]) } w' → K w') :
    Push3 b hb h.oo.1 h.oo.2.1 h.oo.2.2 h.oo.1 h.oo.2.1 h.oo.2.2 l w K := by
  have hi := idxN_lt hl
  obtain ⟨x, hx⟩ := getE (show idxN l < h.hh.length by rw [hR.hl]; exact hi)
  have hfl := wi_fl hnv hl
  have eix := idxN_eq hnv hl
  -- the end, behind the new cell
  have fin : ∀ (W : World) (bb : Nat), Keep None w W → Blk W bb [Pt hb] 74 →
      ∃ (x59 : Option Addr) (x59n x59c : Nat), ∃ w11 : World, (Builtin.append_ #[62, 62] 62 #[.slice x.1 x.2.1 x.2.2, .slice (some (⟨bb, 0, none⟩ : Addr)) 1 1]).run Try.prog W = .ok (.slice x59 x59n x59c) w11 ∧
        (ldC w11 ((⟨b, 0, none⟩ : Addr).add 4) fun x60 x60n x60c => ((.slice x60 x60n x60c : Value) = .slice h.oo.1 h.oo.2.1 h.oo.2.2)) ∧
        ixA h.oo.1 h.oo.2.1 (idx l) 1 fun p61 => st w11 (p61.add 0) (.slice x59 x59n x59c) fun w12 => K w12 := by
    intro W bb kW hB
    have hRW := hR.keep0 kW
    refine appH hRW hx hids hne hlen hB fun g w' o' hR' ha hO hg kk => ⟨?_, ?_⟩
    · rw [add_mk]
      exact ldC_of (x := h.oo.1) (n := h.oo.2.1) (c := h.oo.2.2) (hR'.self.cell 4) rfl
    · rw [eix]
      refine setOut hR' hi hO hg fun w3 hR3 k3 => hK w3 ⟨o', _, hR3, ?_, ?_⟩
      · exact fun j hj => ha j (Nat.lt_of_lt_of_le hj kW.size)
      · have k1 : Keep (fun j => tPush (idxN l) (o j)) w w' := (Keep.none (S := fun j => tPush (idxN l) (o j)) kW).trans kk fun j _ hh => Or.inr hh
        exact k1.trans k3 fun j hj hh => by
          have := ha j (Nat.lt_of_lt_of_le hj kW.size)
          rw [this] at hh
          exact Or.inl hh
  have sv4 : ∀ {V : World}, Keep None w V → ∀ {K : Option Addr → Nat → Nat → Prop}, K h.oo.1 h.oo.2.1 h.oo.2.2 → ldC V ((⟨b, 0, none⟩ : Addr).add 4) K := fun hk K hK => by
    rw [add_mk]
    exact ldC_of (x := h.oo.1) (n := h.oo.2.1) (c := h.oo.2.2) ((hR.self.keep0 hk).cell 4) hK
  unfold Push3
  refine ⟨?_, ?_⟩
  · refine cl_of ok60 (indexP hfl) fun e w8 ⟨he, k8⟩ => ⟨_, he, sv4 k8 rfl, sv4 k8 rfl, ?_, ?_⟩
    · refine cl_of ok60 (indexP hfl) fun e w9 ⟨he, k9⟩ => ⟨_, he, ?_⟩
      have k89 := k8.then0 k9
      refine ⟨sv4 k89 rfl, sv4 k89 rfl, ?_⟩
      rw [eix]
      refine (hR.keep0 k89).outAt hx fun a ha => ldC_of (x := x.1) (n := x.2.1) (c := x.2.2) ha ?_
      refine alc_at fun bb w10 hbb hB k10 => ?_
      have k810 := k89.then0 k10
      refine ⟨ldC_of (x := x.1) (n := x.2.1) (c := x.2.2) (k10.cell ha fun h => h) rfl, sv4 k810 rfl, sv4 k810 rfl, ?_⟩
      have := fin w10 bb k810 hB
      rw [eix] at this
      exact this
    · refine alc_at fun bb w13 hbb hB k13 => ?_
      have k813 := k8.then0 k13
      refine ⟨sv4 k813 rfl, sv4 k813 rfl, ?_⟩
      refine cl_of ok60 (indexP hfl) fun e w14 ⟨he, k14⟩ => ⟨_, he, ?_⟩
      have k814 := k813.then0 k14
      refine ⟨sv4 k814 rfl, sv4 k814 rfl, ?_⟩
      rw [eix]
      refine (hR.keep0 k814).outAt hx fun a ha => ldC_of (x := x.1) (n := x.2.1) (c := x.2.2) ha ?_
      have := fin w14 bb k814 (hB.keep0 k14)
      rw [eix] at this
      exact this
  · refine alc_at fun bb w17 hbb hB k17 => ?_
    refine ⟨sv4 k17 rfl, sv4 k17 rfl, ?_⟩
    refine cl_of ok60 (indexP hfl) fun e w18 ⟨he, k18⟩ => ⟨_, he, ?_⟩
    have k178 := k17.then0 k18
    refine ⟨sv4 k178 rfl, sv4 k178 rfl, ?_⟩
    refine cl_of ok60 (indexP hfl) fun e w19 ⟨he, k19⟩ => ⟨_, he, ?_⟩
    have k179 := k178.then0 k19
    refine ⟨sv4 k179 rfl, sv4 k179 rfl, ?_⟩
    rw [eix]
    refine (hR.keep0 k179).outAt hx fun a ha => ldC_of (x := x.1) (n := x.2.1) (c := x.2.2) ha ?_
    have := fin w19 bb k179 ((hB.keep0 k18).keep0 k19)
    rw [eix] at this
    exact this
end Go.Proofs.Ytjpblaenebodlaa.Wt

/- Structs of whole numbers and truths, held against one another. -/
set_option linter.unusedVariables false
set_option linter.unusedSimpArgs false
namespace Go.Proofs.Ytjpblaenebodlaa.Vc
open Go

def eqL : (ls : List Leaf) → TupL ls → TupL ls → Bool
  | [], _, _ => true
  | .int _ :: ls, x, y => decide (x.1 = y.1) && eqL ls x.2 y.2
  | .bool :: ls, x, y => (x.1 == y.1) && eqL ls x.2 y.2
  | _ :: _, _, _ => false
def isIntB (P : Program) (t : TypeId) : Bool := match P.underlying t with | some (.int _) => true | _ => false
def isBoolB (P : Program) (t : TypeId) : Bool := match P.underlying t with | some .bool => true | _ => false
def flatF (P : Program) : List Field → List Leaf → Nat → Bool
  | [], [], _ => true
  | f :: fs, l :: ls, i => decide (f.name ≠ "_") && (Nat.beq f.offset i && ((match l with | .int _ => isIntB P f.type | .bool => isBoolB P f.type | _ => false) && flatF P fs ls (i + 1)))
  | _, _, _ => false
def flatS (P : Program) (t : TypeId) (ls : List Leaf) : Bool :=
  (match P.underlying t with | some (.struct fs) => flatF P fs.toList ls 0 | _ => false) && (!(P.stoodInHeld t) && !(P.eqGuardType P.depth t))
theorem run_part1 {P : Program} {t : TypeId} {cs : Array Value} {i : Nat} {v : Value} (ha : isAggB P t = some false) (hv : cs[i]? = some v) (w : World) : (part t cs i).run P w = .ok v w := by
  simp [part, run_isAgg ha, hv]
theorem eqFields_flat {P : Program} {d : Nat} {X Y : Array Value} {w : World} : ∀ (fs : List Field) (ls : List Leaf) (i : Nat) (x y : TupL ls), flatF P fs ls i = true →
    (∀ j v, (lvals ls x)[j]? = some v → X[i + j]? = some v) → (∀ j v, (lvals ls y)[j]? = some v → Y[i + j]? = some v) →
    (Op.eqFields (d + 1) X Y fs).run P w = .ok (eqL ls x y) w := by
  intro fs
  induction fs with
  | nil =>
    intro ls i x y h hx hy
    cases ls with
    | nil => simp [Op.eqFields, eqL]
    | cons l ls => simp [flatF] at h
  | cons f fs ih =>
    intro ls i x y h hx hy
    cases ls with
    | nil => simp [flatF] at h
    | cons l ls =>
      simp only [flatF, Bool.and_eq_true, decide_eq_true_eq] at h
      obtain ⟨h1, h2, h3, h4⟩ := h
      have h2 := Nat.eq_of_beq_eq_true h2
      have hx0 := hx 0 (lval l x.1) rfl
      have hy0 := hy 0 (lval l y.1) rfl
      rw [Nat.add_zero, ← h2] at hx0 hy0
      have ih' := ih ls (i + 1) x.2 y.2 h4 (fun j v hj => by have := hx (j + 1) v hj; rwa [show i + (j + 1) = i + 1 + j by omega] at this)
        (fun j v hj => by have := hy (j + 1) v hj; rwa [show i + (j + 1) = i + 1 + j by omega] at this)
      cases l <;> simp only [] at h3 <;> try (cases h3; done)
      case int k =>
        unfold isIntB at h3
        split at h3
        · rename_i k' hu
          have ha : isAggB P f.type = some false := by unfold isAggB; rw [hu]
          simp only [Op.eqFields]
          rw [if_pos h1]
          simp only [Sem.run_bind, run_part1 ha hx0, run_part1 ha hy0, Result.andThen_ok, lval, run_equalIn_int w d f.type k k' _ _ hu, Sem.run_ite, Sem.run_pure, ih']
          by_cases he : x.1 = y.1
          · simp [eqL, he]
          · simp [eqL, he]
        · cases h3
      case bool =>
        unfold isBoolB at h3
        split at h3
        · rename_i hu
          have ha : isAggB P f.type = some false := by unfold isAggB; rw [hu]
          simp only [Op.eqFields]
          rw [if_pos h1]
          simp only [Sem.run_bind, run_part1 ha hx0, run_part1 ha hy0, Result.andThen_ok, lval, run_equalIn_bool' w d f.type _ _ hu, Sem.run_ite, Sem.run_pure, ih']
          have : ∀ b c : Bool, (b == c) = true ∨ (b == c) = false := fun b c => by cases b <;> cases c <;> simp
          rcases this x.1 y.1 with he | he
          · simp [eqL, he]
          · simp [eqL, he]
        · cases h3
theorem eqV_flat {P : Program} {t : TypeId} {ls : List Leaf} (x y : TupL ls) (h : flatS P t ls = true) (w : World) : (Op.equalIn 10000 t (.agg (lvals ls x).toArray) (.agg (lvals ls y).toArray)).run P w = .ok (eqL ls x y) w := by
  unfold flatS at h
  simp only [Bool.and_eq_true, Bool.not_eq_true'] at h
  obtain ⟨h1, h2, h3⟩ := h
  split at h1
  · rename_i fs hu
    have hf : P.fieldsOf t = fs := by simp [Program.fieldsOf, hu]
    rw [run_equalIn_struct w 9999 t _ _ (by rw [hf]; exact hu) h2, hf]
    exact eqFields_flat fs.toList ls 0 x y h1 (fun j v hj => by simpa using hj) (fun j v hj => by simpa using hj)
  · cases h1
theorem eqV_eql {P : Program} {t : TypeId} (ls : List Leaf) (x y : TupL ls) (h : flatS P t ls = true) {K : Bool → Prop} (hk : K (eqL ls x y)) : eqV P .eql t (.agg (lvals ls x).toArray) (.agg (lvals ls y).toArray) K := by
  refine ⟨_, fun w a b => ?_, hk⟩
  have hg : P.eqGuardType P.depth t = false := by simp only [flatS, Bool.and_eq_true, Bool.not_eq_true'] at h; exact h.2.2
  rw [Sem.run_bind, run_eqGuard_agg w .eql t a b _ _ hg, Result.andThen_ok, run_eql_struct, eqV_flat x y h]
  rfl
theorem eqV_neq {P : Program} {t : TypeId} (ls : List Leaf) (x y : TupL ls) (h : flatS P t ls = true) {K : Bool → Prop} (hk : K (!(eqL ls x y))) : eqV P .neq t (.agg (lvals ls x).toArray) (.agg (lvals ls y).toArray) K := by
  refine ⟨_, fun w a b => ?_, hk⟩
  have hg : P.eqGuardType P.depth t = false := by simp only [flatS, Bool.and_eq_true, Bool.not_eq_true'] at h; exact h.2.2
  rw [Sem.run_bind, run_eqGuard_agg w .neq t a b _ _ hg, Result.andThen_ok, run_neq_struct, eqV_flat x y h]
  rfl
end Go.Proofs.Ytjpblaenebodlaa.Vc

/- Watch: a clause attached, gone through, moved. -/
set_option linter.unusedVariables false
set_option linter.unusedSimpArgs false
set_option linter.unusedSectionVars false
set_option maxRecDepth 100000
namespace Go.Proofs.Ytjpblaenebodlaa.Wt
open Go Go.Proofs.Ytjpblaenebodlaa.Vc Go.Proofs.Ytjpblaenebodlaa.T
open Go.Proofs.Ytjpblaenebodlaa.Apart (RdL own_rdl wrap_nat getE own_len copy same take_snoc Sl sv New)
open Go.Proofs.Ytjpblaenebodlaa.Lits (fl fl_iff idx idx_inj idx_range Ans ans_of indexP formedP)

def upd (H : Nat → Option (List Int × Int × Int)) (i : Nat) (x : List Int × Int × Int) : Nat → Option (List Int × Int × Int) := fun j => if j = i then some x else H j
def addW (ls : List (List Nat)) (i hb : Nat) : List (List Nat) := match ls[i]? with | some ids => ls.set i (ids ++ [hb]) | none => ls
theorem addW_at {ls : List (List Nat)} {i hb : Nat} {ids : List Nat} (h : ls[i]? = some ids) : addW ls i hb = ls.set i (ids ++ [hb]) := by unfold addW; rw [h]
theorem addW_len (ls : List (List Nat)) (i hb : Nat) : (addW ls i hb).length = ls.length := by
  unfold addW; split <;> simp
/-- literals that aren't false -/
def nf (tr : List Int) (L : List Int) : List Int := L.filter fun x => decide (0 ≤ lv tr x)
section
variable {ex : Nat → Prop} {w w' : World} {b : Nat} {o : Nat → Int} {h : Hs} {S : WS}
/-- a clause's watched literals written down -/
theorem setAt (hR : Rp ex w b o h S) {hb : Nat} {L : List Int} {u v x y : Int} (hH : S.H hb = some (L, u, v)) {K : World → Prop}
    (hK : ∀ w', Rp ex w' b o h { S with H := upd S.H hb (L, x, y) } → Keep (fun j => o j = -7) w w' → K w') :
    st w (((⟨hb, 0, none⟩ : Addr).add 1).add 0) (.int .i64 x) fun w6 => st w6 (((⟨hb, 0, none⟩ : Addr).add 1).add 1) (.int .i64 y) K := by
  obtain ⟨e, lp, ln, lc, hB, hRd, hO⟩ := hR.hel hb L u v hH
  simp only [add_mk, Nat.zero_add, Nat.add_zero]
  refine st_of hB (by simp) rfl fun w1 hB k1 z1 => ?_
  refine st_of hB (by simp) rfl fun w2 hB k2 z2 => ?_
  have one : ∀ {j : Nat}, One hb j → j = hb := fun h => h
  have kb : Keep (One hb) w w2 := k1.trans k2 fun _ _ h => h
  have kk : Keep (fun j => (fun t : Int => t = -7) (o j)) w w2 := kb.mono fun j _ hj => by rw [one hj]; exact e
  refine hK w2 ⟨Rp.selfK (S := S) (h := h) (T := fun t => t = -7) hR kk (by decide), hR.selfO, Rp.own (T := fun t => t = -7) hR.va hR.vaO kk (by decide), hR.vaO, Rp.own (T := fun t => t = -7) hR.tr hR.trO kk (by decide), hR.trO,
    Rp.own (T := fun t => t = -7) hR.st hR.stO kk (by decide), hR.stO, Rp.own (T := fun t => t = -7) hR.out hR.outO kk (by decide), hR.outO, hR.hl, hR.ll, Rp.innK (S := S) (h := h) (T := fun t => t = -7) hR kk (fun t ht hh => by omega), Rp.innOK (S := S) (h := h) hR kk,
    Rp.own (T := fun t => t = -7) hR.lo hR.loO kk (by decide), hR.loO, fun i M p q hM => ?_⟩ kk
  by_cases hi : i = hb
  · subst hi
    have hM' : (if i = i then some (L, x, y) else S.H i) = some (M, p, q) := hM
    rw [if_pos rfl] at hM'
    simp only [Option.some.injEq, Prod.mk.injEq] at hM'
    obtain ⟨rfl, rfl, rfl⟩ := hM'
    refine ⟨e, lp, ln, lc, hB, hRd.keep kb fun j hj hh => ?_, fun j hj => ⟨(hO j hj).1, Nat.lt_of_lt_of_le (hO j hj).2 kb.size⟩⟩
    have := (hO j hj).1
    rw [one hh] at this
    omega
  · have hM' : (if i = hb then some (L, x, y) else S.H i) = some (M, p, q) := hM
    rw [if_neg hi] at hM'
    obtain ⟨e', lp', ln', lc', hB', hRd', hO'⟩ := hR.hel i M p q hM'
    refine ⟨e', lp', ln', lc', hB'.keep1 kb hi, hRd'.keep kb fun j hj hh => ?_, fun j hj => ⟨(hO' j hj).1, Nat.lt_of_lt_of_le (hO' j hj).2 kb.size⟩⟩
    have := (hO' j hj).1
    rw [one hh] at this
    omega
end
def noEx : Nat → Prop := fun _ => False
def tAtt (t : Int) : Prop := t = -7 ∨ t = -4 ∨ 0 ≤ t
theorem snoc_nf {tr cs : List Int} {i : Nat} {x : Int} (hx : cs[i]? = some x) : nf tr (cs.take (i + 1)) = if 0 ≤ lv tr x then nf tr (cs.take i) ++ [x] else nf tr (cs.take i) := by
  unfold nf
  rw [take_snoc hx, List.filter_append]
  by_cases h : 0 ≤ lv tr x
  · rw [if_pos h, List.filter_cons_of_pos (by simpa using h)]; rfl
  · rw [if_neg h, List.filter_cons_of_neg (by simpa using h)]; simp
theorem nf_le (tr L : List Int) : (nf tr L).length ≤ L.length := List.length_filter_le _ _
theorem two_of {l : List Int} (h : 2 ≤ l.length) : ∃ x y r, l = x :: y :: r := by
  match l, h with
  | [], h => simp at h
  | [x], h => simp at h
  | x :: y :: r, _ => exact ⟨x, y, r, rfl⟩
/-- what attach leaves -/
def Att (w : World) (b : Nat) (o : Nat → Int) (S : WS) (hb : Nat) (L : List Int) (v : Value) (w' : World) : Prop :=
  ((nf S.tr L).length < 2 ∧ v = .bool false ∧ Keep None w w') ∨ ∃ x y r, nf S.tr L = x :: y :: r ∧ v = .bool true ∧ Nx tAtt noEx w b o { S with H := upd S.H hb (L, x, y), ls := addW (addW S.ls (idxN x) hb) (idxN y) hb } w'
theorem attach43 {w : World} {b : Nat} {o : Nat → Int} {h : Hs} {S : WS} (hR : Rp noEx w b o h S) (hc : Cons S.tr) (hnv : S.nv ≤ 1048576) {hb : Nat} {L : List Int} {u v : Int} (hH : S.H hb = some (L, u, v)) (hL : ∀ x ∈ L, Wi S.nv x) (hLl : L.length ≤ 2097153)
    (hls : ∀ (i : Nat) (ids : List Nat), S.ls[i]? = some ids → ids.length ≤ 8796093022208) :
    Calls Try.prog 43 #[Pt b, Pt hb] w fun e w' => ∃ v, e = .returned v ∧ Att w b o S hb L v w' := by
  refine V43_calls (some ⟨b, 0, none⟩) (some ⟨hb, 0, none⟩) w (Att w b o S hb L) ?_
  unfold V43
  obtain ⟨e, lp, ln, lc, hB, hRd, hO⟩ := hR.hel hb L u v hH
  have hll := hRd.len
  refine nn_of (ldC_of (x := lp) (n := ln) (c := lc) (by rw [add_mk]; exact hB.cell 0) ?_)
  refine lp_of (fun s W => ∃ i : Nat, s.2.1 = (i : Int) ∧ i ≤ ln ∧ Apart.Gro w W s.1.1 s.1.2.1 s.1.2.2 (nf S.tr (L.take i))) (fun s _ => (ln - s.2.1).toNat) ⟨0, rfl, Nat.zero_le _, Apart.Gro.nil w⟩ ?_
  rintro ⟨⟨gp, gn, gc⟩, i', ⟨⟩⟩ W ⟨i, rfl, hi, hG⟩
  simp only [] at hG ⊢
  have kW := hG.keep
  refine pif_of (fun hlt => ?_) fun hge => ?_
  · have hlt : i < ln := by simpa using hlt
    rw [wrap_nat i (by omega)]
    refine ⟨fun s W' => Apart.Gro w W' s.1.1 s.1.2.1 s.1.2.2 (nf S.tr (L.take (i + 1))), ?_, ?_⟩
    rotate_left
    · rintro ⟨⟨p', n', c'⟩, ⟨⟩⟩ W' hG'
      exact ⟨⟨i + 1, rfl, hlt, hG'⟩, by omega⟩
    refine (hRd.keep0 kW).ix hlt fun a x hx ha => ldI_of ha ?_
    refine cl_of ok26 (of26 (hR.keep0 kW) hc hnv (hL x (List.mem_of_getElem? hx))) fun e w3 ⟨he, k3⟩ => ⟨_, he, ?_⟩
    have hG3 := hG.keep0 k3
    have hgl := hG.len
    have hnl := nf_le S.tr (L.take i)
    rw [List.length_take] at hnl
    refine pif_of (fun h => ?_) fun h => ?_
    · have h : 0 ≤ lv S.tr x := by simpa using h
      refine hG3.app (by omega) fun p' c' w' hG' => ?_
      show Apart.Gro w w' p' (gn + 1) c' (nf S.tr (L.take (i + 1)))
      rw [snoc_nf hx, if_pos h]
      exact hG'
    · have h : ¬ 0 ≤ lv S.tr x := by simpa using h
      show Apart.Gro w w3 gp gn gc (nf S.tr (L.take (i + 1)))
      rw [snoc_nf hx, if_neg h]
      exact hG3
  · have hge : i = ln := by simp at hge; omega
    subst hge
    rw [← hll, List.take_length] at hG
    have hgl := hG.len
    refine pif_of (fun hq => ?_) fun hq => ?_
    · have hq : gn < 2 := by simp at hq; omega
      exact Or.inl ⟨by omega, rfl, kW⟩
    have hq : 2 ≤ gn := by simp at hq; omega
    obtain ⟨x, y, r, hnf⟩ := two_of (l := nf S.tr L) (by omega)
    have hx : (nf S.tr L)[0]? = some x := by rw [hnf]; rfl
    have hy : (nf S.tr L)[1]? = some y := by rw [hnf]; rfl
    have dr : Keep None W W.drew := (Keep.refl _ _).drew
    have hgd := (own_rdl hG.own).keep0 dr
    refine hgd.ix (i := 0) (by omega) fun a x' hx' ha => ldI_of ha ?_
    rw [hx] at hx'; injection hx' with hx'; subst hx'
    refine hgd.ix (i := 1) (by omega) fun a y' hy' ha' => ldI_of ha' ?_
    rw [hy] at hy'; injection hy' with hy'; subst hy'
    have kD := kW.then0 dr
    refine nn_of ?_
    refine setAt (hR.keep0 kD) hH fun w7 hR7 k7 => ?_
    have hwx : Wi S.nv x := hL x (List.mem_filter.1 (List.mem_of_getElem? hx)).1
    have hwy : Wi S.nv y := hL y (List.mem_filter.1 (List.mem_of_getElem? hy)).1
    obtain ⟨_, lp7, ln7, lc7, hB7, _, _⟩ := hR7.hel hb L x y (by show (if hb = hb then some (L, x, y) else S.H hb) = _; rw [if_pos rfl])
    refine nn_of ?_
    simp only [add_mk, Nat.zero_add, Nat.add_zero]
    refine ldI_of (hB7.cell 1) (ldI_of (hB7.cell 2) ?_)
    have k07 : Keep (fun j => tAtt (o j)) w w7 := (Keep.none kD).trans k7 fun j _ hh => by have : o j = -7 := hh; show tAtt (o j); rw [this]; exact Or.inl rfl
    -- two lists
    obtain ⟨ia, hia⟩ := getE (show idxN x < S.ls.length by rw [hR.ll]; exact idxN_lt hwx)
    obtain ⟨ic, hic⟩ := getE (show idxN y < (addW S.ls (idxN x) hb).length by rw [addW_len, hR.ll]; exact idxN_lt hwy)
    have hial := hls _ _ hia
    have hicl : ic.length ≤ 8796093022209 := by
      rw [addW_at hia] at hic
      by_cases he : idxN y = idxN x
      · rw [he, List.getElem?_set_self (List.getElem?_eq_some_iff.1 hia).1] at hic
        injection hic with hic
        rw [← hic, List.length_append]; simp; omega
      · rw [List.getElem?_set_ne (fun e => he e.symm)] at hic
        have := hls _ _ hic; omega
    refine lp_of (fun s V => ∃ (i : Nat), s.1 = (i : Int) ∧ i ≤ 2 ∧ Nx tAtt noEx w b o { S with H := upd S.H hb (L, x, y), ls := (if i = 0 then S.ls else if i = 1 then addW S.ls (idxN x) hb else addW (addW S.ls (idxN x) hb) (idxN y) hb) } V) (fun s _ => (2 - s.1).toNat)
      ⟨0, rfl, Nat.zero_le _, o, h, hR7, Ag.refl _ _, k07⟩ ?_
    rintro ⟨i', ⟨⟩⟩ V ⟨i, rfl, hi, o1, h1, hR1, ha1, k1⟩
    simp only []
    refine pif_of (fun hlt => ?_) fun hge => ?_
    · have hlt : i < 2 := by simp at hlt; omega
      rw [wrap_nat i (by omega), Int.toNat_natCast]
      have kd : Keep None V V.drew := (Keep.refl _ _).drew
      have hRd1 := hR1.keep0 kd
      have step : ∀ (l : Int) (ls0 : List (List Nat)) (ids : List Nat), Wi S.nv l → ls0[idxN l]? = some ids → ids.length ≤ 17592186044415 → Rp noEx V.drew b o1 h1 { S with H := upd S.H hb (L, x, y), ls := ls0 } →
          (∀ w', Nx tAtt noEx w b o { S with H := upd S.H hb (L, x, y), ls := addW ls0 (idxN l) hb } w' → (∃ j : Nat, ((i + 1 : Nat) : Int) = (j : Int) ∧ j ≤ 2 ∧ Nx tAtt noEx w b o { S with H := upd S.H hb (L, x, y), ls := (if j = 0 then S.ls else if j = 1 then addW S.ls (idxN x) hb else addW (addW S.ls (idxN x) hb) (idxN y) hb) } w') ∧ ((2 : Int) - ((i + 1 : Nat) : Int)).toNat < ((2 : Int) - (i : Int)).toNat) →
          Push3 b hb h1.oo.1 h1.oo.2.1 h1.oo.2.2 h1.oo.1 h1.oo.2.1 h1.oo.2.2 l V.drew (fun w' => (∃ j : Nat, ((i + 1 : Nat) : Int) = (j : Int) ∧ j ≤ 2 ∧ Nx tAtt noEx w b o { S with H := upd S.H hb (L, x, y), ls := (if j = 0 then S.ls else if j = 1 then addW S.ls (idxN x) hb else addW (addW S.ls (idxN x) hb) (idxN y) hb) } w') ∧ ((2 : Int) - ((i + 1 : Nat) : Int)).toNat < ((2 : Int) - (i : Int)).toNat) := by
        intro l ls0 ids hwl hids hlen hRR hnext
        refine push3 hRR hnv hwl hids (fun h => h) hlen fun w' ⟨o2, h2, hR2, ha2, k2⟩ => hnext w' ⟨o2, h2, ?_, ?_, ?_⟩
        · rw [addW_at hids]; exact hR2
        · exact ha1.trans ha2 (Nat.le_trans k1.size kd.size)
        · refine (k1.then0 kd).trans k2 fun j hj hh => ?_
          have hj' := ha1 j hj
          have hh' : tPush (idxN l) (o1 j) := hh
          show tAtt (o j)
          rw [← hj']
          rcases hh' with hh' | hh'
          · exact Or.inr (Or.inl hh')
          · exact Or.inr (Or.inr (by omega))
      have self4 : ∀ {K : Option Addr → Nat → Nat → Prop}, K h1.oo.1 h1.oo.2.1 h1.oo.2.2 → ldC V.drew ((⟨b, 0, none⟩ : Addr).add 4) K := fun hK => by
        rw [add_mk]
        exact ldC_of (x := h1.oo.1) (n := h1.oo.2.1) (c := h1.oo.2.2) (hRd1.self.cell 4) hK
      by_cases hi0 : i = 0
      · subst hi0
        refine ⟨by omega, by omega, x, rfl, nn_of (self4 (nn_of (self4 ?_)))⟩
        exact step x S.ls ia hwx hia (by omega) hRd1 fun w' hN => ⟨⟨1, rfl, by omega, hN⟩, by omega⟩
      · obtain rfl : i = 1 := by omega
        refine ⟨by omega, by omega, y, rfl, nn_of (self4 (nn_of (self4 ?_)))⟩
        exact step y (addW S.ls (idxN x) hb) ic hwy hic (by omega) hRd1 fun w' hN => ⟨⟨2, rfl, by omega, hN⟩, by omega⟩
    · have hge : i = 2 := by simp at hge; omega
      subst hge
      exact Or.inr ⟨x, y, r, hnf, rfl, o1, h1, hR1, ha1, k1⟩
end Go.Proofs.Ytjpblaenebodlaa.Wt

/- Watch: a clause gone through; another literal watched. -/
set_option linter.unusedVariables false
set_option linter.unusedSimpArgs false
set_option linter.unusedSectionVars false
set_option maxRecDepth 100000
namespace Go.Proofs.Ytjpblaenebodlaa.Wt
open Go Go.Proofs.Ytjpblaenebodlaa.Vc Go.Proofs.Ytjpblaenebodlaa.T
open Go.Proofs.Ytjpblaenebodlaa.Apart (RdL own_rdl wrap_nat getE own_len copy same take_snoc Sl sv New)
open Go.Proofs.Ytjpblaenebodlaa.Lits (fl fl_iff idx idx_inj idx_range Ans ans_of indexP formedP)

theorem eqI_run (a c : Int) (w : World) : (Op.equalIn 9999 3 (I a) (I c)).run Try.prog w = .ok (a == c) w := by
  show (Op.equalIn (9998 + 1) 3 (I a) (I c)).run Try.prog w = _
  unfold Op.equalIn
  simp [run_underlying Try.underlying3]
theorem pt0 (cs : Array Value) (i : Nat) (v : Value) (h : cs[i]? = some v) (w : World) : (part 3 cs i).run Try.prog w = .ok v w := run_part1 (by kernel_rfl) h w
theorem info3 : ∃ i, Try.prog.info? 3 = some i := Option.isSome_iff_exists.1 (by kernel_rfl)
theorem eq2_run (a b c d : Int) (w : World) : (Op.equalIn 10000 75 (.agg #[I a, I b]) (.agg #[I c, I d])).run Try.prog w = .ok ((a == c) && (b == d)) w := by
  obtain ⟨i, hi⟩ := info3
  show (Op.equalIn (9999 + 1) 75 _ _).run Try.prog w = _
  rw [run_equalIn_array w 9999 _ _ Try.underlying75 hi, show Try.prog.cellsOf 3 = 1 by kernel_rfl]
  show (Op.eqItems 9999 3 1 #[I a, I b] #[I c, I d] [0, 1]).run Try.prog w = _
  simp only [Op.eqItems, Sem.run_bind]
  rw [pt0 _ _ (I a) rfl]; simp only [Result.andThen_ok]
  rw [pt0 _ _ (I c) rfl]; simp only [Result.andThen_ok]
  rw [eqI_run]; simp only [Result.andThen_ok]
  cases h1 : (a == c) with
  | false => simp
  | true =>
    simp only [Bool.not_true, Bool.false_eq_true, if_false, Bool.true_and]
    simp only [Sem.run_bind]
    rw [pt0 _ _ (I b) rfl]; simp only [Result.andThen_ok]
    rw [pt0 _ _ (I d) rfl]; simp only [Result.andThen_ok]
    rw [eqI_run]; simp only [Result.andThen_ok]
    cases h2 : (b == d) <;> simp
theorem eq2T {a b c d : Int} {K : Bool → Prop} (hk : K ((a == c) && (b == d))) : eqV Try.prog .eql 75 (.agg #[.int .i64 a, .int .i64 b]) (.agg #[.int .i64 c, .int .i64 d]) K := by
  refine ⟨_, fun w x y => ?_, hk⟩
  rw [Sem.run_bind, run_eqGuard_agg w .eql 75 x y _ _ (by kernel_rfl), Result.andThen_ok, run_eql_struct, eq2_run]
  rfl
/-- what look leaves -/
def Looked (ex : Nat → Prop) (w : World) (b : Nat) (o : Nat → Int) (S : WS) (L : List Int) (v : Value) (w' : World) : Prop :=
  (v = .bool true ∧ Keep None w w' ∧ ((∃ x ∈ L, lv S.tr x = 1) ∨ ∃ x ∈ L, ∃ y ∈ L, x ≠ y ∧ lv S.tr x = 0 ∧ lv S.tr y = 0)) ∨ (v = .bool false ∧ Keep None w w' ∧ ∀ x ∈ L, lv S.tr x = -1) ∨
  (v = .bool true ∧ ∃ l ∈ L, lv S.tr l = 0 ∧ (∀ x ∈ L, x ≠ l → lv S.tr x = -1) ∧ Nx tPut ex w b o { S with tr := S.tr ++ [l] } w')
theorem look47 {ex : Nat → Prop} {w : World} {b : Nat} {o : Nat → Int} {h : Hs} {S : WS} (hR : Rp ex w b o h S) (hc : Cons S.tr) (hnv : S.nv ≤ 1048576) (htr : S.tr.length ≤ 1048576) {hb : Nat} {L : List Int} {u v : Int} (hH : S.H hb = some (L, u, v)) (hL : ∀ x ∈ L, Wi S.nv x) (hLl : L.length ≤ 2097153) (hnd : L.Nodup) :
    Calls Try.prog 47 #[Pt b, Pt hb] w fun e w' => ∃ v, e = .returned v ∧ Looked ex w b o S L v w' := by
  refine V47_calls (some ⟨b, 0, none⟩) (some ⟨hb, 0, none⟩) w (Looked ex w b o S L) ?_
  unfold V47
  obtain ⟨e, lp, ln, lc, hB, hRd, hO⟩ := hR.hel hb L u v hH
  have hll := hRd.len
  refine nn_of (ldC_of (x := lp) (n := ln) (c := lc) (by rw [add_mk]; exact hB.cell 0) ?_)
  refine lp_of (fun s W => ∃ i : Nat, s.2.1 = (i : Int) ∧ i ≤ ln ∧ Keep None w W ∧ ((s.1 = 0 ∧ ∀ x ∈ L.take i, lv S.tr x = -1) ∨ (s.1 ≠ 0 ∧ s.1 ∈ L.take i ∧ lv S.tr s.1 = 0 ∧ ∀ x ∈ L.take i, x ≠ s.1 → lv S.tr x = -1))) (fun s _ => (ln - s.2.1).toNat) ⟨0, rfl, Nat.zero_le _, Keep.refl _ _, Or.inl ⟨rfl, fun x hx => by simp at hx⟩⟩ ?_
  rintro ⟨v6, i', ⟨⟩⟩ W ⟨i, rfl, hi, kW, hv⟩
  simp only [] at hv ⊢
  refine pif_of (fun hlt => ?_) fun hge => ?_
  · have hlt : i < ln := by simpa using hlt
    rw [wrap_nat i (by omega)]
    refine ⟨fun s W' => Keep None w W' ∧ ((s.1 = 0 ∧ ∀ x ∈ L.take (i + 1), lv S.tr x = -1) ∨ (s.1 ≠ 0 ∧ s.1 ∈ L.take (i + 1) ∧ lv S.tr s.1 = 0 ∧ ∀ x ∈ L.take (i + 1), x ≠ s.1 → lv S.tr x = -1)), ?_, ?_⟩
    rotate_left
    · rintro ⟨v, ⟨⟩⟩ W' ⟨k', h'⟩
      exact ⟨⟨i + 1, rfl, hlt, k', h'⟩, by omega⟩
    refine (hRd.keep0 kW).ix hlt fun a x hx ha => ldI_of ha ?_
    have hxL := List.mem_of_getElem? hx
    have hwx := hL x hxL
    refine cl_of ok26 (of26 (hR.keep0 kW) hc hnv hwx) fun e w3 ⟨he, k3⟩ => ⟨_, he, ?_⟩
    have k03 := kW.then0 k3
    have hnt : x ∉ L.take i := fun hh => by
      obtain ⟨j, hj, hje⟩ := List.mem_iff_getElem.1 hh
      rw [List.length_take] at hj
      obtain ⟨hx1, hx2⟩ := List.getElem?_eq_some_iff.1 hx
      have := (List.pairwise_iff_getElem.1 hnd) j i (by omega) hx1 (by omega)
      rw [List.getElem_take] at hje
      exact this (hje.trans hx2.symm)
    rcases lv_cases S.tr x with h1 | h1 | h1
    · rw [h1]
      exact pif_t rfl (Or.inl ⟨rfl, k03, Or.inl ⟨x, hxL, h1⟩⟩)
    · rw [h1]
      refine pif_f rfl (pif_f rfl ⟨k03, ?_⟩)
      rcases hv with ⟨hv0, hall⟩ | ⟨hv0, hvm, hvl, hall⟩
      · refine Or.inl ⟨hv0, fun y hy => ?_⟩
        rw [take_snoc hx] at hy
        rcases List.mem_append.1 hy with hy | hy
        · exact hall y hy
        · rw [List.mem_singleton.1 hy]; exact h1
      · refine Or.inr ⟨hv0, by rw [take_snoc hx]; exact List.mem_append.2 (Or.inl hvm), hvl, fun y hy hne => ?_⟩
        rw [take_snoc hx] at hy
        rcases List.mem_append.1 hy with hy | hy
        · exact hall y hy hne
        · rw [List.mem_singleton.1 hy]; exact h1
    · rw [h1]
      refine pif_f rfl (pif_t rfl ?_)
      rcases hv with ⟨hv0, hall⟩ | ⟨hv0, hvm, hvl, hall⟩
      · refine pif_f (by simp [hv0]) ⟨k03, Or.inr ⟨hwx.1, by rw [take_snoc hx]; simp, h1, fun y hy hne => ?_⟩⟩
        rw [take_snoc hx] at hy
        rcases List.mem_append.1 hy with hy | hy
        · exact hall y hy
        · exact absurd (List.mem_singleton.1 hy) hne
      · exact pif_t (by simpa using hv0) (Or.inl ⟨rfl, k03, Or.inr ⟨v6, List.mem_of_mem_take hvm, x, hxL, fun e => hnt (e ▸ hvm), hvl, h1⟩⟩)
  · have hge : i = ln := by simp at hge; omega
    subst hge
    rw [← hll, List.take_length] at hv
    rcases hv with ⟨hv0, hall⟩ | ⟨hv0, hvm, hvl, hall⟩
    · exact pif_t (by simp [hv0]) (Or.inr (Or.inl ⟨rfl, kW, hall⟩))
    · refine pif_f (by simpa using hv0) ?_
      refine cl_of ok27 (put27 (hR.keep0 kW) hnv htr (hL v6 hvm) hvl) fun e w4 ⟨he, o', h', hR', ha, kk⟩ => ⟨he, Or.inr (Or.inr ⟨rfl, v6, hvm, hvl, hall, o', h', hR', fun j hj => ha j (Nat.lt_of_lt_of_le hj kW.size), ?_⟩)⟩
      exact (Keep.none kW).trans kk fun _ _ h => h

def othr (u v l : Int) : Int := if u = l then v else u
def tMov (i : Nat) (t : Int) : Prop := t = -7 ∨ t = -4 ∨ (0 ≤ t ∧ t ≠ i)
/-- what moved leaves -/
def Moved (ex : Nat → Prop) (w : World) (b : Nat) (o : Nat → Int) (S : WS) (hb : Nat) (L : List Int) (ot l : Int) (v : Value) (w' : World) : Prop :=
  (v = .bool false ∧ Keep None w w' ∧ (lv S.tr ot = 1 ∨ (lv S.tr ot ≠ 1 ∧ ∀ x ∈ L, x ≠ ot → x ≠ l → lv S.tr x = -1))) ∨
  (v = .bool true ∧ lv S.tr ot ≠ 1 ∧ ∃ x ∈ L, x ≠ ot ∧ x ≠ l ∧ lv S.tr x ≠ -1 ∧ Nx (tMov (idxN l)) ex w b o { S with H := upd S.H hb (L, ot, x), ls := addW S.ls (idxN x) hb } w')
theorem moved62 {ex : Nat → Prop} {w : World} {b : Nat} {o : Nat → Int} {h : Hs} {S : WS} (hR : Rp ex w b o h S) (hc : Cons S.tr) (hnv : S.nv ≤ 1048576) {hb : Nat} {L : List Int} {u v l : Int} (hH : S.H hb = some (L, u, v)) (hL : ∀ x ∈ L, Wi S.nv x) (hLl : L.length ≤ 2097153)
    (hlL : Wi S.nv l) (huv : Wi S.nv u ∧ Wi S.nv v) (hex : ∀ i, ex i → i = idxN l) (hls : ∀ (i : Nat) (ids : List Nat), i ≠ idxN l → S.ls[i]? = some ids → ids.length ≤ 8796093022208) :
    Calls Try.prog 62 #[Pt b, Pt hb, I l] w fun e w' => ∃ r, e = .returned r ∧ Moved ex w b o S hb L (othr u v l) l r w' := by
  refine V62_calls (some ⟨b, 0, none⟩) (some ⟨hb, 0, none⟩) l w (Moved ex w b o S hb L (othr u v l) l) ?_
  unfold V62
  obtain ⟨e, lp, ln, lc, hB, hRd, hO⟩ := hR.hel hb L u v hH
  have hll := hRd.len
  have ix2 : ∀ {V : World}, Keep None w V → ∀ {j : Nat} {y : Int}, j < 2 → ([.slice lp ln lc, I u, I v] : List Value)[1 + j]? = some (I y) → ∀ {K : Int → Prop}, K y → ixA (some ((⟨hb, 0, none⟩ : Addr).add 1)) 2 (j : Int) 1 fun p => ldI .i64 V p K := fun {V} hk {j y} hj hy {K} hK => by
    rw [add_mk]
    refine ixA_of (by omega) (by omega) ?_
    rw [Int.toNat_natCast, Nat.mul_one]
    exact ldI_of (by rw [(hB.keep0 hk).cell]; simpa using hy) hK
  have k0 := Keep.refl None w
  refine nn_of (ix2 k0 (j := 0) (y := u) (by omega) rfl ?_)
  have dr : Keep None w w.drew := k0.drew
  have hwo : Wi S.nv (othr u v l) := by unfold othr; split; exact huv.2; exact huv.1
  refine ⟨fun s W => s.1 = othr u v l ∧ W = w.drew, ?_, ?_⟩
  · refine nn_of ?_
    simp only [add_mk, Nat.zero_add, Nat.add_zero]
    refine ldI_of (hB.drew.cell 1) (ldI_of (hB.drew.cell 2) (nn_of ?_))
    refine ix2 dr (j := 1) (y := v) (by omega) rfl (eq2T (pif_of (fun hq => ?_) fun hq => ?_))
    · have hq : u = l := by simpa using hq
      refine nn_of (ix2 dr (j := 1) (y := v) (by omega) rfl ⟨?_, by first | rfl | trivial⟩)
      unfold othr; rw [if_pos hq]
    · have hq : ¬ u = l := by simpa using hq
      exact ⟨by unfold othr; rw [if_neg hq], by first | rfl | trivial⟩
  rintro ⟨ot, ⟨⟩⟩ W ⟨rfl, rfl⟩
  simp only []
  refine cl_of ok26 (of26 (hR.keep0 dr) hc hnv hwo) fun e w2 ⟨he, k2⟩ => ⟨_, he, ?_⟩
  have k02 := dr.then0 k2
  refine pif_of (fun hq => ?_) fun hq => ?_
  · have hq : lv S.tr (othr u v l) = 1 := by simpa using hq
    exact Or.inl ⟨rfl, k02, Or.inl hq⟩
  have hq : lv S.tr (othr u v l) ≠ 1 := by simpa using hq
  refine nn_of (ldC_of (x := lp) (n := ln) (c := lc) (by rw [add_mk]; exact (hB.keep0 k02).cell 0) ?_)
  refine lp_of (fun s V => ∃ i : Nat, s.1 = (i : Int) ∧ i ≤ ln ∧ Keep None w V ∧ ∀ x ∈ L.take i, x ≠ othr u v l → x ≠ l → lv S.tr x = -1) (fun s _ => (ln - s.1).toNat) ⟨0, rfl, Nat.zero_le _, k02, fun x hx => by simp at hx⟩ ?_
  rintro ⟨i', ⟨⟩⟩ V ⟨i, rfl, hi, kV, hall⟩
  simp only []
  refine pif_of (fun hlt => ?_) fun hge => ?_
  · have hlt : i < ln := by simpa using hlt
    rw [wrap_nat i (by omega)]
    refine (hRd.keep0 kV).ix hlt fun a x hx ha => ldI_of ha ?_
    have hxL := List.mem_of_getElem? hx
    have hwx := hL x hxL
    have next : (x ≠ othr u v l → x ≠ l → lv S.tr x = -1) → ∀ V', Keep None w V' → (∃ j : Nat, ((i + 1 : Nat) : Int) = (j : Int) ∧ j ≤ ln ∧ Keep None w V' ∧ ∀ x ∈ L.take j, x ≠ othr u v l → x ≠ l → lv S.tr x = -1) ∧ ((ln : Int) - ((i + 1 : Nat) : Int)).toNat < ((ln : Int) - (i : Int)).toNat := fun hxx V' kV' =>
      ⟨⟨i + 1, rfl, hlt, kV', fun y hy => by
        rw [take_snoc hx] at hy
        rcases List.mem_append.1 hy with hy | hy
        · exact hall y hy
        · rw [List.mem_singleton.1 hy]; exact hxx⟩, by omega⟩
    by_cases hcnd : x ≠ othr u v l ∧ x ≠ l
    · have e1 : cond (x != othr u v l) (x != l) false = true := by simp [hcnd.1, hcnd.2]
      rw [e1]
      refine gd_t rfl (cl_of ok26 (of26 (hR.keep0 kV) hc hnv hwx) fun e w4 ⟨he, k4⟩ => ⟨_, he, ?_⟩)
      have k04 := kV.then0 k4
      refine pif_of (fun hg => ?_) fun hg => ?_
      · have hg : 0 ≤ lv S.tr x := by simpa using hg
        refine nn_of (setAt (hR.keep0 k04) hH fun w7 hR7 k7 => nn_of ?_)
        have kd7 : Keep None w7 w7.drew := (Keep.refl _ _).drew
        have hRd7 := hR7.keep0 kd7
        have self4 : ∀ {K : Option Addr → Nat → Nat → Prop}, K h.oo.1 h.oo.2.1 h.oo.2.2 → ldC w7.drew ((⟨b, 0, none⟩ : Addr).add 4) K := fun hK => by
          rw [add_mk]
          exact ldC_of (x := h.oo.1) (n := h.oo.2.1) (c := h.oo.2.2) (hRd7.self.cell 4) hK
        refine self4 (nn_of (self4 ?_))
        obtain ⟨ids, hids⟩ := getE (show idxN x < S.ls.length by rw [hR.ll]; exact idxN_lt hwx)
        have hne : idxN x ≠ idxN l := fun e => hcnd.2 (idxN_inj hnv hwx hlL e)
        have hlen := hls _ _ hne hids
        exact push3 (K := fun w' => Moved ex w b o S hb L (othr u v l) l (.bool true) w') hRd7 hnv hwx hids (fun hh => hne (hex _ hh)) (by omega) fun w' ⟨o', h', hR', ha, kk⟩ => Or.inr ⟨rfl, hq, x, hxL, hcnd.1, hcnd.2, fun e => by omega, o', h', by rw [addW_at hids]; exact hR', fun j hj => ha j (Nat.lt_of_lt_of_le hj (Nat.le_trans k04.size (Nat.le_trans k7.size kd7.size))), by
          have k17 : Keep (fun j => tMov (idxN l) (o j)) w w7.drew := ((Keep.none k04).trans k7 fun j _ hh => by have : o j = -7 := hh; show tMov (idxN l) (o j); rw [this]; exact Or.inl rfl).then0 kd7
          exact k17.trans kk fun j _ hh => by
            have hh' : tPush (idxN x) (o j) := hh
            show tMov (idxN l) (o j)
            rcases hh' with hh' | hh'
            · exact Or.inr (Or.inl hh')
            · exact Or.inr (Or.inr ⟨by omega, by omega⟩)⟩
      · have hg : ¬ 0 ≤ lv S.tr x := by simpa using hg
        refine next (fun _ _ => ?_) w4 k04
        rcases lv_cases S.tr x with h1 | h1 | h1 <;> omega
    · have e1 : cond (x != othr u v l) (x != l) false = false := by
        by_cases h1 : x = othr u v l
        · simp [h1]
        · have : x = l := Classical.byContradiction fun h2 => hcnd ⟨h1, h2⟩
          simp [this]
      rw [e1]
      exact gd_f rfl (pif_f rfl (next (fun h1 h2 => absurd ⟨h1, h2⟩ hcnd) V kV))
  · have hge : i = ln := by simp at hge; omega
    subst hge
    rw [← hll, List.take_length] at hall
    exact Or.inl ⟨rfl, kV, Or.inr ⟨hq, hall⟩⟩
end Go.Proofs.Ytjpblaenebodlaa.Wt

/- Watch: the clauses that watch a literal that has become false. -/
set_option linter.unusedVariables false
set_option linter.unusedSimpArgs false
set_option linter.unusedSectionVars false
set_option maxRecDepth 100000
namespace Go.Proofs.Ytjpblaenebodlaa.Wt
open Go Go.Proofs.Ytjpblaenebodlaa.Vc Go.Proofs.Ytjpblaenebodlaa.T
open Go.Proofs.Ytjpblaenebodlaa.Apart (RdL own_rdl wrap_nat getE own_len copy same take_snoc Sl sv New)
open Go.Proofs.Ytjpblaenebodlaa.Lits (fl fl_iff idx idx_inj idx_range Ans ans_of indexP formedP)

/-- what is always so of a Watch -/
structure Wf (S : WS) : Prop where
  nvb : S.nv ≤ 1048576
  cons : Cons S.tr
  nd : S.tr.Nodup
  wi : ∀ l ∈ S.tr, Wi S.nv l
  trl : S.tr.length ≤ 1048576
  hel : ∀ (h : Nat) (L : List Int) (u v : Int), S.H h = some (L, u, v) → (∀ x ∈ L, Wi S.nv x) ∧ L.Nodup ∧ L.length ≤ 2097153
  lsl : ∀ (i : Nat) (ids : List Nat), S.ls[i]? = some ids → ids.length ≤ 8796093022208 ∧ ∀ h ∈ ids, ∃ L u v, S.H h = some (L, u, v) ∧ u ∈ L ∧ v ∈ L
  lol : S.lo.length ≤ 8796093022208 ∧ ∀ h ∈ S.lo, ∃ L u v, S.H h = some (L, u, v)
/-- what holds while those clauses are gone through: of those to come, of the Watch, of those that stay, and whether no clash was met -/
structure VInv (l : Int) (P : List Nat → WS → List Nat → Bool → Prop) : Prop where
  wf : ∀ {ids : List Nat} {S : WS} {st : List Nat} {ok : Bool}, P ids S st ok → Wf { S with ls := S.ls.set (idxN l) [] } ∧ st.length ≤ 8796093022208
  att : ∀ {h : Nat} {ids : List Nat} {S : WS} {st : List Nat} {ok : Bool}, P (h :: ids) S st ok → ∃ L u v, S.H h = some (L, u, v) ∧ u ∈ L ∧ v ∈ L
  skip : ∀ {h : Nat} {ids : List Nat} {S : WS} {st : List Nat}, P (h :: ids) S st false → P ids S (st ++ [h]) false
  mv : ∀ {h : Nat} {ids : List Nat} {S : WS} {st : List Nat} {L : List Int} {u v x : Int}, P (h :: ids) S st true → S.H h = some (L, u, v) → lv S.tr (othr u v l) ≠ 1 → x ∈ L → x ≠ othr u v l → x ≠ l → lv S.tr x ≠ -1 → P ids { S with H := upd S.H h (L, othr u v l, x), ls := addW S.ls (idxN x) h } st true
  one : ∀ {h : Nat} {ids : List Nat} {S : WS} {st : List Nat} {L : List Int} {u v : Int}, P (h :: ids) S st true → S.H h = some (L, u, v) → lv S.tr (othr u v l) = 1 → P ids S (st ++ [h]) true
  bad : ∀ {h : Nat} {ids : List Nat} {S : WS} {st : List Nat} {L : List Int} {u v : Int}, P (h :: ids) S st true → S.H h = some (L, u, v) → lv S.tr (othr u v l) = -1 → (∀ x ∈ L, x ≠ othr u v l → x ≠ l → lv S.tr x = -1) → P ids S (st ++ [h]) false
  put : ∀ {h : Nat} {ids : List Nat} {S : WS} {st : List Nat} {L : List Int} {u v : Int}, P (h :: ids) S st true → S.H h = some (L, u, v) → lv S.tr (othr u v l) = 0 → (∀ x ∈ L, x ≠ othr u v l → x ≠ l → lv S.tr x = -1) → P ids { S with tr := S.tr ++ [othr u v l] } (st ++ [h]) true
theorem clone61 {w : World} {p : Option Addr} {n c : Nat} {ids : List Nat} (hO : Own w 74 1 p n c (ids.map Pt)) (hn : ids.length ≤ 8796093022208) :
    Calls Try.prog 61 #[.slice p n c] w fun e w' => ∃ q d, e = .returned (.slice q n d) ∧ Own w' 74 1 q n d (ids.map Pt) ∧ (∀ j, ob q j → w.heap.size ≤ j) ∧ Keep None w w' := by
  refine (V61_calls p n c w (fun v w' => ∃ q d, v = .slice q n d ∧ Own w' 74 1 q n d (ids.map Pt) ∧ (∀ j, ob q j → w.heap.size ≤ j) ∧ Keep None w w') ?_).mono fun e w' ⟨v, he, q, d, hv, hk⟩ => ⟨q, d, by rw [he, hv], hk⟩
  unfold V61
  have hl := pts_len hO
  refine pif_of (fun hq => ?_) fun hq => ?_
  · cases p with
    | none =>
      rcases hO with ⟨_, rfl, rfl, h⟩ | ⟨b, cs, h, _⟩
      · exact ⟨none, 0, rfl, by rw [h]; exact Own.nil _ _ _, (fun j ⟨a, hh, _⟩ => by cases hh), Keep.refl _ _⟩
      · cases h
    | some a => cases hq
  · refine alc_at fun b w1 hb hB k1 => ?_
    have z1 := k1.size
    have hE : Own w1 74 1 (some ⟨b, 0, none⟩) 0 0 [] := Or.inr ⟨b, [], rfl, hB, Nat.le_refl _, Nat.zero_le _, rfl, rfl⟩
    refine app_of2 (e := 74) (sz := 1) (z := .pointer none) (B := 8) Try.underlying62 (by kernel_rfl) rfl (by omega) hE (hO.keep0 k1).news (fun u hu => ?_) (by simp only [maxLen]; omega) (by omega) fun p' c' w' hO' hd => ?_
    · obtain ⟨y, _, rfl⟩ := List.mem_map.1 hu; rfl
    · rw [List.nil_append, Nat.zero_add] at hO'
      rw [Nat.zero_add]
      refine ⟨p', c', rfl, hO', ?_, ?_⟩
      · rcases hd with ⟨e1, _, _, _⟩ | ⟨e1, _⟩
        · rintro i ⟨a, ha, rfl⟩; rw [e1] at ha; cases ha; simp only []; omega
        · intro i hi; have := e1 i hi; omega
      · rcases hd with ⟨_, _, _, k⟩ | ⟨_, k⟩
        · exact k1.trans k fun i hi ⟨a, ha, hb'⟩ => by cases ha; simp only [] at hb'; omega
        · exact k1.then0 k
/-- all of a list made nothing, and begun anew -/
theorem clearP {w : World} {p : Option Addr} {n c : Nat} {xs : List Value} (h : Own w 74 1 p n c xs) {ty : TypeId} {K : World → Prop} (hK : ∀ w', Own w' 74 1 p 0 c [] → Keep (ob p) w w' → K w') :
    ∃ w' : World, (Builtin.clear_ #[62] ty #[.slice p n c]).run Try.prog w = .ok (.tuple #[]) w' ∧ K w' := by
  rcases h with ⟨rfl, rfl, rfl, rfl⟩ | ⟨b, cs, rfl, hB, h1, h2, h3, rfl⟩
  · exact ⟨w, by simp [Builtin.clear_, run_underlying Try.underlying62], hK w (Own.nil _ _ _) (Keep.refl _ _)⟩
  · by_cases hn : n = 0
    · subst hn
      exact ⟨w, by simp [Builtin.clear_, run_underlying Try.underlying62], hK w (Or.inr ⟨b, cs, rfl, hB, Nat.zero_le _, h2, h3, by simp⟩) (Keep.refl _ _)⟩
    · have hz : ∀ w, (zeroValue 74).run Try.prog w = .ok (.pointer none) w := fun w => zeroT_spec (by kernel_rfl) w
      refine ⟨_, Lib.run_clear_slice w 62 74 ty (.pointer none) Try.underlying62 hz rfl rfl b 0 n c (by omega) (fun j hj => ?_) (fun j hj => hB.frozen _), ?_⟩
      · rw [hB.cell, List.getElem?_eq_getElem (by omega)]; rfl
      · obtain ⟨cs', q1, q2, q3, q4⟩ := Lits.setCells_blk (List.replicate n (.pointer none)) b 0 w cs hB
        exact hK _ (Or.inr ⟨b, cs', rfl, q1, Nat.zero_le _, h2, by omega, by simp⟩) (q4.mono fun i _ hi => ⟨_, rfl, (show i = b from hi).symm⟩)
def tMine (t : Int) : Prop := t ≠ -9
theorem visit46 {w : World} {b : Nat} {o : Nat → Int} {h : Hs} {S : WS} (hR : Rp noEx w b o h S) {l : Int} (hl : Wi S.nv l) {ids : List Nat} (hids : S.ls[idxN l]? = some ids) (hlen : ids.length ≤ 8796093022208) {P : List Nat → WS → List Nat → Bool → Prop} (hP : VInv l P) (h0 : P ids S [] true) :
    Calls Try.prog 46 #[Pt b, I l] w fun e w' => ∃ ok S1 st, e = .returned (.bool ok) ∧ P [] S1 st ok ∧ Nx tMine noEx w b o { S1 with ls := S1.ls.set (idxN l) st } w' := by
  refine (V46_calls (some ⟨b, 0, none⟩) l w (fun v w' => ∃ ok S1 st, v = .bool ok ∧ P [] S1 st ok ∧ Nx tMine noEx w b o { S1 with ls := S1.ls.set (idxN l) st } w') ?_).mono fun e w' ⟨v, he, ok, S1, st, hv, hk⟩ => ⟨ok, S1, st, by rw [he, hv], hk⟩
  unfold V46
  obtain ⟨wf0, _⟩ := hP.wf h0
  have hnv := wf0.nvb
  have hfl := wi_fl hnv hl
  have eix := idxN_eq hnv hl
  have hi := idxN_lt hl
  -- blocks that come are no one's
  let o0 : Nat → Int := fun i => if i < w.heap.size then o i else -9
  have ha0 : Ag w o o0 := fun i hi => if_pos hi
  have hn0 : ∀ i, w.heap.size ≤ i → o0 i = -9 := fun i hi => if_neg (by omega)
  have hR := hR.reown ha0
  obtain ⟨x, hx⟩ := getE (show idxN l < h.hh.length by rw [hR.hl]; exact hi)
  refine cl_of ok60 (indexP hfl) fun e w1 ⟨he, k1⟩ => ⟨_, he, ?_⟩
  have self4 : ∀ {V : World} {o1 : Nat → Int} {h1 : Hs} {S1 : WS} {ex1 : Nat → Prop}, Rp ex1 V b o1 h1 S1 → ∀ {K : Option Addr → Nat → Nat → Prop}, K h1.oo.1 h1.oo.2.1 h1.oo.2.2 → ldC V ((⟨b, 0, none⟩ : Addr).add 4) K := fun {V o1 h1 S1 ex1} hRV {K} hK => by
    rw [add_mk]
    exact ldC_of (x := h1.oo.1) (n := h1.oo.2.1) (c := h1.oo.2.2) (hRV.self.cell 4) hK
  have hR1 := hR.keep0 k1
  rw [eix]
  refine nn_of (self4 hR1 (hR1.outAt hx fun a ha => ldC_of (x := x.1) (n := x.2.1) (c := x.2.2) ha ?_))
  have hOx := hR1.inn _ x ids hx hids (fun h => h)
  have hxl := pts_len hOx
  refine cl_of ok61 (clone61 hOx hlen) fun e w2 ⟨q, qd, he, hQ, hqn, k2⟩ => ⟨q, _, qd, he, ?_⟩
  have k02 := k1.then0 k2
  have hR2 := hR1.keep0 k2
  refine nn_of (self4 hR2 (hR2.outAt hx fun a ha => ldC_of (x := x.1) (n := x.2.1) (c := x.2.2) ha ?_))
  have hOx2 := hR2.inn _ x ids hx hids (fun h => h)
  refine clearP hOx2 fun w3 hSt k3 => ?_
  have hxo := hR2.innO _ x hx
  have k3' : Keep (fun j => (fun t : Int => t = idxN l) (o0 j)) w2 w3 := k3.mono fun j _ hj => (hxo j hj).1
  have ni : ∀ {t : Int}, t < 0 → ¬ t = ((idxN l : Nat) : Int) := fun h hh => by omega
  have hqo : ∀ j, ob q j → o0 j = -9 := fun j hj => hn0 j (by have := hqn j hj; have := k1.size; omega)
  have hQ3 : Own w3 74 1 q x.2.1 qd (ids.map Pt) := hQ.keep k3' fun j hj hh => by have := hqo j hj; have hh' : o0 j = idxN l := hh; omega
  have hR3 : Rp (fun j => j = idxN l) w3 b o0 h S := ⟨Rp.selfK (T := fun t => t = idxN l) hR2 k3' (ni (by decide)), hR2.selfO, Rp.own (T := fun t => t = idxN l) hR2.va hR2.vaO k3' (ni (by decide)), hR2.vaO, Rp.own (T := fun t => t = idxN l) hR2.tr hR2.trO k3' (ni (by decide)), hR2.trO,
    Rp.own (T := fun t => t = idxN l) hR2.st hR2.stO k3' (ni (by decide)), hR2.stO, Rp.own (T := fun t => t = idxN l) hR2.out hR2.outO k3' (ni (by decide)), hR2.outO, hR2.hl, hR2.ll, (fun j y ids' hy hj hnj => (hR2.inn j y ids' hy hj fun h => h).keep k3' fun t ht hh => by
      have := (hR2.innO j y hy t ht).1
      have hh' : o0 t = idxN l := hh
      exact hnj (by omega)), hR2.innOK k3',
    Rp.own (T := fun t => t = idxN l) hR2.lo hR2.loO k3' (ni (by decide)), hR2.loO, Rp.helK (T := fun t => t = idxN l) hR2 k3' (ni (by decide)) (ni (by decide))⟩
  have k03 : Keep (fun i => tMine (o0 i)) w w3 := (Keep.none k02).trans k3' fun j _ hh => by have hh' : o0 j = idxN l := hh; show o0 j ≠ -9; omega
  refine nn_of (self4 hR3 (hR3.outAt hx fun a ha => ldC_of (x := x.1) (n := x.2.1) (c := x.2.2) ha ⟨by omega, by omega, ?_⟩))
  have esl : slA x.1 x.2.2 0 1 = x.1 := Lits.slA_zero _ _ _
  rw [esl]
  refine lp_of (fun s W => ∃ (i : Nat) (S1 : WS) (st : List Nat) (o1 : Nat → Int) (h1 : Hs), s.2.2.1 = (i : Int) ∧ i ≤ ids.length ∧ P (ids.drop i) S1 st s.2.1 ∧ S1.nv = S.nv ∧ Rp (fun j => j = idxN l) W b o1 h1 S1 ∧ Own W 74 1 s.1.1 s.1.2.1 s.1.2.2 (st.map Pt) ∧ (∀ j, ob s.1.1 j → o1 j = idxN l) ∧
      Own W 74 1 q x.2.1 qd (ids.map Pt) ∧ (∀ j, ob q j → o1 j = -9) ∧ Ag w o0 o1 ∧ Keep (fun i => tMine (o0 i)) w W) (fun s _ => (ids.length - s.2.2.1).toNat)
    ⟨0, S, [], o0, h, rfl, Nat.zero_le _, h0, rfl, hR3, hSt, (fun j hj => (hxo j hj).1), hQ3, hqo, Ag.refl _ _, k03⟩ ?_
  rintro ⟨⟨sp, sn, sc⟩, ok, i', ⟨⟩⟩ W ⟨i, S1, st, o1, h1, rfl, hii, hPi, hnv1, hRi, hSt, hsto, hQi, hqoi, hai, kWi⟩
  simp only [] at hPi hSt hsto ⊢
  obtain ⟨wf1, hstl⟩ := hP.wf hPi
  have hstn := pts_len hSt
  refine pif_of (fun hlt => ?_) fun hge => ?_
  · have hlt : i < ids.length := by have : (i : Int) < (x.2.1 : Int) := by simpa using hlt
                                    omega
    rw [wrap_nat i (by omega)]
    obtain ⟨hb, hhb⟩ := getE hlt
    have edr : ids.drop i = hb :: ids.drop (i + 1) := by
      obtain ⟨hx1, hx2⟩ := List.getElem?_eq_some_iff.1 hhb
      rw [List.drop_eq_getElem_cons hx1, hx2]
    rw [edr] at hPi
    obtain ⟨L, u, v, hH, huL, hvL⟩ := hP.att hPi
    obtain ⟨hLw, hLn, hLl⟩ := wf1.hel hb L u v hH
    have hl1 : Wi S1.nv l := by rw [hnv1]; exact hl
    refine ⟨fun s W' => ∃ (S2 : WS) (st2 : List Nat) (o2 : Nat → Int) (h2 : Hs), P (ids.drop (i + 1)) S2 st2 s.2.1 ∧ S2.nv = S.nv ∧ Rp (fun j => j = idxN l) W' b o2 h2 S2 ∧ Own W' 74 1 s.1.1 s.1.2.1 s.1.2.2 (st2.map Pt) ∧ (∀ j, ob s.1.1 j → o2 j = idxN l) ∧
      Own W' 74 1 q x.2.1 qd (ids.map Pt) ∧ (∀ j, ob q j → o2 j = -9) ∧ Ag w o0 o2 ∧ Keep (fun i => tMine (o0 i)) w W', ?_, ?_⟩
    rotate_left
    · rintro ⟨⟨p', n', c'⟩, ok', ⟨⟩⟩ W' ⟨S2, st2, o2, h2, q1, q2, q3, q4, q5, q6, q7, q8, q9⟩
      exact ⟨⟨i + 1, S2, st2, o2, h2, rfl, hlt, q1, q2, q3, q4, q5, q6, q7, q8, q9⟩, by omega⟩
    have hQe := hQi.len
    refine hQi.ix (by omega) (by omega) fun bq hbq => ?_
    have hQi' := hQi
    rw [hbq] at hQi'
    refine ldP_of (x := some ⟨hb, 0, none⟩) (by rw [hQi'.cell _ (by omega), Int.toNat_natCast, Nat.mul_one, List.getElem?_map, hhb]; rfl) ?_
    -- h stays
    have stay : ∀ (W5 : World), Keep None W W5 → ∀ {K : Option Addr → Nat → Nat → World → Prop},
        (∀ (g : Sl) (w' : World) (o2 : Nat → Int), Rp (fun j => j = idxN l) w' b o2 h1 S1 → Own w' 74 1 g.1 g.2.1 g.2.2 ((st ++ [hb]).map Pt) → (∀ j, ob g.1 j → o2 j = idxN l) → Own w' 74 1 q x.2.1 qd (ids.map Pt) → (∀ j, ob q j → o2 j = -9) → Ag w o0 o2 → Keep (fun i => tMine (o0 i)) w w' → K g.1 g.2.1 g.2.2 w') →
        alc W5 [Pt hb] 74 fun b43 w8 => ∃ (x44 : Option Addr) (x44n x44c : Nat), ∃ w9 : World, (Builtin.append_ #[62, 62] 62 #[.slice sp sn sc, .slice (some (⟨b43, 0, none⟩ : Addr)) 1 1]).run Try.prog w8 = .ok (.slice x44 x44n x44c) w9 ∧ K x44 x44n x44c w9 := by
      intro W5 kW5 K hK
      refine alc_at fun bb w8 hbb hB k8 => ?_
      have k58 := kW5.then0 k8
      have hSt8 := hSt.keep0 k58
      have hR8 := hRi.keep0 k58
      have hQ8 := hQi.keep0 k58
      refine app_of2 (e := 74) (sz := 1) (z := .pointer none) (B := 8) Try.underlying62 (by kernel_rfl) rfl (by omega) hSt8 hB.news1 (fun u hu => ?_) (by simp only [maxLen]; omega) (by omega) fun p' c' w' hO' hd => ?_
      · simp only [List.mem_singleton] at hu; subst hu; rfl
      have key : ∃ o2 : Nat → Int, Ag w8 o1 o2 ∧ (∀ j, ob p' j → o2 j = idxN l) ∧ Keep (fun j => o1 j = idxN l) w8 w' := by
        rcases hd with ⟨e, _, _, kk⟩ | ⟨e, kk⟩
        · exact ⟨o1, Ag.refl _ _, fun j hj => hsto j (by rw [e] at hj; exact hj), kk.mono fun j _ hj => hsto j hj⟩
        · exact ⟨fun j => if j < w8.heap.size then o1 j else idxN l, fun j hj => if_pos hj, fun j hj => if_neg (by have := e j hj; omega), kk.none⟩
      obtain ⟨o2, ha2, hg2, kk⟩ := key
      have hR8' := hR8.reown ha2
      have kk' : Keep (fun j => (fun t : Int => t = idxN l) (o2 j)) w8 w' := kk.mono fun j hj hh => by show o2 j = idxN l; rw [ha2 j hj]; exact hh
      have z8 : w.heap.size ≤ w8.heap.size := Nat.le_trans kWi.size k58.size
      refine hK (p', sn + 1, c') w' o2 ⟨Rp.selfK (T := fun t => t = idxN l) hR8' kk' (ni (by decide)), hR8'.selfO, Rp.own (T := fun t => t = idxN l) hR8'.va hR8'.vaO kk' (ni (by decide)), hR8'.vaO, Rp.own (T := fun t => t = idxN l) hR8'.tr hR8'.trO kk' (ni (by decide)), hR8'.trO,
        Rp.own (T := fun t => t = idxN l) hR8'.st hR8'.stO kk' (ni (by decide)), hR8'.stO, Rp.own (T := fun t => t = idxN l) hR8'.out hR8'.outO kk' (ni (by decide)), hR8'.outO, hR8'.hl, hR8'.ll, (fun j y ids' hy hj hnj => (hR8'.inn j y ids' hy hj hnj).keep kk' fun t ht hh => by
          have := (hR8'.innO j y hy t ht).1
          have hh' : o2 t = idxN l := hh
          exact hnj (by omega)), hR8'.innOK kk',
        Rp.own (T := fun t => t = idxN l) hR8'.lo hR8'.loO kk' (ni (by decide)), hR8'.loO, Rp.helK (T := fun t => t = idxN l) hR8' kk' (ni (by decide)) (ni (by decide))⟩ (by rw [List.map_append]; exact hO') hg2 ?_ ?_ ?_ ?_
      · exact hQ8.keep kk fun j hj hh => by have := hqoi j hj; omega
      · exact fun j hj => by rw [ha2 j (hQ8.lt j hj)]; exact hqoi j hj
      · exact hai.trans ha2 z8
      · exact (kWi.then0 k58).trans kk fun j hj hh => by
          have := hai j hj
          show o0 j ≠ -9
          rw [← this]; omega
    cases ok with
    | false =>
      refine gd_f rfl (pif_f rfl ?_)
      refine stay W (Keep.refl _ _) fun g w' o2 q3 q4 q5 q6 q7 q8 q9 => ?_
      exact pif_t rfl ⟨S1, st ++ [hb], o2, h1, hP.skip hPi, hnv1, q3, q4, q5, q6, q7, q8, q9⟩
    | true =>
      have huv : Wi S1.nv u ∧ Wi S1.nv v := ⟨hLw u huL, hLw v hvL⟩
      refine gd_t rfl (cl_of ok62 (moved62 hRi wf1.cons wf1.nvb hH hLw hLl hl1 huv (fun i hi => hi) (fun i ids hne hh => (wf1.lsl i ids (by show (S1.ls.set (idxN l) [])[i]? = _; rw [List.getElem?_set_ne (fun e => hne e.symm)]; exact hh)).1)) fun e w6 ⟨r, he, hMv⟩ => ?_)
      rcases hMv with ⟨rfl, k6, hcase⟩ | ⟨rfl, hot, y, hyL, hyo, hyl, hyv, hNx⟩
      · refine ⟨_, he, pif_f rfl ?_⟩
        refine stay w6 k6 fun g w9 o2 q3 q4 q5 q6 q7 q8 q9 => pif_f rfl (nn_of ?_)
        obtain ⟨_, lp, ln, lc, hB9, _, _⟩ := q3.hel hb L u v hH
        have at0 : ∀ {j : Nat} {y : Int}, j < 2 → ([.slice lp ln lc, I u, I v] : List Value)[1 + j]? = some (I y) → ∀ {K : Int → Prop}, K y → ixA (some ((⟨hb, 0, none⟩ : Addr).add 1)) 2 (j : Int) 1 fun p => ldI .i64 w9 p K := fun {j y} hj hy {K} hK => by
          rw [add_mk]
          refine ixA_of (by omega) (by omega) ?_
          rw [Int.toNat_natCast, Nat.mul_one]
          exact ldI_of (by rw [hB9.cell]; simpa using hy) hK
        refine at0 (j := 0) (y := u) (by omega) rfl ?_
        have hwo : Wi S1.nv (othr u v l) := by unfold othr; split; exact huv.2; exact huv.1
        refine ⟨fun s W' => s.1 = othr u v l ∧ W' = w9, ?_, ?_⟩
        · refine pif_of (fun hq => ?_) fun hq => ?_
          · have hq : u = l := by simpa using hq
            refine nn_of (at0 (j := 1) (y := v) (by omega) rfl ⟨?_, by first | rfl | trivial⟩)
            unfold othr; rw [if_pos hq]
          · have hq : ¬ u = l := by simpa using hq
            exact ⟨by unfold othr; rw [if_neg hq], by first | rfl | trivial⟩
        rintro ⟨ot, ⟨⟩⟩ W10 ⟨rfl, rfl⟩
        simp only []
        refine cl_of ok26 (of26 q3 wf1.cons wf1.nvb hwo) fun e w11 ⟨he, k11⟩ => ⟨_, he, ?_⟩
        rcases hcase with hc1 | ⟨hc1, hall⟩
        · rw [hc1]
          exact pif_f rfl (pif_f rfl ⟨S1, st ++ [hb], o2, h1, hP.one hPi hH hc1, hnv1, q3.keep0 k11, q4.keep0 k11, q5, q6.keep0 k11, q7, q8, q9.then0 k11⟩)
        · rcases lv_cases S1.tr (othr u v l) with h2 | h2 | h2
          · exact absurd h2 hc1
          · rw [h2]
            exact pif_t rfl ⟨S1, st ++ [hb], o2, h1, hP.bad hPi hH h2 hall, hnv1, q3.keep0 k11, q4.keep0 k11, q5, q6.keep0 k11, q7, q8, q9.then0 k11⟩
          · rw [h2]
            refine pif_f rfl (pif_t rfl ?_)
            refine cl_of ok27 (put27 (q3.keep0 k11) wf1.nvb wf1.trl hwo h2) fun e w12 ⟨he, o3, h3, hR12, ha3, k12⟩ => ⟨he, ?_⟩
            have q4' := q4.keep0 k11
            have q6' := q6.keep0 k11
            have np : ∀ {t : Int}, (0 ≤ t ∨ t = -9) → ¬ tPut t := fun h hh => by rcases hh with hh | hh | hh <;> omega
            exact ⟨_, st ++ [hb], o3, h3, hP.put hPi hH h2 hall, hnv1, hR12, Rp.own (T := tPut) q4' q5 k12 (np (Or.inl (by omega))), (fun j hj => by rw [ha3 j (q4'.lt j hj)]; exact q5 j hj), Rp.own (T := tPut) q6' q7 k12 (np (Or.inr rfl)), (fun j hj => by rw [ha3 j (q6'.lt j hj)]; exact q7 j hj),
              q8.trans ha3 (q9.then0 k11).size, (q9.then0 k11).trans k12 fun j hj hh => by
                have := q8 j hj
                have hh' : tPut (o2 j) := hh
                show o0 j ≠ -9
                rw [← this]; rcases hh' with hh' | hh' | hh' <;> omega⟩
      · obtain ⟨o2, h2, hR6, ha2, k6⟩ := hNx
        refine ⟨_, he, pif_t rfl ?_⟩
        have nm : ∀ {t : Int}, (t = idxN l ∨ t = -9) → ¬ tMov (idxN l) t := fun h hh => by
          rcases hh with hh | hh | ⟨hh, hh2⟩
          · omega
          · omega
          · rcases h with h | h
            · exact hh2 h
            · omega
        exact ⟨_, st, o2, h2, hP.mv hPi hH hot hyL hyo hyl hyv, hnv1, hR6, Rp.own (T := tMov (idxN l)) hSt hsto k6 (nm (Or.inl rfl)), (fun j hj => by rw [ha2 j (hSt.lt j hj)]; exact hsto j hj), Rp.own (T := tMov (idxN l)) hQi hqoi k6 (nm (Or.inr rfl)), (fun j hj => by rw [ha2 j (hQi.lt j hj)]; exact hqoi j hj),
          hai.trans ha2 kWi.size, kWi.trans k6 fun j hj hh => by
            have := hai j hj
            have hh' : tMov (idxN l) (o1 j) := hh
            show o0 j ≠ -9
            rw [← this]; rcases hh' with hh' | hh' | ⟨hh', _⟩ <;> omega⟩
  · have hge : i = ids.length := by have : ¬ (i : Int) < (x.2.1 : Int) := by simpa using hge
                                    omega
    subst hge
    rw [List.drop_length] at hPi
    have hR' : Rp (fun j => noEx j ∨ j = idxN l) W b o1 h1 S1 := hRi.exMono fun j hj => Or.inr hj
    have := setOut (g := (sp, sn, sc)) (ids' := st) hR' (by rw [hnv1]; exact hi) hSt hsto (K := fun w13 => ∃ ok' S1 st, Value.bool ok = .bool ok' ∧ P [] S1 st ok' ∧ Nx tMine noEx w b o { S1 with ls := S1.ls.set (idxN l) st } w13) fun w' hRR kk => ⟨ok, S1, st, rfl, hPi, o1, _, hRR, fun j hj => (hai j hj).trans (ha0 j hj), ?_⟩
    · exact nn_of (self4 hRi this)
    · have k1' : Keep (fun i => tMine (o i)) w W := kWi.mono fun j hj hh => by show o j ≠ -9; rw [← ha0 j hj]; exact hh
      exact k1'.trans kk fun j hj hh => by
        have e1 := hai j hj
        have e2 := ha0 j hj
        have hh' : o1 j = -4 := hh
        show o j ≠ -9
        omega
end Go.Proofs.Ytjpblaenebodlaa.Wt

/- Watch, in plain: what follows from clauses; what holds of a Watch. -/
set_option linter.unusedVariables false
set_option linter.unusedSimpArgs false
set_option linter.unusedSectionVars false
set_option maxRecDepth 100000
namespace Go.Proofs.Ytjpblaenebodlaa.Wt
open Go Go.Proofs.Ytjpblaenebodlaa.Vc

/-- what follows from clauses and facts, one unit at a time -/
inductive Der (C : List (List Int)) (K : List Int) : Int → Prop
  | fact {l : Int} : l ∈ K → Der C K l
  | unit {c : List Int} {l : Int} : c ∈ C → l ∈ c → (∀ x ∈ c, x ≠ l → Der C K (-x)) → Der C K l
/-- a clause that is false -/
def Clash (C : List (List Int)) (K : List Int) : Prop := ∃ c ∈ C, ∀ x ∈ c, Der C K (-x)
def hIn (ls : List (List Nat)) (i h : Nat) : Prop := ∃ ids, ls[i]? = some ids ∧ h ∈ ids
/-- q's depth is not greater than p's -/
def Lq (st : List Nat) (p q : Nat) : Prop := ∀ s ∈ st, s ≤ q → s ≤ p
def cap : Nat := 8796093022208
/-- a Watch within a Run that began with hd0 gone through of sz0 literals; pend: watches that are not seen to yet -/
structure Iv (C : List (List Int)) (S : WS) (hd0 sz0 : Nat) (pend : Nat → Int → Prop) : Prop where
  wf : Wf S
  hdl : S.hd ≤ S.tr.length
  st0 : ∀ s ∈ S.st, s ≤ hd0
  hd0l : hd0 ≤ S.hd
  sz0g : hd0 ≤ sz0
  sz0l : sz0 ≤ S.tr.length
  w1 : ∀ (i h : Nat), hIn S.ls i h → ∃ L u v, S.H h = some (L, u, v) ∧ u ∈ L ∧ v ∈ L ∧ u ≠ v ∧ (i = idxN u ∨ i = idxN v) ∧ hIn S.ls (idxN u) h ∧ hIn S.ls (idxN v) h
  w3 : ∀ (i : Nat) (ids : List Nat), S.ls[i]? = some ids → ids.Nodup
  w4 : ∀ (i h : Nat) (L : List Int) (u v : Int), hIn S.ls i h → S.H h = some (L, u, v) → ∀ a b : Int, (a = u ∧ b = v ∨ a = v ∧ b = u) → ∀ p : Nat, S.tr[p]? = some (-a) → p < S.hd → pend h a ∨ ∃ q, S.tr[q]? = some b ∧ Lq S.st p q ∧ (p < hd0 → q < sz0)
  dm : ∃ dom : List Nat, dom.length ≤ C.length ∧ ∀ h, S.H h ≠ none → h ∈ dom
  cov : ∀ c ∈ C, (∃ x ∈ c, -x ∈ c) ∨ (∃ h L u v, S.H h = some (L, u, v) ∧ (∀ x, x ∈ L ↔ x ∈ c) ∧ (h ∈ S.lo ∨ hIn S.ls (idxN u) h)) ∨ ∃ x ∈ c, ∃ q, S.tr[q]? = some x ∧ (∀ s ∈ S.st, q < s) ∧ q < sz0
  src : ∀ (h : Nat) (L : List Int) (u v : Int), S.H h = some (L, u, v) → ∃ c ∈ C, ∀ x, x ∈ L ↔ x ∈ c
  cl : C.length ≤ cap
  lop : S.lo.Nodup ∧ ∀ h ∈ S.lo, ∀ i, ¬ hIn S.ls i h
theorem nodup_le {l dom : List Nat} (hn : l.Nodup) (hs : ∀ x ∈ l, x ∈ dom) : l.length ≤ dom.length := by
  induction l generalizing dom with
  | nil => simp
  | cons a l ih =>
    rw [List.nodup_cons] at hn
    have ha := hs a (by simp)
    have := ih (dom := dom.erase a) hn.2 fun x hx => (List.mem_erase_of_ne (fun (e : x = a) => hn.1 (e ▸ hx))).2 (hs x (by simp [hx]))
    rw [List.length_erase_of_mem ha] at this
    have hp : 0 < dom.length := List.length_pos_of_mem ha
    simp only [List.length_cons]
    omega
theorem tr_le {nv : Nat} {tr : List Int} (hc : Cons tr) (hn : tr.Nodup) (hw : ∀ l ∈ tr, Wi nv l) : tr.length ≤ nv := by
  have h1 : (tr.map Int.natAbs).Nodup := by
    rw [List.Nodup, List.pairwise_map]
    refine (List.Pairwise.and_mem.1 hn).imp ?_
    rintro a c ⟨ha, hc', hne⟩ he
    rcases (by omega : a = c ∨ a = -c) with e | e
    · exact hne e
    · exact hc c hc' (e ▸ ha)
  have := nodup_le (dom := (List.range nv).map (· + 1)) h1 fun x hx => by
    obtain ⟨l, hl, rfl⟩ := List.mem_map.1 hx
    obtain ⟨h0, ha, hb⟩ := hw l hl
    exact List.mem_map.2 ⟨l.natAbs - 1, List.mem_range.2 (by omega), by omega⟩
  simpa using this
theorem pos_uniq {tr : List Int} (hn : tr.Nodup) {p q : Nat} {x : Int} (hp : tr[p]? = some x) (hq : tr[q]? = some x) : p = q := by
  obtain ⟨hp1, hp2⟩ := List.getElem?_eq_some_iff.1 hp
  obtain ⟨hq1, hq2⟩ := List.getElem?_eq_some_iff.1 hq
  rcases Nat.lt_trichotomy p q with h | h | h
  · exact absurd (hp2.trans hq2.symm) ((List.pairwise_iff_getElem.1 hn) p q hp1 hq1 h)
  · exact h
  · exact absurd (hq2.trans hp2.symm) ((List.pairwise_iff_getElem.1 hn) q p hq1 hp1 h)
theorem hIn_set {ls : List (List Nat)} {i : Nat} {ids : List Nat} (hi : i < ls.length) (j h : Nat) : hIn (ls.set i ids) j h ↔ (j = i ∧ h ∈ ids) ∨ (j ≠ i ∧ hIn ls j h) := by
  unfold hIn
  by_cases hj : j = i
  · subst hj
    rw [List.getElem?_set_self hi]
    constructor
    · rintro ⟨a, ha, hm⟩; injection ha with ha; subst ha; exact Or.inl ⟨rfl, hm⟩
    · rintro (⟨_, hm⟩ | ⟨hne, _⟩)
      · exact ⟨_, rfl, hm⟩
      · exact absurd rfl hne
  · rw [List.getElem?_set_ne (fun e => hj e.symm)]
    constructor
    · rintro h'; exact Or.inr ⟨hj, h'⟩
    · rintro (⟨e, _⟩ | ⟨_, h'⟩)
      · exact absurd e hj
      · exact h'
theorem hIn_addW {ls : List (List Nat)} {i hb : Nat} (hi : i < ls.length) (j h : Nat) : hIn (addW ls i hb) j h ↔ hIn ls j h ∨ (j = i ∧ h = hb) := by
  have hids : ls[i]? = some ls[i] := List.getElem?_eq_getElem hi
  rw [addW_at hids, hIn_set hi]
  unfold hIn
  by_cases hj : j = i
  · subst hj
    rw [hids]
    constructor
    · rintro (⟨_, hm⟩ | ⟨hne, _⟩)
      · rcases List.mem_append.1 hm with hm | hm
        · exact Or.inl ⟨_, rfl, hm⟩
        · exact Or.inr ⟨rfl, List.mem_singleton.1 hm⟩
      · exact absurd rfl hne
    · rintro (⟨a, ha, hm⟩ | ⟨_, rfl⟩)
      · injection ha with ha; subst ha; exact Or.inl ⟨rfl, List.mem_append.2 (Or.inl hm)⟩
      · exact Or.inl ⟨rfl, by simp⟩
  · constructor
    · rintro (⟨e, _⟩ | ⟨_, h'⟩)
      · exact absurd e hj
      · exact Or.inl h'
    · rintro (h' | ⟨e, _⟩)
      · exact Or.inr ⟨hj, h'⟩
      · exact absurd e hj
theorem Der.mono {C : List (List Int)} {K K' : List Int} (h : ∀ x ∈ K, Der C K' x) {l : Int} (hd : Der C K l) : Der C K' l := by
  induction hd with
  | fact hl => exact h _ hl
  | unit hc hl _ ih => exact Der.unit hc hl ih
/-- at the end of a Run without a clash: what is known is all that follows, and nothing is false -/
theorem closed_all {C : List (List Int)} {K tr : List Int} (hK : ∀ x ∈ K, x ∈ tr) (hc : Cons tr) (hz : ∀ c ∈ C, ∀ x ∈ c, x ≠ 0)
    (hcl : ∀ c ∈ C, (∃ x ∈ c, -x ∈ c) ∨ (∃ x ∈ c, x ∈ tr) ∨ ∃ x ∈ c, ∃ y ∈ c, x ≠ y ∧ -x ∉ tr ∧ -y ∉ tr) : ∀ l, Der C K l → l ∈ tr := by
  intro l hd
  induction hd with
  | fact hl => exact hK _ hl
  | @unit c l hcC hl hu ih =>
    rcases hcl c hcC with ⟨x, hx, hnx⟩ | ⟨x, hx, hxt⟩ | ⟨x, hx, y, hy, hne, hnx, hny⟩
    · by_cases hxl : x = l
      · subst hxl
        have h0 : -x ≠ x := fun e => hz c hcC x hx (by omega)
        have := ih (-x) hnx h0
        rwa [Int.neg_neg] at this
      · by_cases hnl : -x = l
        · have := ih x hx hxl
          rwa [hnl] at this
        · have h1 := ih x hx hxl
          have h2 := ih (-x) hnx hnl
          rw [Int.neg_neg] at h2
          exact absurd h1 (hc x h2)
    · by_cases hxl : x = l
      · exact hxl ▸ hxt
      · exact absurd (ih x hx hxl) (hc x hxt)
    · by_cases hxl : x = l
      · exact absurd (ih y hy (fun e => hne (hxl.trans e.symm))) hny
      · exact absurd (ih x hx hxl) hnx
end Go.Proofs.Ytjpblaenebodlaa.Wt
