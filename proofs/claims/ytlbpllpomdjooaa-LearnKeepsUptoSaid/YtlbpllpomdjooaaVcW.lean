/- Maps from ints to ints whose entries' stamps are known: walked over, updated, an entry deleted. -/
import Derived.Test.YtlbpllpomdjooaaVcM
import Derived.Maps.RangeRun
set_option linter.unusedVariables false
set_option linter.unusedSimpArgs false
namespace Go.Proofs.Ytlbpllpomdjooaa.Vc
open Go

def dec (e : MapEntry) : Int × Int := match e.key, e.val with | .int _ a, .int _ b => (a, b) | _, _ => (0, 0)
def Kv (e : MapEntry) : Prop := e.key = .int .i64 (dec e).1 ∧ e.val = .int .i64 (dec e).2
theorem kv_of {e : MapEntry} {a b : Int} (h1 : e.key = .int .i64 a) (h2 : e.val = .int .i64 b) : Kv e ∧ dec e = (a, b) := by
  have : dec e = (a, b) := by unfold dec; rw [h1, h2]
  exact ⟨by unfold Kv; rw [this]; exact ⟨h1, h2⟩, this⟩
structure Es (es : Array MapEntry) (clock : Nat) (f : List (Int × Int)) : Prop where
  kv : ∀ e ∈ es.toList, Kv e
  eq : f = es.toList.map dec
  lt : ∀ e ∈ es.toList, e.born < clock
  nd : (es.toList.map fun e : MapEntry => e.born).Nodup
def Ms (w : World) (r : Nat) (f : List (Int × Int)) : Prop := ∃ es clock, w.heap[r]? = some (.map es clock) ∧ Es es clock f
theorem Es.mp {es : Array MapEntry} {clock : Nat} {f : List (Int × Int)} (h : Es es clock f) : es.toList.map (fun e => (e.key, e.val)) = f.map fun p => ((.int .i64 p.1 : Value), (.int .i64 p.2 : Value)) := by
  rw [h.eq, List.map_map]
  exact List.map_congr_left fun e he => by
    have := h.kv e he
    show (e.key, e.val) = (.int .i64 (dec e).1, .int .i64 (dec e).2)
    rw [← this.1, ← this.2]
theorem Ms.mp {w : World} {r : Nat} {f : List (Int × Int)} (h : Ms w r f) : Mp w r f := by
  obtain ⟨es, clock, hb, he⟩ := h
  exact ⟨es, clock, hb, he.mp⟩
theorem Ms.keep {S : Nat → Prop} {w w' : World} {r : Nat} {f : List (Int × Int)} (h : Ms w r f) (hk : Keep S w w') (hs : ¬ S r) : Ms w' r f := by
  obtain ⟨es, clock, hb, he⟩ := h
  exact ⟨es, clock, by rw [hk.block r (Array.getElem?_eq_some_iff.1 hb).1 hs]; exact hb, he⟩
theorem Ms.keep0 {w w' : World} {r : Nat} {f : List (Int × Int)} (h : Ms w r f) (hk : Keep None w w') : Ms w' r f := h.keep hk fun h => h
theorem Ms.lt {w : World} {r : Nat} {f : List (Int × Int)} (h : Ms w r f) : r < w.heap.size := h.mp.lt
theorem mkmapS_of {P : Program} {t : TypeId} {w : World} {K : Option Nat → World → Prop} (hk : ∀ r w', r = w.heap.size → Ms w' r [] → Keep None w w' → K (some r) w') :
    ∃ x : Option Nat, ∃ w1 : World, (Instr.makeMap t none).run P w = .ok (.map x) w1 ∧ K x w1 :=
  ⟨some w.heap.size, w.alloc (.map #[] 0), by simp [Instr.makeMap], hk _ _ rfl ⟨#[], 0, (MapKept.heap_alloc w _).1, ⟨fun e h => by simp at h, rfl, fun e h => by simp at h, by simp⟩⟩ ((Keep.refl _ w).alloc _)⟩

theorem perm_out {e : MapEntry} : ∀ {L : List MapEntry}, (L.map fun e : MapEntry => e.born).Nodup → e ∈ L → L.Perm (e :: L.filter fun x => x.born != e.born) := by
  intro L
  induction L with
  | nil => intro _ h; cases h
  | cons a t ih =>
    intro hn he
    rw [List.map_cons, List.nodup_cons] at hn
    by_cases hb : a.born = e.born
    · have hno : e ∉ t := fun h => hn.1 (by rw [hb]; exact List.mem_map.2 ⟨e, h, rfl⟩)
      have hae : a = e := by
        rcases List.mem_cons.1 he with h | h
        · exact h.symm
        · exact absurd h hno
      subst hae
      have : (a :: t).filter (fun x => x.born != a.born) = t := by
        rw [List.filter_cons_of_neg (by simp), List.filter_eq_self]
        intro x hx
        have : x.born ≠ a.born := fun h => hn.1 (by rw [← h]; exact List.mem_map.2 ⟨x, hx, rfl⟩)
        simpa using this
      rw [this]
    · have het : e ∈ t := by
        rcases List.mem_cons.1 he with h | h
        · exact absurd (by rw [h]) hb
        · exact h
      rw [List.filter_cons_of_pos (by simpa using hb)]
      exact ((ih hn.2 het).cons a).trans (List.Perm.swap _ _ _)
/-- a walk under way: what is to come -/
def It (w : World) (q r : Nat) (f todo : List (Int × Int)) : Prop :=
  ∃ es clock seen, w.heap[r]? = some (.map es clock) ∧ Es es clock f ∧ w.heap[q]? = some (.mapIter (some r) clock seen clock) ∧ todo = (leftOf es seen).toList.map dec
theorem It.ms {w : World} {q r : Nat} {f todo : List (Int × Int)} (h : It w q r f todo) : Ms w r f := by
  obtain ⟨es, clock, seen, hb, he, _⟩ := h
  exact ⟨es, clock, hb, he⟩
theorem It.lt {w : World} {q r : Nat} {f todo : List (Int × Int)} (h : It w q r f todo) : q < w.heap.size := by
  obtain ⟨es, clock, seen, hb, he, hq, _⟩ := h
  exact (Array.getElem?_eq_some_iff.1 hq).1
theorem It.keep {S : Nat → Prop} {w w' : World} {q r : Nat} {f todo : List (Int × Int)} (h : It w q r f todo) (hk : Keep S w w') (hq : ¬ S q) (hr : ¬ S r) : It w' q r f todo := by
  obtain ⟨es, clock, seen, hb, he, hi, ht⟩ := h
  exact ⟨es, clock, seen, by rw [hk.block r (Array.getElem?_eq_some_iff.1 hb).1 hr]; exact hb, he, by rw [hk.block q (Array.getElem?_eq_some_iff.1 hi).1 hq]; exact hi, ht⟩
theorem It.keep0 {w w' : World} {q r : Nat} {f todo : List (Int × Int)} (h : It w q r f todo) (hk : Keep None w w') : It w' q r f todo := h.keep hk (fun h => h) fun h => h
section
variable {P : Program} {mty kt et : TypeId} {w : World} {r q : Nat} {f todo : List (Int × Int)}
theorem range_of {K : Addr → World → Prop} (hm : P.underlying mty = some (.map kt et)) (h : Ms w r f) (hk : ∀ q w', q = w.heap.size → It w' q r f f → Keep None w w' → K ⟨q, 0, none⟩ w') :
    ∃ (a : Addr) (w' : World), (Instr.range mty (.map (some r))).run P w = .ok (.pointer (some a)) w' ∧ K a w' := by
  obtain ⟨es, clock, hb, he⟩ := h
  have hlt := (Array.getElem?_eq_some_iff.1 hb).1
  refine ⟨_, _, run_range_map w mty kt et r es clock hm hb, hk _ _ rfl ⟨es, clock, #[], ?_, he, (MapKept.heap_alloc w _).1, ?_⟩ ((Keep.refl _ w).alloc _)⟩
  · exact ((MapKept.heap_alloc w _).2 r hlt).trans hb
  · rw [he.eq]
    have : (leftOf es #[]).toList = es.toList := by
      unfold leftOf
      rw [Array.toList_filter]
      exact List.filter_eq_self.2 fun x _ => by simp
    rw [this]
theorem next_of {ty : TypeId} {K : Bool → World → Prop} (h : It w q r f todo) (hqr : q ≠ r) (h0 : todo = [] → K false w)
    (h1 : ∀ p todo' w', p ∈ todo → todo.Perm (p :: todo') → It w' q r f todo' → Keep (One q) w w' → w'.heap.size = w.heap.size →
      (Instr.entry (.pointer (some ⟨q, 0, none⟩))).run P w' = .ok (.tuple #[.int .i64 p.1, .int .i64 p.2]) w' → K true w') :
    ∃ (b : Bool) (l : List Value) (w' : World), (Instr.next (.pointer (some ⟨q, 0, none⟩)) false ty).run P w = .ok (.tuple (.bool b :: l).toArray) w' ∧ K b w' := by
  obtain ⟨es, clock, seen, hb, he, hq, ht⟩ := h
  rcases run_next_at (P := P) w ty q r clock clock seen es clock hq hb he.lt (Nat.le_refl _) with ⟨hz, hrun⟩ | ⟨e, hel, w1, hal, hrun⟩
  · refine ⟨false, [], w, hrun, h0 ?_⟩
    rw [ht, Array.eq_empty_of_size_eq_zero hz]; rfl
  · have hem : e ∈ es.toList := by unfold leftOf at hel; simp at hel; simpa using hel.1
    have hkv := he.kv e hem
    have hb1 : w1.heap[r]? = some (.map es clock) := by rcases hal with rfl | rfl <;> exact hb
    have hq1 : w1.heap[q]? = some (.mapIter (some r) clock seen clock) := by rcases hal with rfl | rfl <;> exact hq
    have hqlt := (Array.getElem?_eq_some_iff.1 hq1).1
    have hrlt := (Array.getElem?_eq_some_iff.1 hb1).1
    have hbs : (Go.ChangeMaps.setBlock w1 q (.mapIter (some r) clock (seen.push e.born) clock)).heap[r]? = some (.map es clock) := by
      show (w1.heap.setIfInBounds q _)[r]? = _
      rw [Array.getElem?_setIfInBounds_ne hqr]; exact hb1
    have hqs : (Go.ChangeMaps.setBlock w1 q (.mapIter (some r) clock (seen.push e.born) clock)).heap[q]? = some (.mapIter (some r) clock (seen.push e.born) clock) := by
      show (w1.heap.setIfInBounds q _)[q]? = _
      rw [Array.getElem?_setIfInBounds_self_of_lt hqlt]
    have hent := run_entry_at (P := P) _ q r clock seen es clock e hqs hbs hem he.nd
    rw [hkv.1, hkv.2] at hrun hent
    have hw1 : Keep (One q) w w1 := by
      rcases hal with rfl | rfl
      · exact Keep.refl _ _
      · exact (Keep.refl _ w).drew
    have hsz : w1.heap.size = w.heap.size := by rcases hal with rfl | rfl <;> rfl
    refine ⟨true, [.int .i64 (dec e).1, .int .i64 (dec e).2], _, hrun, h1 (dec e) ((leftOf es (seen.push e.born)).toList.map dec) _ ?_ ?_ ⟨es, clock, seen.push e.born, hbs, he, hqs, rfl⟩ ?_ ?_ hent⟩
    · rw [ht]; exact List.mem_map.2 ⟨e, hel, rfl⟩
    · rw [ht]
      have hnl : ((leftOf es seen).toList.map fun e : MapEntry => e.born).Nodup := by
        unfold leftOf
        rw [Array.toList_filter]
        exact he.nd.sublist ((List.filter_sublist ..).map _)
      have hp := (perm_out hnl hel).map dec
      have e2 : (leftOf es (seen.push e.born)).toList = (leftOf es seen).toList.filter fun x => x.born != e.born := by
        unfold leftOf
        rw [Array.toList_filter, Array.toList_filter, List.filter_filter]
        congr 1
        funext x
        rw [Array.contains_push]
        cases seen.contains x.born <;> simp [bne]
      rw [e2]
      exact hp
    · refine hw1.trans (S' := One q) ⟨rfl, rfl, rfl, ?_, fun i hi hn => ?_⟩ fun i _ h => h
      · show w1.heap.size ≤ (w1.heap.setIfInBounds q _).size
        simp
      · show (w1.heap.setIfInBounds q _)[i]? = _
        rw [Array.getElem?_setIfInBounds_ne (fun e => hn e.symm)]
    · show (w1.heap.setIfInBounds q _).size = _
      simp [hsz]
theorem It.len {w : World} (h : It w q r f todo) : todo.length ≤ f.length := by
  obtain ⟨es, clock, seen, hb, he, hq, ht⟩ := h
  rw [ht, he.eq]
  unfold leftOf
  rw [Array.toList_filter]
  simp only [List.length_map]
  exact List.length_filter_le ..
theorem upS_of {K : World → Prop} {k v : Int} (hm : P.underlying mty = some (.map kt et)) (hd : P.underlying kt = some (.int .i64)) (h : Ms w r f) (hk : ∀ w', Ms w' r (mput k v f) → Keep (One r) w w' → w'.heap.size = w.heap.size → K w') :
    ∃ w' : World, (Instr.mapUpdate mty (.map (some r)) (.int .i64 k) (.int .i64 v)).run P w = .ok () w' ∧ K w' := by
  obtain ⟨es, clock, hb, hE⟩ := h
  have he := hE.mp
  have hkey : MapKept.IsKey (.int .i64) (.int .i64 k) := rfl
  have kp : ∀ o, Keep (One r) w { w with heap := w.heap.setIfInBounds r o } := fun o => ⟨rfl, rfl, rfl, by simp, fun i hi hn => (MapKept.heap_set hb).2 i hn⟩
  rcases findNow_int k es.toList f 0 he with ⟨h1, h2⟩ | ⟨h1, j, h2, e, h3, h4, h5⟩
  · refine ⟨{ w with heap := w.heap.setIfInBounds r (.map (es.push { key := .int .i64 k, val := .int .i64 v, born := clock }) (clock + 1)) }, ?_, hk _ ⟨_, _, (MapKept.heap_set hb).1, ?_⟩ (kp _) (by simp)⟩
    · simp [Instr.mapUpdate, run_underlying hm, MapKept.run_getObj_map hb, MapKept.run_checkKey hd hkey, MapKept.run_findKey hd h2, MapKept.run_setObj_map _ hb, Result.andThen]
    · have := mput_no (v := v) h1
      rw [this]
      refine ⟨fun x hx => ?_, ?_, fun x hx => ?_, ?_⟩
      · simp at hx
        rcases hx with hx | rfl
        · exact hE.kv x (by simpa using hx)
        · exact (kv_of rfl rfl).1
      · rw [hE.eq]; simp [dec]
      · simp at hx
        rcases hx with hx | rfl
        · have := hE.lt x (by simpa using hx); omega
        · exact Nat.lt_succ_self _
      · simp only [Array.toList_push, List.map_append, List.map_cons, List.map_nil]
        rw [List.nodup_append]
        refine ⟨hE.nd, by simp, fun a ha b hb => ?_⟩
        simp at hb
        subst hb
        obtain ⟨x, hx, rfl⟩ := List.mem_map.1 ha
        have := hE.lt x hx; omega
  · have hj : es[j]? = some e := by simpa using h3
    refine ⟨{ w with heap := w.heap.setIfInBounds r (.map (es.modify j fun e => { e with key := .int .i64 k, val := .int .i64 v }) clock) }, ?_, hk _ ⟨_, _, (MapKept.heap_set hb).1, ?_⟩ (kp _) (by simp)⟩
    · simp [Instr.mapUpdate, run_underlying hm, MapKept.run_getObj_map hb, MapKept.run_checkKey hd hkey, MapKept.run_findKey hd h2, hj, h4, MapKept.run_keyThatStays hkey, MapKept.run_setObj_map _ hb, Result.andThen]
    · have h5v := h5 v
      have mem : ∀ (l : List MapEntry) (j : Nat) (x : MapEntry), x ∈ l.modify j (fun e => { e with key := .int .i64 k, val := .int .i64 v }) → x ∈ l ∨ ∃ e ∈ l, x = { e with key := .int .i64 k, val := .int .i64 v } := by
        intro l
        induction l with
        | nil => intro j x hx; simp at hx
        | cons a l ih =>
          intro j x hx
          cases j with
          | zero =>
            simp only [List.modify_zero_cons, List.mem_cons] at hx
            rcases hx with rfl | hx
            · exact Or.inr ⟨a, by simp, rfl⟩
            · exact Or.inl (by simp [hx])
          | succ j =>
            simp only [List.modify_succ_cons, List.mem_cons] at hx
            rcases hx with rfl | hx
            · exact Or.inl (by simp)
            · rcases ih j x hx with h | ⟨e, he, rfl⟩
              · exact Or.inl (by simp [h])
              · exact Or.inr ⟨e, by simp [he], rfl⟩
      have born : ∀ (l : List MapEntry) (j : Nat), (l.modify j (fun e => { e with key := .int .i64 k, val := .int .i64 v })).map (fun e : MapEntry => e.born) = l.map fun e : MapEntry => e.born := by
        intro l
        induction l with
        | nil => intro j; simp
        | cons a l ih => intro j; cases j <;> simp [ih]
      have hkv : ∀ x ∈ (es.toList.modify j fun e => { e with key := .int .i64 k, val := .int .i64 v }), Kv x := fun x hx => by
        rcases mem _ _ _ hx with h | ⟨e, he, rfl⟩
        · exact hE.kv x h
        · exact (kv_of rfl rfl).1
      refine ⟨fun x hx => hkv x (by simpa using hx), ?_, fun x hx => ?_, ?_⟩
      · rw [Array.toList_modify]
        have h6 := congrArg (List.map fun p : Value × Value => (match p.1, p.2 with | .int _ a, .int _ b => (a, b) | _, _ => ((0 : Int), (0 : Int)))) h5v
        rw [List.map_map, List.map_map] at h6
        have e1 : (mput k v f).map ((fun p : Value × Value => (match p.1, p.2 with | .int _ a, .int _ b => (a, b) | _, _ => ((0 : Int), (0 : Int)))) ∘ fun p : Int × Int => ((.int .i64 p.1 : Value), (.int .i64 p.2 : Value))) = mput k v f := by
          conv => rhs; rw [← List.map_id (mput k v f)]
          exact List.map_congr_left fun p _ => rfl
        rw [e1] at h6
        rw [← h6]
        exact List.map_congr_left fun p _ => rfl
      · rw [Array.toList_modify] at hx
        rcases mem _ _ _ hx with h | ⟨e, he, rfl⟩
        · exact hE.lt x h
        · exact hE.lt e he
      · rw [Array.toList_modify, born]; exact hE.nd
def mdel (k : Int) : List (Int × Int) → List (Int × Int)
  | [] => []
  | p :: f => if p.1 = k then f else p :: mdel k f
theorem del_of {ty : TypeId} {K : World → Prop} {k : Int} (hm : P.underlying mty = some (.map kt et)) (hd : P.underlying kt = some (.int .i64)) (h : Ms w r f) (hk : ∀ w', Ms w' r (mdel k f) → Keep (One r) w w' → w'.heap.size = w.heap.size → K w') :
    ∃ w' : World, (Builtin.delete_ #[mty, kt] ty #[.map (some r), .int .i64 k]).run P w = .ok (.tuple #[]) w' ∧ K w' := by
  obtain ⟨es, clock, hb, hE⟩ := h
  have he := hE.mp
  have hkey : MapKept.IsKey (.int .i64) (.int .i64 k) := rfl
  have kp : ∀ o, Keep (One r) w { w with heap := w.heap.setIfInBounds r o } := fun o => ⟨rfl, rfl, rfl, by simp, fun i hi hn => (MapKept.heap_set hb).2 i hn⟩
  have dno : ∀ {f : List (Int × Int)}, mhas k f = false → mdel k f = f := by
    intro f
    induction f with
    | nil => intro _; rfl
    | cons p f ih =>
      intro h
      have h' : p.1 ≠ k ∧ mhas k f = false := by simpa [mhas] using h
      rw [mdel, if_neg h'.1, ih h'.2]
  have ers : ∀ (l : List MapEntry) (f : List (Int × Int)) (i j : Nat) (x : Nat × Value), f = l.map dec → (∀ e ∈ l, Kv e) → Instr.findNow (.int .i64) (.int .i64 k) l i = some (some x) → x.1 = i + j → mdel k f = (l.eraseIdx j).map dec := by
    intro l
    induction l with
    | nil => intro f i j x _ _ h; simp [Instr.findNow] at h
    | cons e l ih =>
      intro f i j x hf hkv h hx
      subst hf
      have hke := (hkv e (by simp)).1
      simp only [Instr.findNow] at h
      by_cases hp : (dec e).1 = k
      · have hs : Instr.sameNow (.int .i64) (.int .i64 k) e.key = some true := by rw [hke, hp]; simp [Instr.sameNow]
        rw [hs] at h
        simp at h
        subst h
        obtain rfl : j = 0 := by simp at hx; omega
        simp [mdel, hp]
      · have hs : Instr.sameNow (.int .i64) (.int .i64 k) e.key = some false := by rw [hke]; simp [Instr.sameNow]; exact fun e => hp e.symm
        rw [hs] at h
        have hge : ∀ (l : List MapEntry) (i : Nat), Instr.findNow (.int .i64) (.int .i64 k) l i = some (some x) → i ≤ x.1 := by
          intro l
          induction l with
          | nil => intro i h; simp [Instr.findNow] at h
          | cons e l ih =>
            intro i h
            simp only [Instr.findNow] at h
            split at h
            · simp at h; rw [← h]; exact Nat.le_refl _
            · have := ih (i + 1) h; omega
            · cases h
        have := hge l (i + 1) h
        obtain ⟨j', rfl⟩ : ∃ j', j = j' + 1 := ⟨j - 1, by omega⟩
        have := ih (l.map dec) (i + 1) j' x rfl (fun e he => hkv e (by simp [he])) h (by omega)
        simp [mdel, hp, this]
  rcases findNow_int k es.toList f 0 he with ⟨h1, h2⟩ | ⟨h1, j, h2, e, h3, h4, h5⟩
  · refine ⟨{ w with heap := w.heap.setIfInBounds r (.map es clock) }, ?_, hk _ ⟨es, clock, (MapKept.heap_set hb).1, by rw [dno h1]; exact hE⟩ (kp _) (by simp)⟩
    simp [Builtin.delete_, run_underlying hm, MapKept.run_getObj_map hb, MapKept.run_checkKey hd hkey, MapKept.run_findKey hd h2, MapKept.run_setObj_map _ hb, Result.andThen]
  · refine ⟨{ w with heap := w.heap.setIfInBounds r (.map (es.eraseIdxIfInBounds j) clock) }, ?_, hk _ ⟨_, _, (MapKept.heap_set hb).1, ?_⟩ (kp _) (by simp)⟩
    · simp [Builtin.delete_, run_underlying hm, MapKept.run_getObj_map hb, MapKept.run_checkKey hd hkey, MapKept.run_findKey hd h2, MapKept.run_setObj_map _ hb, Result.andThen]
    · have hsub : (es.eraseIdxIfInBounds j).toList = es.toList.eraseIdx j := by
        rw [Array.eraseIdxIfInBounds]
        split
        · rw [Array.toList_eraseIdx]
        · rename_i hn
          rw [List.eraseIdx_of_length_le (by simpa using hn)]
      have hsl : (es.toList.eraseIdx j).Sublist es.toList := List.eraseIdx_sublist ..
      refine ⟨fun x hx => hE.kv x (hsl.subset (by rwa [hsub] at hx)), ?_, fun x hx => hE.lt x (hsl.subset (by rwa [hsub] at hx)), by rw [hsub]; exact hE.nd.sublist (hsl.map _)⟩
      rw [hsub]
      exact ers es.toList f 0 j _ hE.eq hE.kv h2 (by simp)
end
/-- how many entries are to come -/
def leftM (w : World) (r q : Nat) : Nat := match w.heap[r]?, w.heap[q]? with
  | some (.map es _), some (.mapIter _ _ seen _) => (leftOf es seen).size
  | _, _ => 0
theorem It.left {w : World} {q r : Nat} {f todo : List (Int × Int)} (h : It w q r f todo) : leftM w r q = todo.length := by
  obtain ⟨es, clock, seen, hb, he, hq, ht⟩ := h
  unfold leftM
  rw [hb, hq, ht]
  simp
theorem It.ne {w : World} {q r : Nat} {f todo : List (Int × Int)} (h : It w q r f todo) : q ≠ r := by
  obtain ⟨es, clock, seen, hb, he, hq, ht⟩ := h
  rintro rfl
  rw [hb] at hq; cases hq
/-- ints all within a range, none twice -/
theorem pigeon (a : Int) : ∀ (k : Nat) (L : List Int), L.Nodup → (∀ x ∈ L, a ≤ x ∧ x < a + k) → L.length ≤ k := by
  intro k
  induction k with
  | zero =>
    intro L _ h
    cases L with
    | nil => exact Nat.le_refl _
    | cons x t => have := h x (by simp); omega
  | succ k ih =>
    intro L hn h
    by_cases hm : a + k ∈ L
    · have h1 := ih (L.erase (a + k)) (hn.erase _) fun x hx => by
        have h2 := (hn.mem_erase_iff).1 hx
        have := h x h2.2
        have := h2.1
        omega
      rw [List.length_erase_of_mem hm] at h1
      omega
    · have h1 := ih L hn fun x hx => by
        have := h x hx
        have : x ≠ a + k := fun e => hm (e ▸ hx)
        omega
      omega
end Go.Proofs.Ytlbpllpomdjooaa.Vc
