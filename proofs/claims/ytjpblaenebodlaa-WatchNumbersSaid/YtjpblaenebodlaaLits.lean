/- Lists of literals: Tidy, by sorting and by merging; what is joined and taken out. -/
import Derived.Test.YtjpblaenebodlaaCopy
import Derived.Test.YtjpblaenebodlaaSort4
import Derived.Test.YtjpblaenebodlaaTLits
import Derived.Lib.SliceRun
set_option linter.unusedVariables false
set_option linter.unusedSimpArgs false
set_option maxRecDepth 100000
namespace Go.Proofs.Ytjpblaenebodlaa.Lits
open Go Go.Proofs.Ytjpblaenebodlaa.Vc Go.Proofs.Ytjpblaenebodlaa.T
open Go.Proofs.Ytjpblaenebodlaa.Apart (RdL own_rdl wrap_nat getE own_len take_snoc New Gro)

abbrev J (n : Int) : Value := .int .i64 n
def fl (l : Int) : Bool := decide (l ≠ 0) && (decide (-1048576 ≤ l) && decide (l ≤ 1048576))
theorem fl_iff {l : Int} : fl l = true ↔ l ≠ 0 ∧ -1048576 ≤ l ∧ l ≤ 1048576 := by
  unfold fl
  simp only [Bool.and_eq_true, decide_eq_true_eq]
def idx (l : Int) : Int := if l < 0 then -2 * l - 1 else 2 * l - 2
theorem idx_inj {a b : Int} (ha : fl a = true) (hb : fl b = true) (h : idx a = idx b) : a = b := by
  have := fl_iff.1 ha
  have := fl_iff.1 hb
  unfold idx at h
  split at h <;> split at h <;> omega
theorem idx_range {a : Int} (ha : fl a = true) : 0 ≤ idx a ∧ idx a ≤ 2097152 := by
  have := fl_iff.1 ha
  unfold idx
  split <;> omega
def Srt (L : List Int) : Prop := L.Pairwise fun a b => idx a < idx b
structure Td (M : Int → Prop) (L : List Int) : Prop where
  srt : Srt L
  mem : ∀ x, x ∈ L ↔ M x ∧ fl x = true
theorem srt_uniq : ∀ {L L' : List Int}, Srt L → Srt L' → (∀ x ∈ L, fl x = true) → (∀ x, x ∈ L ↔ x ∈ L') → L = L' := by
  intro L
  induction L with
  | nil =>
    intro L' _ _ _ h
    cases L' with
    | nil => rfl
    | cons b s => have := (h b).2 (by simp); cases this
  | cons a t ih =>
    intro L' h1 h2 hf h
    cases L' with
    | nil => have := (h a).1 (by simp); cases this
    | cons b s =>
      have h1' := List.pairwise_cons.1 h1
      have h2' := List.pairwise_cons.1 h2
      have hab : a = b := by
        have ha := (h a).1 (by simp)
        have hb := (h b).2 (by simp)
        rcases List.mem_cons.1 ha with e | ha
        · exact e
        rcases List.mem_cons.1 hb with e | hb
        · exact e.symm
        have := h1'.1 b hb
        have := h2'.1 a ha
        omega
      subst hab
      congr 1
      refine ih h1'.2 h2'.2 (fun x hx => hf x (by simp [hx])) fun x => ⟨fun hx => ?_, fun hx => ?_⟩
      · rcases List.mem_cons.1 ((h x).1 (by simp [hx])) with e | hx'
        · have := h1'.1 x hx; rw [e] at this; omega
        · exact hx'
      · rcases List.mem_cons.1 ((h x).2 (by simp [hx])) with e | hx'
        · have := h2'.1 x hx; rw [e] at this; omega
        · exact hx'
theorem Td.uniq {M M' : Int → Prop} {L L' : List Int} (h : Td M L) (h' : Td M' L') (hm : ∀ x, fl x = true → (M x ↔ M' x)) : L = L' :=
  srt_uniq h.srt h'.srt (fun x hx => ((h.mem x).1 hx).2) fun x => by
    rw [h.mem, h'.mem]
    exact ⟨fun ⟨a, b⟩ => ⟨(hm x b).1 a, b⟩, fun ⟨a, b⟩ => ⟨(hm x b).2 a, b⟩⟩
theorem Td.all {M : Int → Prop} {L : List Int} (h : Td M L) : ∀ x ∈ L, fl x = true := fun x hx => ((h.mem x).1 hx).2
theorem srt_snoc {L : List Int} {x : Int} (h : Srt L) (hx : ∀ a ∈ L, idx a < idx x) : Srt (L ++ [x]) := by
  unfold Srt
  rw [List.pairwise_append]
  exact ⟨h, by simp, fun a ha b hb => by simp at hb; subst hb; exact hx a ha⟩
theorem srt_lt {L : List Int} (h : Srt L) {i j : Nat} {a b : Int} (hi : L[i]? = some a) (hj : L[j]? = some b) (hij : i < j) : idx a < idx b := by
  have h1 := (List.getElem?_eq_some_iff.1 hi)
  have h2 := (List.getElem?_eq_some_iff.1 hj)
  obtain ⟨h1, rfl⟩ := h1
  obtain ⟨h2, rfl⟩ := h2
  exact List.pairwise_iff_getElem.1 h i j h1 h2 hij

def Ans (w : World) (v0 : Value) (v : Value) (w' : World) : Prop := v = v0 ∧ Keep None w w'
theorem ans_of {k : FuncId} {args : Array Value} {w : World} {v0 : Value} (h : Calls Try.prog k args w fun e w' => ∃ v, e = .returned v ∧ Ans w v0 v w') : Calls Try.prog k args w fun e w' => e = .returned v0 ∧ Keep None w w' :=
  h.mono fun e w' ⟨v, he, hv, hk⟩ => ⟨by rw [he, hv], hk⟩
section
variable {w : World} {p : Option Addr} {n c : Nat} {cs : List Int}
theorem formedP (l : Int) : Calls Try.prog 44 #[J l] w fun e w' => e = .returned (.bool (fl l)) ∧ Keep None w w' := by
  refine ans_of (V44_calls l w (Ans w _) ?_)
  unfold V44
  refine ⟨?_, Keep.refl _ _⟩
  congr 1
  rw [Bool.eq_iff_iff, fl_iff]
  simp [and_assoc]
theorem formedR (l : Int) : Calls Try.prog 68 #[J l] w fun e w' => e = .returned (.bool (fl l)) ∧ Keep None w w' := by
  refine ans_of (V68_calls l w (Ans w _) ?_)
  unfold V68
  refine ⟨?_, Keep.refl _ _⟩
  congr 1
  rw [Bool.eq_iff_iff, fl_iff]
  by_cases h : (1 ≤ l ∧ l ≤ 1048576)
  · simp [h]; omega
  · have : (cond (decide (l ≥ 1)) (decide (l ≤ 1048576)) false) = false := by
      simp; omega
    rw [this]
    simp
    omega
theorem indexP {l : Int} (hf : fl l = true) : Calls Try.prog 60 #[J l] w fun e w' => e = .returned (J (idx l)) ∧ Keep None w w' := by
  refine ans_of (V60_calls l w (Ans w _) ?_)
  unfold V60
  refine cl_of ok44 (formedP l) fun e w1 ⟨he, k1⟩ => ⟨_, he, ?_⟩
  rw [hf]
  have hb := fl_iff.1 hf
  refine pif_f rfl (pif_of (fun hl => ⟨?_, k1⟩) fun hl => ⟨?_, k1⟩)
  · have hl : l < 0 := by simpa using hl
    unfold idx; rw [if_pos hl]; congr 1; simp only [IntKind.wrap_i64]; omega
  · have hl : ¬ l < 0 := by simpa using hl
    unfold idx; rw [if_neg hl]; congr 1; simp only [IntKind.wrap_i64]; omega
theorem indexR {l : Int} (hf : fl l = true) : Calls Try.prog 74 #[J l] w fun e w' => e = .returned (J (idx l)) ∧ Keep None w w' := by
  refine ans_of (V74_calls l w (Ans w _) ?_)
  unfold V74
  refine cl_of ok68 (formedR l) fun e w1 ⟨he, k1⟩ => ⟨_, he, ?_⟩
  rw [hf]
  have hb := fl_iff.1 hf
  refine pif_f rfl (pif_of (fun hl => ⟨?_, k1⟩) fun hl => ⟨?_, k1⟩)
  · have hl : l < 0 := by simpa using hl
    unfold idx; rw [if_pos hl]; congr 1; simp only [IntKind.wrap_i64]; omega
  · have hl : ¬ l < 0 := by simpa using hl
    unfold idx; rw [if_neg hl]; congr 1; simp only [IntKind.wrap_i64]; omega
def lt (a b : Int) : Bool := decide (idx a < idx b)
theorem byIndex {x y : Int} (hx : fl x = true) (hy : fl y = true) : Calls Try.prog 57 #[J x, J y] w fun e w' => e = .returned (J (idx x - idx y)) ∧ Keep None w w' := by
  refine ans_of (V57_calls x y w (Ans w _) ?_)
  unfold V57
  refine cl_of ok60 (indexP hx) fun e w1 ⟨he, k1⟩ => ⟨_, he, ?_⟩
  refine cl_of ok60 (indexP hy) fun e w2 ⟨he, k2⟩ => ⟨_, he, ?_, k1.then0 k2⟩
  have := idx_range hx
  have := idx_range hy
  congr 1
  rw [IntKind.wrap_i64]; omega
theorem cm (w0 : World) (p : Option Addr) : Sort.Cm w0 p (.func (.func 57) #[] #[]) (fun l => fl l = true) lt where
  call := fun w x y R hk hx hy hR => ⟨57, #[], #[], rfl, cl_of ok57 (byIndex hx hy) fun e w' ⟨he, k⟩ => by
    rw [he]
    exact hR _ _ (by unfold lt; rw [decide_eq_true_eq]; omega) k⟩
  asym := fun x y _ _ h => by unfold lt at h ⊢; rw [decide_eq_true_eq] at h; rw [decide_eq_false_iff_not]; omega
  trans := fun x y z _ _ _ h1 h2 => by unfold lt at *; rw [decide_eq_false_iff_not] at *; omega

/-- cells written one behind the other -/
theorem setCells_blk {t : TypeId} : ∀ (vs : List Value) (b o : Nat) (w : World) (cs : List Value), Blk w b cs t → ∃ cs', Blk (w.setCells b o vs) b cs' t ∧ cs'.length = cs.length ∧ cs'.take o = cs.take o ∧ Keep (One b) w (w.setCells b o vs) := by
  intro vs
  induction vs with
  | nil => intro b o w cs h; exact ⟨cs, h, rfl, rfl, Keep.refl _ _⟩
  | cons v vs ih =>
    intro b o w cs h
    obtain ⟨cs', h1, h2, h3, h4⟩ := ih b (o + 1) _ _ (h.set o v)
    refine ⟨cs', h1, by rw [h2, List.length_set], ?_, (Keep.setOne (sp := Option.none) v).trans h4 fun _ _ h => h⟩
    have := congrArg (List.take o) h3
    rw [List.take_take, List.take_take, Nat.min_eq_left (by omega)] at this
    rw [this, List.take_set_of_le (Nat.le_refl _)]
theorem Own.clear {xs : List Value} {k m cc : Nat} {b : Nat} {K : World → Prop} (h : Own w 3 1 (some ⟨b, 0, none⟩) n c xs) (hk : k < n) (hm : m = n - k) {ty : TypeId}
    (hK : ∀ w', Own w' 3 1 (some ⟨b, 0, none⟩) k c (xs.take k) → Keep (One b) w w' → K w') :
    ∃ w' : World, (Builtin.clear_ #[29] ty #[.slice (some ⟨b, k, none⟩) m cc]).run Try.prog w = .ok (.tuple #[]) w' ∧ K w' := by
  rcases h with ⟨h, _⟩ | ⟨b', cs, hp, hB, h1, h2, h3, rfl⟩
  · cases h
  cases hp
  have hz : ∀ w, (zeroValue 3).run Try.prog w = .ok (J 0) w := fun w => zeroT_spec (by kernel_rfl) w
  refine ⟨_, Lib.run_clear_slice w 29 3 ty (J 0) Try.underlying29 hz rfl rfl b k m cc (by omega) (fun j hj => ?_) (fun j hj => hB.frozen _), ?_⟩
  · rw [hB.cell, List.getElem?_eq_getElem (by omega)]; rfl
  · obtain ⟨cs', q1, q2, q3, q4⟩ := setCells_blk (List.replicate m (J 0)) b k w cs hB
    refine hK _ (Or.inr ⟨b, cs', rfl, q1, by omega, h2, by omega, ?_⟩) q4
    rw [Nat.mul_one, Nat.mul_one, q3, List.take_take, Nat.min_eq_left (by omega)]

/-- what stands once behind another -/
theorem compact {z : List Int} (h : Own w 3 1 p n c (z.map J)) (hn : n ≤ 17592186044416) (hf : ∀ x ∈ z, fl x = true) (hs : ∀ (i j : Nat) (a b : Int), i < j → z[i]? = some a → z[j]? = some b → idx a ≤ idx b) :
    Calls Try.prog 58 #[.slice p n c] w fun e w' => ∃ m c' L, e = .returned (.slice p m c') ∧ Own w' 3 1 p m c' (L.map J) ∧ Srt L ∧ (∀ x, x ∈ L ↔ x ∈ z) ∧ Keep (ob p) w w' := by
  refine (V58_calls p n c w (fun v w' => ∃ m c' L, v = .slice p m c' ∧ Own w' 3 1 p m c' (L.map J) ∧ Srt L ∧ (∀ x, x ∈ L ↔ x ∈ z) ∧ Keep (ob p) w w') ?_).mono fun e w' ⟨v, he, m, c', L, hv, hk⟩ => ⟨m, c', L, by rw [he, hv], hk⟩
  unfold V58
  have hzl : z.length = n := own_len h
  have lt_of : ∀ {i j : Nat} {a b : Int}, i < j → z[i]? = some a → z[j]? = some b → a ≠ b → idx a < idx b := fun hij ha hb hne => by
    have := hs _ _ _ _ hij ha hb
    have : idx _ ≠ idx _ := fun e => hne (idx_inj (hf _ (List.mem_of_getElem? ha)) (hf _ (List.mem_of_getElem? hb)) e)
    omega
  refine pif_of (fun hlt => ?_) fun hge => ?_
  · have hlt : n < 2 := by simp at hlt; omega
    refine ⟨n, c, z, rfl, h, ?_, fun x => Iff.rfl, Keep.refl _ _⟩
    match z, hzl with
    | [], _ => exact List.Pairwise.nil
    | [x], _ => exact List.pairwise_singleton ..
    | x :: y :: t, hl => simp at hl; omega
  have hge : 2 ≤ n := by simp at hge; omega
  refine lp_of (fun s W => ∃ k : Nat, s.1 = (k : Int) ∧ 1 ≤ k ∧ k ≤ n ∧ Srt (z.take k) ∧ Own W 3 1 p n c (z.map J) ∧ Keep (ob p) w W) (fun s _ => (n - s.1).toNat)
    ⟨1, rfl, Nat.le_refl _, by omega, ?_, h, Keep.refl _ _⟩ ?_
  · match z with
    | [] => exact List.Pairwise.nil
    | x :: t => exact List.pairwise_singleton ..
  rintro ⟨k', ⟨⟩⟩ W ⟨k, rfl, hk1, hkn, hsr, hO, kW⟩
  simp only []
  refine pif_of (fun hlt => ?_) fun hge2 => ?_
  · have hlt : k < n := by simpa using hlt
    have hOd := hO.drew
    have kd : Keep (ob p) w W.drew := kW.drew
    obtain ⟨x, hx⟩ := getE (show k < z.length by omega)
    obtain ⟨y, hy⟩ := getE (show k - 1 < z.length by omega)
    obtain ⟨b, hb⟩ : ∃ b, p = some ⟨b, 0, none⟩ := by
      rcases h with ⟨_, h0, _⟩ | ⟨b, cs, hp, _⟩
      · omega
      · exact ⟨b, hp⟩
    subst hb
    have e1 : IntKind.wrap .i64 ((k : Int) - 1) = ((k - 1 : Nat) : Int) := by rw [IntKind.wrap_i64]; omega
    rw [e1]
    have rd : ∀ {V : World} {i : Nat} {arr : List Int} {v : Int} {K : Int → Prop}, Own V 3 1 (some ⟨b, 0, none⟩) n c (arr.map J) → i < n → arr[i]? = some v → K v → ixA (some ⟨b, 0, none⟩) n (i : Int) 1 fun a => ldI .i64 V a K := by
      intro V i arr v K hV hi hv hK
      refine ixA_of1 (by omega) (by omega) ?_
      rw [Int.toNat_natCast]
      exact ldI_of (by rw [hV.cell _ (by omega), List.getElem?_map, hv]; rfl) hK
    refine rd hOd hlt hx (rd hOd (by omega) hy ?_)
    refine pif_of (fun heq => ?_) fun hne => ?_
    · have heq : x = y := by simpa using heq
      subst heq
      refine ⟨by omega, by omega, ?_⟩
      have hsl : ∀ (m : Nat), m < n → slA (some ⟨b, 0, none⟩) c m 1 = some ⟨b, m, none⟩ := fun m hm => by
        have := hO.le
        unfold slA
        rw [if_neg (by omega)]
        show some (Addr.add _ _) = _
        rw [add_mk, Nat.zero_add, Nat.mul_one]
      rw [Int.toNat_natCast, hsl k hlt]
      refine lp_of (fun s V => ∃ (m j : Nat) (arr : List Int), s.1 = (m : Int) ∧ s.2.1 = (j : Int) ∧ 1 ≤ j ∧ j ≤ n - k ∧ k ≤ m ∧ m ≤ k + j - 1 ∧ arr.length = n ∧ Own V 3 1 (some ⟨b, 0, none⟩) n c (arr.map J) ∧ (∀ i, k + j - 1 ≤ i → arr[i]? = z[i]?) ∧ Srt (arr.take m) ∧
          (∀ x, x ∈ arr.take m ↔ x ∈ z.take (k + j)) ∧ Keep (ob (some ⟨b, 0, none⟩)) w V) (fun s _ => ((n - k : Nat) - s.2.1).toNat)
        ⟨k, 1, z, rfl, rfl, Nat.le_refl _, by omega, Nat.le_refl _, by omega, hzl, hOd, fun _ _ => rfl, hsr, fun v => ?_, kd⟩ ?_
      · rw [take_snoc hx, List.mem_append, List.mem_singleton]
        refine ⟨Or.inl, fun hh => hh.elim id fun e => ?_⟩
        subst e
        exact List.mem_of_getElem? (i := k - 1) (by rw [List.getElem?_take, if_pos (by omega)]; exact hy)
      rintro ⟨m', j', ⟨⟩⟩ V ⟨m, j, arr, rfl, rfl, hj1, hjn, hkm, hmk, hal, hV, har, hsD, hmD, kV⟩
      simp only []
      refine pif_of (fun hlt2 => ?_) fun hge3 => ?_
      · have hlt2 : j < n - k := by simpa using hlt2
        refine jn_of ?_
        have hVd := hV.drew
        have kVd : Keep (ob (some ⟨b, 0, none⟩)) w V.drew := kV.drew
        obtain ⟨u, hu⟩ := getE (show k + j < z.length by omega)
        obtain ⟨v, hv⟩ := getE (show k + j - 1 < z.length by omega)
        have rd2 : ∀ {i : Nat} {x : Int} {K : Int → Prop}, i < n - k → k + j - 1 ≤ k + i → z[k + i]? = some x → K x → ixA (some ⟨b, k, none⟩) (n - k) (i : Int) 1 fun a => ldI .i64 V.drew a K := by
          intro i x K hi hge hx hK
          refine ixA_of (by omega) (by omega) ?_
          rw [Int.toNat_natCast, Nat.mul_one]
          exact ldI_of (by rw [hVd.cell _ (by omega), List.getElem?_map, har _ hge, hx]; rfl) hK
        have e2 : IntKind.wrap .i64 ((j : Int) - 1) = ((j - 1 : Nat) : Int) := by rw [IntKind.wrap_i64]; omega
        rw [e2]
        refine rd2 hlt2 (by omega) hu (rd2 (x := v) (by omega) (by omega) (by rw [show k + (j - 1) = k + j - 1 by omega]; exact hv) ?_)
        have e3 : IntKind.wrap .i64 ((j : Int) + 1) = ((j + 1 : Nat) : Int) := by rw [IntKind.wrap_i64]; omega
        have e4 : IntKind.wrap .i64 ((m : Int) + 1) = ((m + 1 : Nat) : Int) := by rw [IntKind.wrap_i64]; omega
        rw [e3, e4]
        have hvm : v ∈ z.take (k + j) := List.mem_of_getElem? (i := k + j - 1) (by rw [List.getElem?_take, if_pos (by omega)]; exact hv)
        refine pif_of (fun hne => ?_) fun heq => ?_
        · have hne : u ≠ v := by simpa using hne
          refine rd2 hlt2 (by omega) hu ?_
          refine ixA_of1 (by omega) (by omega) ?_
          rw [Int.toNat_natCast, add_mk, Nat.add_zero]
          refine hVd.st (by omega) rfl fun V' hV' kV' _ => ?_
          rw [← List.map_set] at hV'
          have htk : (arr.set m u).take (m + 1) = arr.take m ++ [u] := by
            have : (arr.set m u)[m]? = some u := by rw [List.getElem?_set_self (by omega)]
            rw [take_snoc this, List.take_set_of_le (Nat.le_refl _)]
          refine ⟨⟨m + 1, j + 1, arr.set m u, rfl, rfl, by omega, by omega, by omega, by omega, by rw [List.length_set]; exact hal, hV', fun i hi => ?_, ?_, fun x => ?_, kVd.trans kV' fun i _ h => ⟨_, rfl, h.symm⟩⟩, by omega⟩
          · rw [List.getElem?_set_ne (by omega)]; exact har i (by omega)
          · rw [htk]
            refine srt_snoc hsD fun a ha => ?_
            obtain ⟨i, hi⟩ := List.mem_iff_getElem?.1 ((hmD a).1 ha)
            rw [List.getElem?_take] at hi
            split at hi
            · rename_i hik
              have hvu : idx v < idx u := lt_of (show k + j - 1 < k + j by omega) hv hu (Ne.symm hne)
              rcases Nat.lt_or_ge i (k + j - 1) with hi2 | hi2
              · have := hs _ _ _ _ hi2 hi hv; omega
              · obtain rfl : i = k + j - 1 := by omega
                rw [hv] at hi; injection hi with hi; subst hi; exact hvu
            · cases hi
          · rw [htk, List.mem_append, List.mem_singleton, hmD, show k + (j + 1) = k + j + 1 by omega, take_snoc hu, List.mem_append, List.mem_singleton]
        · have heq : u = v := by simpa using heq
          refine ⟨⟨m, j + 1, arr, rfl, rfl, by omega, by omega, hkm, by omega, hal, hVd, fun i hi => har i (by omega), hsD, fun x => ?_, kVd⟩, by omega⟩
          rw [hmD, show k + (j + 1) = k + j + 1 by omega, take_snoc hu, List.mem_append, List.mem_singleton]
          exact ⟨Or.inl, fun hh => hh.elim id fun e => by rw [e, heq]; exact hvm⟩
      · have hge3 : j = n - k := by simp at hge3; omega
        refine ⟨by omega, by omega, ?_⟩
        rw [Int.toNat_natCast, hsl m (by omega)]
        refine Own.clear hV (by omega) rfl fun V' hV' kV' => ?_
        have := hO.le
        refine ⟨by omega, by omega, ?_⟩
        have e5 : slA (some ⟨b, 0, none⟩) c 0 1 = some ⟨b, 0, none⟩ := by
          unfold slA; rw [if_neg (by omega)]; show some (Addr.add _ _) = _; rw [add_mk]
        rw [e5, Nat.sub_zero, Nat.sub_zero]
        rw [← List.map_take] at hV'
        refine ⟨m, c, arr.take m, rfl, hV', hsD, fun x => ?_, kV.trans kV' fun i _ h => ⟨_, rfl, h.symm⟩⟩
        rw [hmD, hge3, show k + (n - k) = n by omega, ← hzl, List.take_length]
    · have hne : x ≠ y := by simpa using hne
      have e2 : IntKind.wrap .i64 ((k : Int) + 1) = ((k + 1 : Nat) : Int) := by rw [IntKind.wrap_i64]; omega
      rw [e2]
      refine ⟨⟨k + 1, rfl, by omega, hlt, ?_, hOd, kd⟩, by omega⟩
      rw [take_snoc hx]
      refine srt_snoc hsr fun a ha => ?_
      obtain ⟨i, hi⟩ := List.mem_iff_getElem?.1 ha
      rw [List.getElem?_take] at hi
      split at hi
      · rename_i hik
        have hvu : idx y < idx x := lt_of (show k - 1 < k by omega) hy hx (Ne.symm hne)
        rcases Nat.lt_or_ge i (k - 1) with hi2 | hi2
        · have := hs _ _ _ _ hi2 hi hy; omega
        · obtain rfl : i = k - 1 := by omega
          rw [hy] at hi; injection hi with hi; subst hi; exact hvu
      · cases hi
  · have hge2 : k = n := by simp at hge2; omega
    subst hge2
    rw [← hzl, List.take_length] at hsr
    exact ⟨k, c, z, rfl, hO, hsr, fun x => Iff.rfl, kW⟩
theorem mk2_of {t e : TypeId} {B : Nat} {z : Value} {l n : Int} {K : Option Addr → Nat → Nat → World → Prop}
    (ht : Try.prog.underlying t = some (.slice e)) (hi0 : (Try.prog.info? e).map (fun i => (i.zero, i.size, i.bytes)) = some (some z, 1, B)) (hzc : z.cells = #[z])
    (h0 : 0 ≤ l) (hln : l ≤ n) (hb : (B : Int) * n ≤ 281474976710656) (hn : n ≤ 9223372036854775807)
    (h : ∀ b w', b = w.heap.size → Blk w' b (List.replicate n.toNat z) e → Keep None w w' → K (some ⟨b, 0, none⟩) l.toNat n.toNat w') :
    ∃ (p : Option Addr) (l' c : Nat), ∃ w' : World, (Instr.makeSlice t (.int .i64 l) (.int .i64 n)).run Try.prog w = .ok (.slice p l' c) w' ∧ K p l' c w' := by
  obtain ⟨i, hi, hi'⟩ := Option.map_eq_some_iff.1 hi0
  simp only [Prod.mk.injEq] at hi'
  obtain ⟨hz, hsz, rfl⟩ := hi'
  have hr := run_make (P := Try.prog) w t e i z ht hi hz .i64 .i64 l n h0 hln hb hn
  refine ⟨_, _, _, _, hr, h _ _ rfl ?_ ((Keep.refl _ w).alloc _)⟩
  have e1 : madeCells z.cells (n.toNat * i.size) = (List.replicate n.toNat z).toArray := by
    apply Array.toList_inj.1
    rw [hzc, made_one, hsz, Nat.mul_one]
  rw [e1]
  exact Blk.new w _ e
theorem snoc_filter {cs : List Int} {i : Nat} {x : Int} (hx : cs[i]? = some x) : (cs.take (i + 1)).filter fl = if fl x = true then (cs.take i).filter fl ++ [x] else (cs.take i).filter fl := by
  rw [take_snoc hx, List.filter_append]
  split
  · rename_i h; rw [List.filter_cons_of_pos h]; rfl
  · rename_i h; rw [List.filter_cons_of_neg h]; simp
theorem tidyP (h : RdL w p n cs) (hn : n ≤ 17592186044416) : Calls Try.prog 40 #[.slice p n c] w fun e w' => ∃ v L, e = .returned v ∧ Td (· ∈ cs) L ∧ New w L v w' := by
  refine (V40_calls p n c w (fun v w' => ∃ L, Td (· ∈ cs) L ∧ New w L v w') ?_).mono fun e w' ⟨v, he, L, hk⟩ => ⟨v, L, he, hk⟩
  unfold V40
  have hl := h.len
  refine mk2_of (B := 8) (z := J 0) Try.underlying29 (by kernel_rfl) rfl (Int.le_refl _) (by omega) (by omega) (by omega) fun b w1 hb hB k1 => ?_
  rw [Int.toNat_natCast] at hB ⊢
  have hG0 : Gro w w1 (some ⟨b, 0, none⟩) 0 n [] := ⟨Or.inr ⟨b, _, rfl, hB, Nat.zero_le _, by simp only [maxLen]; omega, by simp, by simp⟩, fun i ⟨a, h, h'⟩ => by cases h; simp only [] at h'; omega, k1⟩
  refine lp_of (fun s W => ∃ i : Nat, s.2.1 = i ∧ i ≤ n ∧ s.1.2.1 ≤ i ∧ Gro w W s.1.1 s.1.2.1 s.1.2.2 ((cs.take i).filter fl)) (fun s _ => (n - s.2.1).toNat) ⟨0, rfl, Nat.zero_le _, by show (0 : Int).toNat ≤ 0; decide, hG0⟩ ?_
  rintro ⟨⟨q, m, d⟩, i', ⟨⟩⟩ w2 ⟨i, rfl, hi, hmi, hG⟩
  simp only [] at hG hmi ⊢
  refine pif_of (fun hlt => ?_) fun hge => ?_
  · have hlt : i < n := by simpa using hlt
    refine jn_of ?_
    rw [wrap_nat i (by omega)]
    refine (h.keep0 hG.keep).ix hlt fun a x hx ha => ldI_of ha (cl_of ok44 (formedP x) fun e w3 ⟨he, k3⟩ => ⟨_, he, ?_⟩)
    have hG3 := hG.keep0 k3
    have sn := snoc_filter hx
    refine pif_of (fun hf => ?_) fun hf => ?_
    · rw [if_pos hf] at sn
      exact hG3.app (by omega) fun p' c' w' hG' => ⟨⟨i + 1, rfl, hlt, by show m + 1 ≤ i + 1; omega, by rw [sn]; exact hG'⟩, by omega⟩
    · rw [if_neg (by rw [hf]; decide)] at sn
      exact ⟨⟨i + 1, rfl, hlt, by show m ≤ i + 1; omega, by rw [sn]; exact hG3⟩, by omega⟩
  · have hge : i = n := by simp at hge; omega
    subst hge
    rw [← hl, List.take_length] at hG
    have hAr : Sort.Ar w2 q m d (fun l => fl l = true) w2 (cs.filter fl) := ⟨hG.own, Keep.refl _ _, fun x hx => (List.mem_filter.1 hx).2⟩
    refine cl_of ok56 (Sort.sortFunc (cm w2 q) (by omega) hAr) fun e w3 ⟨he, z, hz, hp, hso, k3⟩ => ⟨he, ?_⟩
    have hzl : z.length = m := hz.len
    refine cl_of ok58 (compact hz.own (by omega) hz.all fun i j a b hij ha hb => ?_) fun e w4 ⟨m', c', L, he, hO, hsr, hm, k4⟩ => ⟨_, _, _, he, L, ⟨hsr, fun x => ?_⟩, ?_⟩
    · have h1 := (List.getElem?_eq_some_iff.1 ha).1
      have h2 := (List.getElem?_eq_some_iff.1 hb).1
      have := hso i j (Nat.zero_le _) hij (by omega)
      have e1 := Sort.g_some h1
      have e2 := Sort.g_some h2
      rw [ha] at e1
      rw [hb] at e2
      injection e1 with e1
      injection e2 with e2
      rw [← e1, ← e2] at this
      unfold lt at this
      rw [decide_eq_false_iff_not] at this
      omega
    · rw [hm, hp.mem_iff, List.mem_filter]
    · have hL := own_len hO
      subst hL
      exact ⟨q, c', rfl, hO, hG.new, (hG.keep.trans k3 fun i hi h => by have := hG.new i h; omega).trans k4 fun i hi h => by have := hG.new i h; omega⟩
/-- two sorted lists, merged -/
theorem merged {q : Option Addr} {m d : Nat} {xa xb : List Int} (ha : RdL w p n xa) (hb : RdL w q m xb) (hnm : n + m ≤ 17592186044416) (sa : Srt xa) (sb : Srt xb) (fa : ∀ x ∈ xa, fl x = true) (fb : ∀ x ∈ xb, fl x = true) :
    Calls Try.prog 69 #[.slice p n c, .slice q m d] w fun e w' => ∃ v L, e = .returned v ∧ Srt L ∧ (∀ x, x ∈ L ↔ x ∈ xa ∨ x ∈ xb) ∧ New w L v w' := by
  refine (V69_calls p n c q m d w (fun v w' => ∃ L, Srt L ∧ (∀ x, x ∈ L ↔ x ∈ xa ∨ x ∈ xb) ∧ New w L v w') ?_).mono fun e w' ⟨v, he, L, hk⟩ => ⟨v, L, he, hk⟩
  unfold V69
  have la := ha.len
  have lb := hb.len
  refine lp_of (fun s W => ∃ (i j : Nat) (L : List Int), s.2.1 = i ∧ s.2.2.1 = j ∧ i ≤ n ∧ j ≤ m ∧ s.1.2.1 ≤ i + j ∧ Gro w W s.1.1 s.1.2.1 s.1.2.2 L ∧ Srt L ∧ (∀ x, x ∈ L ↔ x ∈ xa.take i ∨ x ∈ xb.take j) ∧
      (∀ a, xa[i]? = some a → ∀ x ∈ L, idx x < idx a) ∧ (∀ b, xb[j]? = some b → ∀ x ∈ L, idx x < idx b)) (fun s _ => ((n - s.2.1) + (m - s.2.2.1)).toNat)
    ⟨0, 0, [], rfl, rfl, Nat.zero_le _, Nat.zero_le _, Nat.zero_le _, Gro.nil w, List.Pairwise.nil, (fun x => by simp), (fun _ _ x hx => by cases hx), fun _ _ x hx => by cases hx⟩ ?_
  rintro ⟨⟨r, rn, rc⟩, i', j', ⟨⟩⟩ W ⟨i, j, L, rfl, rfl, hi, hj, hrn, hG, hS, hM, hA, hB⟩
  simp only [] at hrn hG ⊢
  rw [wrap_nat i (by omega), wrap_nat j (by omega)]
  have hGd : Gro w W.drew r rn rc L := hG.keep0 ((Keep.refl _ W).drew)
  -- the ways on
  have goA : ∀ {V : World} {a : Int}, Gro w V r rn rc L → xa[i]? = some a → (∀ b, xb[j]? = some b → idx a < idx b) → i < n →
      alc V [J a] 3 fun b35 w6 => ∃ (x36 : Option Addr) (x36n x36c : Nat), ∃ w7 : World, (Builtin.append_ #[29, 29] 29 #[.slice r rn rc, .slice (some (⟨b35, 0, none⟩ : Addr)) 1 1]).run Try.prog w6 = .ok (.slice x36 x36n x36c) w7 ∧
        ((∃ (i' j' : Nat) (L : List Int), ((i + 1 : Nat) : Int) = i' ∧ (j : Int) = j' ∧ i' ≤ n ∧ j' ≤ m ∧ x36n ≤ i' + j' ∧ Gro w w7 x36 x36n x36c L ∧ Srt L ∧ (∀ x, x ∈ L ↔ x ∈ xa.take i' ∨ x ∈ xb.take j') ∧ (∀ a, xa[i']? = some a → ∀ x ∈ L, idx x < idx a) ∧ (∀ b, xb[j']? = some b → ∀ x ∈ L, idx x < idx b)) ∧
          (((n : Int) - ((i + 1 : Nat) : Int)) + ((m : Int) - (j : Int))).toNat < (((n : Int) - (i : Int)) + ((m : Int) - (j : Int))).toNat) := by
    intro V a hV hx hab hlt
    refine hV.app (by omega) fun p' c' w' hG' => ⟨⟨i + 1, j, L ++ [a], rfl, rfl, hlt, hj, by omega, hG', srt_snoc hS (hA a hx), fun x => ?_, fun a' ha' x hx' => ?_, fun b hb' x hx' => ?_⟩, by omega⟩
    · rw [take_snoc hx, List.mem_append, List.mem_append, List.mem_singleton, hM]
      exact ⟨fun h => h.elim (fun h => h.elim (fun h => Or.inl (Or.inl h)) Or.inr) fun h => Or.inl (Or.inr h), fun h => h.elim (fun h => h.elim (fun h => Or.inl (Or.inl h)) Or.inr) fun h => Or.inl (Or.inr h)⟩
    · have haa := srt_lt sa hx ha' (Nat.lt_succ_self _)
      rw [List.mem_append, List.mem_singleton] at hx'
      rcases hx' with h | rfl
      · have := hA a hx x h; omega
      · exact haa
    · rw [List.mem_append, List.mem_singleton] at hx'
      rcases hx' with h | rfl
      · exact hB b hb' x h
      · exact hab b hb'
  have goB : ∀ {V : World} {a : Int}, Gro w V r rn rc L → xb[j]? = some a → (∀ b, xa[i]? = some b → idx a < idx b) → j < m →
      alc V [J a] 3 fun b35 w6 => ∃ (x36 : Option Addr) (x36n x36c : Nat), ∃ w7 : World, (Builtin.append_ #[29, 29] 29 #[.slice r rn rc, .slice (some (⟨b35, 0, none⟩ : Addr)) 1 1]).run Try.prog w6 = .ok (.slice x36 x36n x36c) w7 ∧
        ((∃ (i' j' : Nat) (L : List Int), (i : Int) = i' ∧ ((j + 1 : Nat) : Int) = j' ∧ i' ≤ n ∧ j' ≤ m ∧ x36n ≤ i' + j' ∧ Gro w w7 x36 x36n x36c L ∧ Srt L ∧ (∀ x, x ∈ L ↔ x ∈ xa.take i' ∨ x ∈ xb.take j') ∧ (∀ a, xa[i']? = some a → ∀ x ∈ L, idx x < idx a) ∧ (∀ b, xb[j']? = some b → ∀ x ∈ L, idx x < idx b)) ∧
          (((n : Int) - (i : Int)) + ((m : Int) - ((j + 1 : Nat) : Int))).toNat < (((n : Int) - (i : Int)) + ((m : Int) - (j : Int))).toNat) := by
    intro V a hV hx hab hlt
    refine hV.app (by omega) fun p' c' w' hG' => ⟨⟨i, j + 1, L ++ [a], rfl, rfl, hi, hlt, by omega, hG', srt_snoc hS (hB a hx), fun x => ?_, fun b hb' x hx' => ?_, fun a' ha' x hx' => ?_⟩, by omega⟩
    · rw [take_snoc hx, List.mem_append, List.mem_append, List.mem_singleton, hM]
      exact ⟨fun h => h.elim (fun h => h.elim Or.inl fun h => Or.inr (Or.inl h)) fun h => Or.inr (Or.inr h), fun h => h.elim (fun h => Or.inl (Or.inl h)) fun h => h.elim (fun h => Or.inl (Or.inr h)) Or.inr⟩
    · rw [List.mem_append, List.mem_singleton] at hx'
      rcases hx' with h | rfl
      · exact hA b hb' x h
      · exact hab b hb'
    · have haa := srt_lt sb hx ha' (Nat.lt_succ_self _)
      rw [List.mem_append, List.mem_singleton] at hx'
      rcases hx' with h | rfl
      · have := hB a hx x h; omega
      · exact haa
  have rdA : ∀ {V : World} {K : Addr → Prop}, Keep None w V → i < n → (∀ a x, xa[i]? = some x → V.cell? a = some (J x) → K a) → ixA p n (i : Int) 1 K := fun hV hlt hK => (ha.keep0 hV).ix hlt hK
  have rdB : ∀ {V : World} {K : Addr → Prop}, Keep None w V → j < m → (∀ a x, xb[j]? = some x → V.cell? a = some (J x) → K a) → ixA q m (j : Int) 1 K := fun hV hlt hK => (hb.keep0 hV).ix hlt hK
  refine pif_of (fun hloop => ?_) fun hend => ?_
  · have hloop : i < n ∨ j < m := by
      by_cases h : i < n
      · exact Or.inl h
      · right; simp [h] at hloop; omega
    by_cases hjm : j = m
    · -- the second is gone through
      have hin : i < n := by omega
      have ec : ((!((j : Int) == (m : Int))) && (decide ((i : Int) < (n : Int)))) = false := by rw [hjm]; simp
      rw [ec]
      refine gd_f rfl (gd_f rfl (gd_f rfl (gd_f rfl (gd_f rfl ⟨(fun h => by cases h), gd_f rfl ?_⟩))))
      refine pif_t (by rw [hjm]; simp) (rdA hGd.keep hin fun a x hx ha => ldI_of ha ?_)
      exact goA hGd hx (fun b hb => by have := (List.getElem?_eq_some_iff.1 hb).1; omega) hin
    · have hjm : j < m := by omega
      by_cases hin : i = n
      · have ec : ((!((j : Int) == (m : Int))) && (decide ((i : Int) < (n : Int)))) = false := by rw [hin]; simp
        rw [ec]
        refine gd_f rfl (gd_f rfl (gd_f rfl (gd_f rfl (gd_f rfl ⟨(fun h => by cases h), gd_f rfl ?_⟩))))
        have e1 : ((j : Int) == (m : Int)) = false := by simp; omega
        refine pif_f (by rw [e1, hin]; simp) ?_
        have e2 : (!((i : Int) == (n : Int))) = false := by rw [hin]; simp
        rw [e2]
        refine gd_f rfl (gd_f rfl (gd_f rfl (gd_f rfl (gd_f rfl ⟨(fun h => by cases h), gd_f rfl ?_⟩))))
        have hGdd := hGd.keep0 ((Keep.refl _ W.drew).drew)
        refine pif_t (by rw [hin]; simp) (rdB hGdd.keep hjm fun a x hx ha => ldI_of ha ?_)
        exact goB hGdd hx (fun b hb => by have := (List.getElem?_eq_some_iff.1 hb).1; omega) hjm
      · have hin : i < n := by omega
        have e1 : ((j : Int) == (m : Int)) = false := by simp; omega
        have e2 : ((i : Int) == (n : Int)) = false := by simp; omega
        have e3 : decide ((i : Int) < (n : Int)) = true := decide_eq_true (by omega)
        rw [e1, e2, e3]
        refine gd_t rfl (rdA hGd.keep hin fun a1 x hx h1 => gd_t rfl (ldI_of h1 (gd_t rfl (rdB hGd.keep hjm fun a2 y hy h2 => gd_t rfl (ldI_of h2 ?_)))))
        have hfx := fa x (List.mem_of_getElem? hx)
        have hfy := fb y (List.mem_of_getElem? hy)
        refine gd_t rfl (cl_of ok74 (indexR hfx) fun e w2 ⟨he, k2⟩ => ⟨_, he, ?_⟩)
        refine ⟨fun _ => ldI_of (k2.cell h2 fun h => h) rfl, gd_t rfl (cl_of ok74 (indexR hfy) fun e w3 ⟨he, k3⟩ => ⟨_, he, ?_⟩)⟩
        have hG3 := (hGd.keep0 k2).keep0 k3
        by_cases hxy : idx x < idx y
        · refine pif_t (decide_eq_true hxy) (rdA hG3.keep hin fun a3 x' hx' h3 => ldI_of h3 ?_)
          rw [hx] at hx'; injection hx' with hx'; subst hx'
          exact goA hG3 hx (fun b hb => by rw [hy] at hb; injection hb with hb; subst hb; exact hxy) hin
        refine pif_f (decide_eq_false hxy) ?_
        have kd := (Keep.refl None w3).drew
        have hG3d := hG3.keep0 kd
        refine gd_t rfl (rdB hG3d.keep hjm fun a3 y' hy' h3 => gd_t rfl (ldI_of h3 (gd_t rfl (rdA hG3d.keep hin fun a4 x' hx' h4 => gd_t rfl (ldI_of h4 ?_)))))
        rw [hx] at hx'; injection hx' with hx'; subst hx'
        rw [hy] at hy'; injection hy' with hy'; subst hy'
        refine gd_t rfl (cl_of ok74 (indexR hfy) fun e w4 ⟨he, k4⟩ => ⟨_, he, ?_⟩)
        refine ⟨fun _ => ldI_of (k4.cell h4 fun h => h) rfl, gd_t rfl (cl_of ok74 (indexR hfx) fun e w5 ⟨he, k5⟩ => ⟨_, he, ?_⟩)⟩
        have hG5 := (hG3d.keep0 k4).keep0 k5
        by_cases hyx : idx y < idx x
        · refine pif_t (decide_eq_true hyx) (rdB hG5.keep hjm fun a5 y' hy' h5 => ldI_of h5 ?_)
          rw [hy] at hy'; injection hy' with hy'; subst hy'
          exact goB hG5 hy (fun b hb => by rw [hx] at hb; injection hb with hb; subst hb; exact hyx) hjm
        refine pif_f (decide_eq_false hyx) (rdA hG5.keep hin fun a5 x' hx' h5 => ldI_of h5 ?_)
        rw [hx] at hx'; injection hx' with hx'; subst hx'
        have exy : x = y := idx_inj hfx hfy (by omega)
        refine hG5.app (by omega) fun p' c' w' hG' => ⟨⟨i + 1, j + 1, L ++ [x], rfl, rfl, hin, hjm, by show rn + 1 ≤ i + 1 + (j + 1); omega, hG', srt_snoc hS (hA x hx), fun z => ?_, fun a' ha' z hz' => ?_, fun b hb' z hz' => ?_⟩, by omega⟩
        · rw [take_snoc hx, take_snoc hy, List.mem_append, List.mem_append, List.mem_append, List.mem_singleton, List.mem_singleton, hM, exy]
          exact ⟨fun h => h.elim (fun h => h.elim (fun h => Or.inl (Or.inl h)) fun h => Or.inr (Or.inl h)) fun h => Or.inl (Or.inr h), fun h => h.elim (fun h => h.elim (fun h => Or.inl (Or.inl h)) Or.inr) fun h => h.elim (fun h => Or.inl (Or.inr h)) Or.inr⟩
        · have haa := srt_lt sa hx ha' (Nat.lt_succ_self _)
          rw [List.mem_append, List.mem_singleton] at hz'
          rcases hz' with h | rfl
          · have := hA x hx z h; omega
          · exact haa
        · have haa := srt_lt sb hy hb' (Nat.lt_succ_self _)
          rw [List.mem_append, List.mem_singleton] at hz'
          rcases hz' with h | rfl
          · have := hB y hy z h; omega
          · rw [exy]; exact haa
  · have he : i = n ∧ j = m := by simp at hend; omega
    obtain ⟨rfl, rfl⟩ := he
    refine ⟨L, hS, fun x => ?_, hG.done⟩
    rw [hM, ← la, ← lb, List.take_length, List.take_length]
end
end Go.Proofs.Ytjpblaenebodlaa.Lits
