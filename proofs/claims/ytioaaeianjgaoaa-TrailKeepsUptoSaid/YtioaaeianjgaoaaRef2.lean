/- What the document's trail answers, and Decide and Imply of it. -/
import Derived.Test.YtioaaeianjgaoaaRef
set_option linter.unusedVariables false
set_option linter.unusedSimpArgs false
set_option maxRecDepth 100000
namespace Go.Proofs.Ytioaaeianjgaoaa.Trail
open Go Go.Proofs.Ytioaaeianjgaoaa.Vc Go.Proofs.Ytioaaeianjgaoaa.T

def ent (R : List E) (v : Nat) : Option E := R.find? (fun e => e.lit.natAbs == v)
theorem idx_cases (R : List E) (v : Nat) : (idx R v = -1 ∧ ent R v = none) ∨ ∃ (i : Nat) (e : E), idx R v = i ∧ R[i]? = some e ∧ ent R v = some e ∧ e.lit.natAbs = v := by
  unfold idx ent
  cases h : R.findIdx? (fun e => e.lit.natAbs == v) with
  | none =>
    refine Or.inl ⟨rfl, ?_⟩
    rw [List.findIdx?_eq_none_iff] at h
    rw [List.find?_eq_none]
    intro e he
    simpa using h e he
  | some i =>
    rw [List.findIdx?_eq_some_iff_getElem] at h
    obtain ⟨hlt, h1, h2⟩ := h
    refine Or.inr ⟨i, R[i], rfl, List.getElem?_eq_getElem hlt, ?_, by simpa using h1⟩
    rw [List.find?_eq_some_iff_getElem]
    exact ⟨h1, i, hlt, rfl, fun j hj => by simpa using h2 j hj⟩
def valA (n : Nat) (R : List E) (l : Int) : Int := if ownB n l then (match ent R l.natAbs with | some e => if e.lit = l then 1 else -1 | none => 0) else 0
def levA (n : Nat) (R : List E) (v : Int) : Int := if decide (1 ≤ v) && ownB n v then (match ent R v.natAbs with | some e => e.lv | none => -1) else -1
def reaA (n : Nat) (R : List E) (v : Int) : Int := if decide (1 ≤ v) && ownB n v then (match ent R v.natAbs with | some e => e.rs | none => -1) else -1
def freeA (n : Nat) (R : List E) (l : Int) : Int := if ownB n l then (match ent R l.natAbs with | some _ => 50 | none => 0) else 1
theorem ent_none {R : List E} {l : Int} : ent R l.natAbs = none ↔ Open R l := by
  unfold ent Open
  rw [List.find?_eq_none]
  constructor
  · intro h e he; simpa using h e he
  · intro h e he; simpa using h e he

section
variable {w : World} {M : MI} {n : Nat} {R : List E} {now : Int}
theorem level48 (h : MRep w M n R now) : Calls Try.prog 48 #[Pt M.m] w fun e w' => e = .returned (I now) ∧ w' = w := by
  refine (V48_calls (some ⟨M.m, 0, none⟩) w (fun v w' => v = I now ∧ w' = w) ?_).mono fun e w' ⟨v, he, hv, hk⟩ => ⟨by rw [he, hv], hk⟩
  unfold V48
  refine nn_of ?_
  rw [add_mk]
  exact ldI_of (h.obj.cell 2) ⟨rfl, rfl⟩
theorem value49 (h : MRep w M n R now) (l : Int) (hl : -9223372036854775808 ≤ l ∧ l ≤ 9223372036854775807) (hR : R.length ≤ 1048576) (ha : ∀ e ∈ R, e.lit.natAbs ≤ 1048576) :
    Calls Try.prog 49 #[Pt M.m, I l] w fun e w' => e = .returned (I8 (valA n R l)) ∧ w' = w := by
  refine (V49_calls (some ⟨M.m, 0, none⟩) l w (fun v w' => v = I8 (valA n R l) ∧ w' = w) ?_).mono fun e w' ⟨v, he, hv, hk⟩ => ⟨by rw [he, hv], hk⟩
  unfold V49
  refine cl_of ok41 (own41 h l hl.1) fun e w1 ⟨he, hw⟩ => ⟨_, he, ?_⟩
  subst hw
  unfold valA
  rcases Bool.eq_false_or_eq_true (ownB n l) with hb | hb
  · rw [hb, if_pos rfl]
    refine pif_f rfl (cl_of ok42 (at42 h l hl hR ha) fun e w2 ⟨he, hw⟩ => ⟨_, he, ?_⟩)
    subst hw
    rcases idx_cases R l.natAbs with ⟨e1, e2⟩ | ⟨i, x, e1, e2, e3, e4⟩
    · rw [e1, e2]
      exact pif_t rfl ⟨rfl, rfl⟩
    · rw [e1, e3]
      refine pif_f (by simp) (nn_of ?_)
      simp only [add_mk, Nat.zero_add]
      refine ldC_of (h.obj.cell 1) (h.at (by omega) (by rw [Int.toNat_natCast]; exact e2) fun a c0 c1 c2 c3 => ldI_of c1 (pif_of (fun hq => ?_) fun hq => ?_))
      · have hq : x.lit = l := by simpa using hq
        rw [if_pos hq]; exact ⟨rfl, by first | rfl | trivial⟩
      · have hq : ¬ x.lit = l := by simpa using hq
        rw [if_neg hq]; exact ⟨rfl, by first | rfl | trivial⟩
  · rw [hb, if_neg (by simp)]
    exact pif_t rfl ⟨rfl, rfl⟩
theorem levelOf50 (h : MRep w M n R now) (l : Int) (hl : -9223372036854775808 ≤ l ∧ l ≤ 9223372036854775807) (hR : R.length ≤ 1048576) (ha : ∀ e ∈ R, e.lit.natAbs ≤ 1048576) :
    Calls Try.prog 50 #[Pt M.m, I l] w fun e w' => e = .returned (I (levA n R l)) ∧ w' = w := by
  refine (V50_calls (some ⟨M.m, 0, none⟩) l w (fun v w' => v = I (levA n R l) ∧ w' = w) ?_).mono fun e w' ⟨v, he, hv, hk⟩ => ⟨by rw [he, hv], hk⟩
  unfold V50
  unfold levA
  by_cases h1 : 1 ≤ l
  · have e1 : decide (l < 1) = false := by simp; omega
    have e2 : decide (1 ≤ l) = true := by simpa using h1
    rw [e1, e2, Bool.true_and]
    refine gd_t rfl (cl_of ok41 (own41 h l hl.1) fun e w1 ⟨he, hw⟩ => ⟨_, he, ?_⟩)
    subst hw
    rcases Bool.eq_false_or_eq_true (ownB n l) with hb | hb
    · rw [hb, if_pos rfl]
      refine pif_f rfl (cl_of ok42 (at42 h l hl hR ha) fun e w2 ⟨he, hw⟩ => ⟨_, he, ?_⟩)
      subst hw
      rcases idx_cases R l.natAbs with ⟨e1, e2⟩ | ⟨i, x, e1, e2, e3, e4⟩
      · rw [e1, e2]
        exact pif_t rfl ⟨rfl, rfl⟩
      · rw [e1, e3]
        refine pif_f (by simp) (nn_of ?_)
        simp only [add_mk, Nat.zero_add]
        exact ldC_of (h.obj.cell 1) (h.at (by omega) (by rw [Int.toNat_natCast]; exact e2) fun a c0 c1 c2 c3 => ldI_of c2 ⟨rfl, by first | rfl | trivial⟩)
    · rw [hb, if_neg (by simp)]
      exact pif_t rfl ⟨rfl, rfl⟩
  · have e1 : decide (l < 1) = true := by simp; omega
    have e2 : decide (1 ≤ l) = false := by simpa using h1
    rw [e1, e2, Bool.false_and, if_neg (by simp)]
    exact gd_f rfl (pif_t rfl ⟨rfl, rfl⟩)
theorem reason51 (h : MRep w M n R now) (l : Int) (hl : -9223372036854775808 ≤ l ∧ l ≤ 9223372036854775807) (hR : R.length ≤ 1048576) (ha : ∀ e ∈ R, e.lit.natAbs ≤ 1048576) :
    Calls Try.prog 51 #[Pt M.m, I l] w fun e w' => e = .returned (I (reaA n R l)) ∧ w' = w := by
  refine (V51_calls (some ⟨M.m, 0, none⟩) l w (fun v w' => v = I (reaA n R l) ∧ w' = w) ?_).mono fun e w' ⟨v, he, hv, hk⟩ => ⟨by rw [he, hv], hk⟩
  unfold V51
  unfold reaA
  by_cases h1 : 1 ≤ l
  · have e1 : decide (l < 1) = false := by simp; omega
    have e2 : decide (1 ≤ l) = true := by simpa using h1
    rw [e1, e2, Bool.true_and]
    refine gd_t rfl (cl_of ok41 (own41 h l hl.1) fun e w1 ⟨he, hw⟩ => ⟨_, he, ?_⟩)
    subst hw
    rcases Bool.eq_false_or_eq_true (ownB n l) with hb | hb
    · rw [hb, if_pos rfl]
      refine pif_f rfl (cl_of ok42 (at42 h l hl hR ha) fun e w2 ⟨he, hw⟩ => ⟨_, he, ?_⟩)
      subst hw
      rcases idx_cases R l.natAbs with ⟨e1, e2⟩ | ⟨i, x, e1, e2, e3, e4⟩
      · rw [e1, e2]
        exact pif_t rfl ⟨rfl, rfl⟩
      · rw [e1, e3]
        refine pif_f (by simp) (nn_of ?_)
        simp only [add_mk, Nat.zero_add]
        exact ldC_of (h.obj.cell 1) (h.at (by omega) (by rw [Int.toNat_natCast]; exact e2) fun a c0 c1 c2 c3 => ldI_of c3 ⟨rfl, by first | rfl | trivial⟩)
    · rw [hb, if_neg (by simp)]
      exact pif_t rfl ⟨rfl, rfl⟩
  · have e1 : decide (l < 1) = true := by simp; omega
    have e2 : decide (1 ≤ l) = false := by simpa using h1
    rw [e1, e2, Bool.false_and, if_neg (by simp)]
    exact gd_f rfl (pif_t rfl ⟨rfl, rfl⟩)

def MMoved (w : World) (M M' : MI) : Prop := M'.m = M.m ∧ ∀ i, M'.F i → M.F i ∨ w.heap.size ≤ i
theorem MMoved.refl (w : World) (M : MI) : MMoved w M M := ⟨rfl, fun _ h => Or.inl h⟩
def MLaid (w : World) (M : MI) (n : Nat) (R : List E) (now : Int) (w' : World) : Prop := Keep M.F w w' ∧ ∃ M', MMoved w M M' ∧ MRep w' M' n R now
/-- appending a place, the row having been read before -/
theorem app_row {w0 w1 : World} {v : E} {now' : Int} {b : Nat} {K : Option Addr → Nat → Nat → World → Prop} (h : MRep w1 M n R now') (hs : w0.heap.size ≤ w1.heap.size) (hlt : ∀ i, M.F i → i < w0.heap.size) (hB : Blk w1 b (three v) 90) (hR : R.length ≤ 1048576)
    (hk : ∀ p' c' w', Keep M.F w1 w' → (∀ w'', (∀ i, ob p' i → i ≠ M.m) → Keep (One M.m) w' w'' → Blk w'' M.m [I n, .slice p' (R.length + 1) c', I now'] 87 → MRep w'' ⟨M.m, p', c'⟩ n (R ++ [v]) now') → (∀ i, ob p' i → i ≠ M.m) → MMoved w0 M ⟨M.m, p', c'⟩ → Blk w' M.m [I n, .slice M.rp R.length M.rc, I now'] 87 → K p' (R.length + 1) c' w') :
    ∃ (p' : Option Addr) (n' c' : Nat), ∃ w' : World, (Builtin.append_ #[85, 85] 85 #[.slice M.rp R.length M.rc, .slice (some ⟨b, 0, none⟩) 1 1]).run Try.prog w1 = .ok (.slice p' n' c') w' ∧ K p' n' c' w' := by
  refine app_of (e := 90) (sz := 3) (z := .agg #[I 0, I 0, I 0]) (B := 24) (news := three v) Try.underlying85 (by kernel_rfl) rfl (by omega) h.row ?_ (fun u hu => ?_) (by simp only [maxLen]; omega) (by omega) fun p' c' w' hO k hf => ?_
  · refine Or.inr ⟨_, rfl, rfl, fun j u hu => ?_⟩
    rw [add_mk, Nat.zero_add, hB.cell]; exact hu
  · simp only [three, List.mem_cons, List.not_mem_nil, or_false] at hu
    rcases hu with rfl | rfl | rfl <;> rfl
  · have hm : ∀ i, ob p' i → i ≠ M.m := fun i hi e => by
      rcases hf i hi with h1 | h1
      · exact h.ne (e ▸ h1)
      · have := hlt M.m (Or.inl rfl); omega
    refine hk p' c' w' (k.mono fun i _ h => Or.inr h) (fun w'' hm' k2 hB2 => ⟨?_, ?_, fun h => hm _ h rfl, h.small⟩) hm ⟨rfl, ?_⟩ (h.obj.keep k h.ne)
    · rw [List.length_append]; exact hB2
    · have := hO.keep k2 fun i hi h => hm i hi h
      rw [List.length_append, List.flatMap_append]
      simpa using this
    · rintro i (h1 | h1)
      · exact Or.inl (Or.inl h1)
      · rcases hf i h1 with h2 | h2
        · exact Or.inl (Or.inr h2)
        · exact Or.inr (by omega)
theorem decide28 (h : MRep w M n R now) (l : Int) (hl : -9223372036854775808 ≤ l ∧ l ≤ 9223372036854775807) (hR : R.length ≤ 1048576) (ha : ∀ e ∈ R, e.lit.natAbs ≤ 1048576) (hn : 0 ≤ now ∧ now ≤ 1048576) :
    Calls Try.prog 28 #[Pt M.m, I l] w fun e w' => e = .returned (I (freeA n R l)) ∧ MLaid w M n (if freeA n R l = 0 then R ++ [⟨l, now + 1, -1⟩] else R) (if freeA n R l = 0 then now + 1 else now) w' := by
  let Q : World → Prop := MLaid w M n (if freeA n R l = 0 then R ++ [⟨l, now + 1, -1⟩] else R) (if freeA n R l = 0 then now + 1 else now)
  refine (V28_calls (some ⟨M.m, 0, none⟩) l w (fun v w' => v = I (freeA n R l) ∧ Q w') ?_).mono fun e w' ⟨v, he, hv, hk⟩ => ⟨by rw [he, hv], hk⟩
  unfold V28
  refine cl_of ok41 (own41 h l hl.1) fun e w1 ⟨he, hw⟩ => ⟨_, he, ?_⟩
  subst hw
  rcases Bool.eq_false_or_eq_true (ownB n l) with hb | hb
  · rw [hb]
    refine pif_f rfl (cl_of ok42 (at42 h l hl hR ha) fun e w2 ⟨he, hw⟩ => ⟨_, he, ?_⟩)
    subst hw
    rcases idx_cases R l.natAbs with ⟨e1, e2⟩ | ⟨i, x, e1, e2, e3, e4⟩
    · have ef : freeA n R l = 0 := by unfold freeA; rw [hb, if_pos rfl, e2]
      rw [e1, ef]
      have eQ : Q = MLaid w2 M n (R ++ [⟨l, now + 1, -1⟩]) (now + 1) := by
        show MLaid w2 M n (if freeA n R l = 0 then R ++ [⟨l, now + 1, -1⟩] else R) (if freeA n R l = 0 then now + 1 else now) = _
        rw [ef]; simp
      rw [eQ]
      refine pif_f rfl (nn_of ?_)
      simp only [add_mk, Nat.zero_add, Nat.add_zero]
      refine ldI_of (h.obj.cell 2) (nn_of ?_)
      have ew : IntKind.wrap .i64 (now + 1) = now + 1 := by rw [IntKind.wrap_i64]; omega
      simp only [add_mk, Nat.zero_add, Nat.add_zero, ew]
      refine st_of h.obj (by simp) rfl fun w3 h3 k3 s3 => nn_of ?_
      have hlt := h.lt
      have hM3 : MRep w3 M n R (now + 1) := ⟨h3, h.row.keep k3 fun i hi e => h.ne (by have : i = M.m := e; exact this ▸ hi), h.ne, h.small⟩
      have hMd := hM3.drew
      have kd : Keep M.F w2 w3.drew := ((Keep.refl _ w2).thenS k3 (Or.inl rfl)).drew
      have sd : w3.drew.heap.size = w2.heap.size := s3
      generalize w3.drew = w4 at *
      simp only [add_mk, Nat.zero_add, Nat.add_zero]
      refine ldC_of (hMd.obj.cell 1) (nn_of ?_)
      simp only [add_mk, Nat.zero_add, Nat.add_zero]
      refine ldI_of (hMd.obj.cell 2) ?_
      refine alc_at fun b w5 hb5 h5 k5 => ?_
      have hM5 := hMd.keep0 k5
      have z5 := k5.size
      refine ⟨ldC_of (hM5.obj.cell 1) rfl, ?_⟩
      refine app_row (w0 := w2) (v := ⟨l, now + 1, -1⟩) hM5 (by omega) hlt h5 hR fun p' c' w6 k6 hfin hm mv hB6 => nn_of ?_
      simp only [add_mk, Nat.zero_add, Nat.add_zero]
      refine st_of hB6 (by simp) rfl fun w7 h7 k7 s7 => ⟨by first | rfl | trivial, ?_, _, mv, hfin w7 hm k7 h7⟩
      exact ((kd.then0 k5).trans k6 fun i _ h => h).thenS k7 (Or.inl rfl)
    · have ef : freeA n R l = 50 := by unfold freeA; rw [hb, if_pos rfl, e3]
      rw [e1, ef]
      have eQ : Q = MLaid w2 M n R now := by
        show MLaid w2 M n (if freeA n R l = 0 then R ++ [⟨l, now + 1, -1⟩] else R) (if freeA n R l = 0 then now + 1 else now) = _
        rw [ef]; simp
      rw [eQ]
      exact pif_t (by simp) ⟨rfl, Keep.refl _ _, M, MMoved.refl _ _, h⟩
  · have ef : freeA n R l = 1 := by unfold freeA; rw [hb, if_neg (by simp)]
    rw [hb, ef]
    have eQ : Q = MLaid w1 M n R now := by
      show MLaid w1 M n (if freeA n R l = 0 then R ++ [⟨l, now + 1, -1⟩] else R) (if freeA n R l = 0 then now + 1 else now) = _
      rw [ef]; simp
    rw [eQ]
    exact pif_t rfl ⟨rfl, Keep.refl _ _, M, MMoved.refl _ _, h⟩
end
end Go.Proofs.Ytioaaeianjgaoaa.Trail
