/- CopyEntries; LearnShapes. -/
import Derived.Test.YtlbpllpomdjooaaLearnC
set_option linter.unusedVariables false
set_option linter.unusedSimpArgs false
set_option maxRecDepth 100000
namespace Go.Proofs.Ytlbpllpomdjooaa.Learn
open Go Go.Proofs.Ytlbpllpomdjooaa.Vc Go.Proofs.Ytlbpllpomdjooaa.T
open Go.Proofs.Ytlbpllpomdjooaa.Apart (RdL own_rdl wrap_nat getE own_len copy same take_snoc Sl sv)

def flat (x : En × Sl) : List Value := [I x.1.lit, I x.1.lev, sv x.2]
theorem flat_len (xs : List (En × Sl)) : (xs.flatMap flat).length = xs.length * 3 := by
  induction xs with
  | nil => rfl
  | cons x xs ih => rw [List.flatMap_cons, List.length_append, ih, List.length_cons]; show 3 + _ = _; omega
theorem flat_at : ∀ {xs : List (En × Sl)} {i k : Nat} {x : En × Sl}, xs[i]? = some x → k < 3 → (xs.flatMap flat)[i * 3 + k]? = (flat x)[k]? := by
  intro xs
  induction xs with
  | nil => intro i k x h; cases h
  | cons y xs ih =>
    intro i k x h hk
    rw [List.flatMap_cons]
    cases i with
    | zero =>
      injection h with h
      subst h
      rw [List.getElem?_append_left (by show 0 * 3 + k < 3; omega), Nat.zero_mul, Nat.zero_add]
    | succ i =>
      rw [List.getElem?_append_right (by show 3 ≤ _; omega)]
      have : (i + 1) * 3 + k - (flat y).length = i * 3 + k := by show (i + 1) * 3 + k - 3 = _; omega
      rw [this]
      exact ih h hk
theorem info54 : (Try.prog.info? 54).map (fun i => (i.zero, i.size, i.bytes)) = some (some (.agg #[I 0, I 0, .slice none 0 0]), 3, 40) := by kernel_rfl
/-- a copy as far as it is made -/
structure Ce (w0 w : World) (p : Option Addr) (m c : Nat) (xs : List (En × Sl)) : Prop where
  own : Own w 54 3 p m c (xs.flatMap flat)
  each : ∀ x ∈ xs, Own w 3 1 x.2.1 x.2.2.1 x.2.2.2 (x.1.rs.map I) ∧ ∀ j, ob x.2.1 j → w0.heap.size ≤ j ∧ ¬ ob p j
  new : ∀ j, ob p j → w0.heap.size ≤ j
  keep : Keep None w0 w
theorem Ce.len {w0 w : World} {p : Option Addr} {m c : Nat} {xs : List (En × Sl)} (h : Ce w0 w p m c xs) : xs.length = m := by
  have := h.own.len
  rw [flat_len] at this
  omega
theorem Ce.keep0 {w0 w w' : World} {p : Option Addr} {m c : Nat} {xs : List (En × Sl)} (h : Ce w0 w p m c xs) (hk : Keep None w w') : Ce w0 w' p m c xs :=
  ⟨h.own.keep0 hk, fun x hx => ⟨(h.each x hx).1.keep0 hk, (h.each x hx).2⟩, h.new, h.keep.then0 hk⟩
theorem Ce.rde {w0 w : World} {p : Option Addr} {m c : Nat} {xs : List (En × Sl)} (h : Ce w0 w p m c xs) : RdE w p m (xs.map fun x => x.1) := by
  have hl := h.len
  refine ⟨by simpa using hl, fun i x hx => ?_⟩
  rw [List.getElem?_map] at hx
  obtain ⟨y, hy, rfl⟩ := Option.map_eq_some_iff.1 hx
  have hi := (List.getElem?_eq_some_iff.1 hy).1
  obtain ⟨hO, _⟩ := h.each y (List.mem_of_getElem? hy)
  have hown := h.own
  have h0 := hown
  rcases h0 with ⟨_, hm, _⟩ | ⟨b, cs, rfl, _⟩
  · omega
  have cell : ∀ k, k < 3 → w.cell? (((⟨b, 0, none⟩ : Addr).add (i * 3)).add k) = (flat y)[k]? := fun k hk => by
    rw [add_mk, add_mk, Nat.zero_add, hown.cell _ (by omega), flat_at hy hk]
  exact ⟨_, y.2.1, y.2.2.1, y.2.2.2, rfl, cell 0 (by omega), cell 1 (by omega), cell 2 (by omega), own_rdl hO⟩
section
variable {w w' : World} {p : Option Addr} {n c : Nat} {es : List En}
theorem copyE (h : RdE w p n es) (hn : n ≤ 1099511627776) (hr : ∀ x ∈ es, x.rs.length ≤ 1099511627776) :
    Calls Try.prog 11 #[.slice p n c] w fun e w' => ∃ q d xs, e = .returned (.slice q n d) ∧ Ce w w' q n d xs ∧ xs.map (fun x => x.1) = es := by
  refine (V11_calls p n c w (fun v w' => ∃ q d xs, v = .slice q n d ∧ Ce w w' q n d xs ∧ xs.map (fun x => x.1) = es) ?_).mono fun e w' ⟨r, he, q, d, xs, hr, hk⟩ => ⟨q, d, xs, by rw [he, hr], hk⟩
  unfold V11
  have hl := h.len
  refine lp_of (fun s w1 => ∃ (i : Nat) (xs : List (En × Sl)), s.2.1 = (i : Int) ∧ i ≤ n ∧ s.1.2.1 = i ∧ Ce w w1 s.1.1 i s.1.2.2 xs ∧ xs.map (fun x => x.1) = es.take i) (fun s _ => (n - s.2.1).toNat)
    ⟨0, [], rfl, Nat.zero_le _, rfl, ⟨Own.nil _ _ _, (fun x hx => by cases hx), (fun j ⟨a, hh, _⟩ => by cases hh), Keep.refl _ _⟩, rfl⟩ ?_
  rintro ⟨⟨q, qn, qc⟩, i', ⟨⟩⟩ w1 ⟨i, xs, rfl, hi, hqi, hC, hxs⟩
  simp only [] at hqi hC ⊢
  subst hqi
  refine pif_of (fun hlt => ?_) fun hge => ?_
  · have hlt : qn < n := by simpa using hlt
    rw [wrap_nat qn (by omega)]
    obtain ⟨x, hx⟩ := getE (show qn < es.length by omega)
    have hrx := hr x (List.mem_of_getElem? hx)
    refine (h.keep0 hC.keep).ix hx fun a ⟨r, rn, rc, c0, c1, c2, hq⟩ => ldC_of c2 ?_
    have hql := hq.len
    refine cl_of ok14 (copy hq (by omega)) fun e w2 ⟨v, he, s, d, hv, hO, hnew, k2⟩ => ⟨s, _, d, he.trans (congrArg Ending.returned hv), ?_⟩
    have hC2 := hC.keep0 k2
    have dr : Keep None w2 w2.drew := (Keep.refl _ _).drew
    have hd := h.keep0 (hC2.keep.then0 dr)
    refine hd.ix hx fun a ⟨_, _, _, c0, _⟩ => ldI_of c0 (hd.ix hx fun a ⟨_, _, _, _, c1, _⟩ => ldI_of c1 (alc_at fun b w3 hb hB k3 => ?_))
    have hC3 := (hC2.keep0 dr).keep0 k3
    have hO3 := (hO.keep0 dr).keep0 k3
    have z1 := hC.keep.size
    have z2 := k2.size
    have hN : News w3 3 (some ⟨b, 0, none⟩) 1 1 (flat (x, (s, x.rs.length, d))) := Or.inr ⟨_, rfl, rfl, fun j u hu => by
      rw [add_mk, Nat.zero_add, hB.cell]; exact hu⟩
    refine app_of2 (e := 54) (sz := 3) (z := .agg #[I 0, I 0, .slice none 0 0]) (B := 40) Try.underlying22 info54 rfl (by omega) hC3.own hN (fun u hu => ?_) (by simp only [maxLen]; omega) (by omega) fun p' c' w4 hO4 hdd => ⟨⟨qn + 1, xs ++ [(x, (s, x.rs.length, d))], rfl, hlt, rfl, ⟨?_, fun y hy => ?_, fun j hj => ?_, ?_⟩, ?_⟩, by omega⟩
    · simp only [flat, List.mem_cons, List.not_mem_nil, or_false] at hu
      rcases hu with rfl | rfl | rfl <;> rfl
    · rw [List.flatMap_append, List.flatMap_singleton]; exact hO4
    · have hob : ∀ j, ob p' j → ob q j ∨ w3.heap.size ≤ j := fun j hj => by
        rcases hdd with ⟨e, _, _, _⟩ | ⟨e, _⟩
        · rw [e] at hj; exact Or.inl hj
        · exact Or.inr (e j hj)
      have kq : Keep (ob q) w3 w4 := by
        rcases hdd with ⟨_, _, _, k⟩ | ⟨_, k⟩
        · exact k
        · exact k.none
      rw [List.mem_append, List.mem_singleton] at hy
      rcases hy with hy | rfl
      · obtain ⟨h1, h2⟩ := hC3.each y hy
        refine ⟨h1.keep kq fun j hj hh => (h2 j hj).2 hh, fun j hj => ⟨(h2 j hj).1, fun hh => ?_⟩⟩
        rcases hob j hh with h5 | h5
        · exact (h2 j hj).2 h5
        · have := h1.lt j hj; omega
      · have hno : ∀ j, ob s j → ¬ ob q j := fun j hj hh => by have := hnew j hj; have := hC.own.lt j hh; omega
        refine ⟨hO3.keep kq fun j hj hh => hno j hj hh, fun j hj => ⟨by have := hnew j hj; omega, fun hh => ?_⟩⟩
        rcases hob j hh with h5 | h5
        · exact hno j hj h5
        · have := hO3.lt j hj; omega
    · rcases hdd with ⟨e, _, _, _⟩ | ⟨e, _⟩
      · rw [e] at hj; exact hC.new j hj
      · have := e j hj; have := hC3.keep.size; omega
    · rcases hdd with ⟨_, _, _, k⟩ | ⟨_, k⟩
      · exact hC3.keep.trans k fun j hj hh => by have := hC.new j hh; omega
      · exact hC3.keep.then0 k
    · rw [List.map_append, hxs, take_snocE hx]; rfl
  · have hge : qn = n := by simp at hge; omega
    subst hge
    exact ⟨q, qc, xs, rfl, hC, by rw [hxs, ← hl, List.take_length]⟩
theorem law3 (h : RdE w p n es) (hn : n ≤ 1099511627776) (hc : n ≤ c) (hr : ∀ x ∈ es, x.rs.length ≤ 1099511627776) :
    Calls Try.prog 3 #[.slice p n c] w fun e w' => e = .returned (.bool true) ∧ RowKit.Below w.heap.size w w' := by
  refine (ans_of (V3_calls p n c w (Ans w _) ?_)).mono fun e w' ⟨he, hk⟩ => ⟨he, hk.below0⟩
  unfold V3
  refine cl_of ok11 (copyE h hn hr) fun e w1 ⟨q, d, xs, he, hC, hxs⟩ => ⟨_, _, _, he, ?_⟩
  have hE := hC.rde
  rw [hxs] at hE
  have k1 := hC.keep
  refine cl_of ok10 (formed10 hE hn hr) fun e w2 ⟨b, he, hb, k2⟩ => ⟨b, he, ?_⟩
  have k02 := k1.then0 k2
  refine cl_of ok12 (formed12 (h.keep0 k02) hn hc hr) fun e w3 ⟨b2, he, hb2, k3⟩ => ⟨b2, he, ?_⟩
  have e1 : b = b2 := by rw [Bool.eq_iff_iff, hb, hb2]
  subst e1
  have e2 : (b == b) = true := by simp
  rw [e2]
  have hnil : RdE w3 none 0 [] := ⟨rfl, fun i x hx => by simp at hx⟩
  refine gd_t rfl (cl_of ok10 (formed10 hnil (by omega) (fun x hx => by cases hx)) fun e w4 ⟨b3, he, hb3, k4⟩ => ⟨b3, he, ?_, (k02.then0 k3).then0 k4⟩)
  have e3 : b3 = true := hb3.2 fun i x hx => by simp at hx
  rw [e3]; rfl
end
end Go.Proofs.Ytlbpllpomdjooaa.Learn
