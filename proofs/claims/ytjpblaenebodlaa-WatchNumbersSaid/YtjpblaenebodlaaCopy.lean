/- CopyInts and SameInts. -/
import Derived.Test.YtjpblaenebodlaaBase
import Derived.Test.YtjpblaenebodlaaTLits
set_option linter.unusedVariables false
set_option linter.unusedSimpArgs false
set_option maxRecDepth 100000
namespace Go.Proofs.Ytjpblaenebodlaa.Apart
open Go Go.Proofs.Ytjpblaenebodlaa.Vc Go.Proofs.Ytjpblaenebodlaa.T

/-- a list of ints wherever it lies, to be read -/
structure RdL (w : World) (p : Option Addr) (n : Nat) (cs : List Int) : Prop where
  len : cs.length = n
  cell : ∀ (i : Nat) (x : Int), cs[i]? = some x → ∃ a, p = some a ∧ w.cell? (a.add i) = some (J x)
theorem RdL.keep {S : Nat → Prop} {w w' : World} {p : Option Addr} {n : Nat} {cs : List Int} (h : RdL w p n cs) (hk : Keep S w w') (hs : ∀ i, ob p i → ¬ S i) : RdL w' p n cs :=
  ⟨h.len, fun i x hx => by
    obtain ⟨a, e, hc⟩ := h.cell i x hx
    refine ⟨a, e, hk.cell hc fun h => hs _ ⟨a, e, rfl⟩ ?_⟩
    have : (a.add i).block = a.block := by unfold Addr.add; split <;> rfl
    rwa [this] at h⟩
theorem RdL.keep0 {w w' : World} {p : Option Addr} {n : Nat} {cs : List Int} (h : RdL w p n cs) (hk : Keep None w w') : RdL w' p n cs := h.keep hk fun _ _ h => h
theorem RdL.ix {w : World} {p : Option Addr} {n : Nat} {cs : List Int} {i : Nat} {K : Addr → Prop} (h : RdL w p n cs) (h1 : i < n) (hk : ∀ a x, cs[i]? = some x → w.cell? a = some (J x) → K a) : ixA p n (i : Int) 1 K := by
  have hl := h.len
  obtain ⟨x, hx⟩ := getE (show i < cs.length by omega)
  obtain ⟨a, rfl, hc⟩ := h.cell i x hx
  refine ⟨by omega, by omega, ?_⟩
  show K _
  rw [Nat.mul_one, Int.toNat_natCast]
  exact hk _ x hx hc
theorem own_rdl {w : World} {p : Option Addr} {n c : Nat} {xs : List Int} (h : Own w 3 1 p n c (xs.map J)) : RdL w p n xs := by
  have hl := own_len h
  refine ⟨hl, fun i x hx => ?_⟩
  have hi := (List.getElem?_eq_some_iff.1 hx).1
  rcases h with ⟨_, rfl, _, _⟩ | ⟨b, cs, rfl, hB, h1, h2, h3, h4⟩
  · omega
  · refine ⟨_, rfl, ?_⟩
    rw [add_mk, Nat.zero_add, hB.cell]
    have : (cs.take (n * 1))[i]? = some (J x) := by rw [h4, List.getElem?_map, hx]; rfl
    rw [List.getElem?_take, if_pos (by omega)] at this
    exact this
theorem take_snoc {cs : List Int} {i : Nat} {x : Int} (hx : cs[i]? = some x) : cs.take (i + 1) = cs.take i ++ [x] := by
  rw [List.take_add_one, hx]; rfl

/-- a fresh list -/
def New (w : World) (xs : List Int) (v : Value) (w' : World) : Prop := ∃ p c, v = .slice p xs.length c ∧ Own w' 3 1 p xs.length c (xs.map J) ∧ (∀ i, ob p i → w.heap.size ≤ i) ∧ Keep None w w'
/-- a list of the call's own that grows -/
structure Gro (w0 w : World) (p : Option Addr) (m c : Nat) (xs : List Int) : Prop where
  own : Own w 3 1 p m c (xs.map J)
  new : ∀ i, ob p i → w0.heap.size ≤ i
  keep : Keep None w0 w
theorem Gro.nil (w : World) : Gro w w none 0 0 [] := ⟨Own.nil _ _ _, (fun i ⟨a, h, _⟩ => by cases h), Keep.refl _ _⟩
theorem Gro.len {w0 w : World} {p : Option Addr} {m c : Nat} {xs : List Int} (h : Gro w0 w p m c xs) : xs.length = m := own_len h.own
theorem Gro.keep0 {w0 w w1 : World} {p : Option Addr} {m c : Nat} {xs : List Int} (h : Gro w0 w p m c xs) (hk : Keep None w w1) : Gro w0 w1 p m c xs := ⟨h.own.keep0 hk, h.new, h.keep.then0 hk⟩
theorem Gro.app {w0 w : World} {p : Option Addr} {m c : Nat} {xs : List Int} {v : Int} {K : Option Addr → Nat → Nat → World → Prop} (h : Gro w0 w p m c xs) (hs : m < 17592186044416)
    (hk : ∀ p' c' w', Gro w0 w' p' (m + 1) c' (xs ++ [v]) → K p' (m + 1) c' w') :
    alc w [J v] 3 fun b w7 => ∃ (p' : Option Addr) (n' c' : Nat), ∃ w' : World, (Builtin.append_ #[29, 29] 29 #[.slice p m c, .slice (some ⟨b, 0, none⟩) 1 1]).run Try.prog w7 = .ok (.slice p' n' c') w' ∧ K p' n' c' w' := by
  refine app1 (g := (p, m, c)) h.own hs fun g' w' e1 hO hd => ?_
  simp only [] at e1 hd
  rw [e1] at hO ⊢
  refine hk g'.1 g'.2.2 w' ⟨hO, fun i hi => ?_, ?_⟩
  · rcases hd with ⟨e, _, _⟩ | ⟨e, _⟩
    · rw [e] at hi; exact h.new i hi
    · have := e i hi; have := h.keep.size; omega
  · rcases hd with ⟨_, _, k⟩ | ⟨_, k⟩
    · exact h.keep.trans k fun i hi hh => by have := h.new i hh; omega
    · exact h.keep.then0 k
theorem Gro.done {w0 w : World} {p : Option Addr} {m c : Nat} {xs : List Int} (h : Gro w0 w p m c xs) : New w0 xs (.slice p m c) w := by
  have hl := h.len
  subst hl
  exact ⟨p, c, rfl, h.own, h.new, h.keep⟩

section
variable {w : World} {p : Option Addr} {n c : Nat} {cs : List Int}
theorem copy (h : RdL w p n cs) (hn : n ≤ 17592186044416) : Calls Try.prog 13 #[.slice p n c] w fun e w' => ∃ v, e = .returned v ∧ New w cs v w' := by
  refine V13_calls p n c w (New w cs) ?_
  unfold V13
  have hlen := h.len
  refine lp_of (fun s w1 => ∃ i : Nat, s.2.1 = i ∧ i ≤ n ∧ s.1.2.1 = i ∧ Gro w w1 s.1.1 s.1.2.1 s.1.2.2 (cs.take i)) (fun s _ => (n - s.2.1).toNat) ⟨0, rfl, Nat.zero_le _, rfl, Gro.nil w⟩ ?_
  rintro ⟨⟨q, m, d⟩, i', ⟨⟩⟩ w1 ⟨i, rfl, hi, hm, hG⟩
  simp only [] at hm hG ⊢
  subst hm
  refine pif_of (fun hlt => ?_) fun hge => ?_
  · have hlt : m < n := by simpa using hlt
    refine (h.keep0 hG.keep).ix hlt fun a x hx ha => ldI_of ha ?_
    rw [wrap_nat m (by omega)]
    exact hG.app (by omega) fun p' c' w' hG' => ⟨⟨m + 1, rfl, hlt, rfl, by rw [take_snoc hx]; exact hG'⟩, by omega⟩
  · have hge : m = n := by simp at hge; omega
    subst hge
    rw [← hlen, List.take_length] at hG
    rw [← hlen]
    exact hG.done
theorem same {q : Option Addr} {m d : Nat} {ys : List Int} (hx : RdL w p n cs) (hy : RdL w q m ys) (hn : n ≤ 17592186044416) :
    Calls Try.prog 16 #[.slice p n c, .slice q m d] w fun e w' => e = .returned (.bool (decide (cs = ys))) ∧ Keep None w w' := by
  refine (V16_calls p n c q m d w (fun v w' => v = .bool (decide (cs = ys)) ∧ Keep None w w') ?_).mono fun e w' ⟨v, he, hv, hk⟩ => ⟨by rw [he, hv], hk⟩
  unfold V16
  have lx := hx.len
  have ly := hy.len
  refine pif_of (fun h => ?_) fun h => ?_
  · have h : ¬ n = m := by simp at h; omega
    refine ⟨?_, Keep.refl _ _⟩
    congr 1
    symm
    rw [decide_eq_false_iff_not]
    intro e
    rw [e] at lx; omega
  have h : n = m := by simp at h; omega
  subst h
  refine lp_of (fun s w1 => ∃ i : Nat, s.1 = i ∧ i ≤ n ∧ cs.take i = ys.take i ∧ Keep None w w1) (fun s _ => (n - s.1).toNat) ⟨0, rfl, Nat.zero_le _, rfl, Keep.refl _ _⟩ ?_
  rintro ⟨i', ⟨⟩⟩ w1 ⟨i, rfl, hi, heq, hk⟩
  simp only []
  refine pif_of (fun hlt => ?_) fun hge => ?_
  · have hlt : i < n := by simpa using hlt
    refine (hx.keep0 hk.drew).ix hlt fun a x hx1 ha => ldI_of ha ((hy.keep0 hk.drew).ix hlt fun b y hy1 hb => ldI_of hb ?_)
    rw [wrap_nat i (by omega)]
    refine pif_of (fun hne => ⟨?_, hk.drew⟩) fun he => ?_
    · have hne : ¬ x = y := by simpa using hne
      congr 1
      symm
      rw [decide_eq_false_iff_not]
      intro e
      rw [e, hy1] at hx1
      injection hx1 with hx1
      exact hne hx1.symm
    · have he : x = y := by simpa using he
      subst he
      exact ⟨⟨i + 1, rfl, hlt, by rw [take_snoc hx1, take_snoc hy1, heq], hk.drew⟩, by omega⟩
  · have hge : i = n := by simp at hge; omega
    subst hge
    refine ⟨?_, hk⟩
    congr 1
    symm
    rw [decide_eq_true_eq]
    rw [← lx, List.take_length, lx, ← ly, List.take_length] at heq
    exact heq
end
end Go.Proofs.Ytjpblaenebodlaa.Apart
