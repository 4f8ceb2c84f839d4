/- Lists of ints in memory: what the other texts need of the Apart texts, where no ApartInts is reached. -/
import Derived.Test.YtjpblaenebodlaaVcA
import Derived.Test.YtjpblaenebodlaaProg
set_option linter.unusedVariables false
set_option linter.unusedSimpArgs false
set_option maxRecDepth 100000
namespace Go.Proofs.Ytjpblaenebodlaa.Apart
open Go Go.Proofs.Ytjpblaenebodlaa.Vc

abbrev J (n : Int) : Value := .int .i64 n
abbrev Sl := Option Addr × Nat × Nat
def sv (x : Sl) : Value := .slice x.1 x.2.1 x.2.2
theorem getE {α : Type} {l : List α} {k : Nat} (h : k < l.length) : ∃ x, l[k]? = some x := ⟨_, List.getElem?_eq_getElem h⟩
theorem own_len {w : World} {e : TypeId} {p : Option Addr} {n c : Nat} {ys : List Int} (h : Own w e 1 p n c (ys.map J)) : ys.length = n := by
  have := h.len; simpa using this
theorem wrap_nat (i : Nat) (h : i < 4611686018427387904) : IntKind.wrap .i64 ((i : Int) + 1) = ((i + 1 : Nat) : Int) := by rw [IntKind.wrap_i64]; omega
theorem own_wr {w : World} {x : Sl} {ys : List Int} {i : Nat} {v : Int} {K : World → Prop} (h : Own w 3 1 x.1 x.2.1 x.2.2 (ys.map J)) (hi : i < x.2.1)
    (hK : ∀ w', Own w' 3 1 x.1 x.2.1 x.2.2 ((ys.set i v).map J) → Keep (ob x.1) w w' → K w') : ixA x.1 x.2.1 (i : Int) 1 fun a => st w (a.add 0) (J v) K := by
  refine h.ix (by omega) (by omega) fun b hb => ?_
  rw [Nat.mul_one, Int.toNat_natCast, add_mk, Nat.add_zero]
  have h' := h
  rw [hb] at h'
  refine h'.st (by omega) rfl fun w' hO hk _ => ?_
  refine hK w' ?_ (hk.mono fun j _ hj => ⟨_, hb, hj.symm⟩)
  rw [List.map_set, hb]
  exact hO
theorem own_rd {w : World} {x : Sl} {ys : List Int} {i : Nat} {v : Int} {K : Int → Prop} (h : Own w 3 1 x.1 x.2.1 x.2.2 (ys.map J)) (hi : i < x.2.1) (hv : ys[i]? = some v)
    (hK : K v) : ixA x.1 x.2.1 (i : Int) 1 fun a => ldI .i64 w a K := by
  refine h.ix (by omega) (by omega) fun b hb => ?_
  rw [Nat.mul_one, Int.toNat_natCast]
  have h' := h
  rw [hb] at h'
  exact ldI_of (by rw [h'.cell _ (by omega), List.getElem?_map, hv]; rfl) hK
/-- .. where more is asked of the cell -/
theorem own_rd2 {w : World} {x : Sl} {ys : List Int} {i : Nat} {v : Int} {K : Addr → Prop} (h : Own w 3 1 x.1 x.2.1 x.2.2 (ys.map J)) (hi : i < x.2.1) (hv : ys[i]? = some v)
    (hK : ∀ a, w.cell? a = some (J v) → K a) : ixA x.1 x.2.1 (i : Int) 1 K := by
  refine h.ix (by omega) (by omega) fun b hb => ?_
  rw [Nat.mul_one, Int.toNat_natCast]
  have h' := h
  rw [hb] at h'
  exact hK _ (by rw [h'.cell _ (by omega), List.getElem?_map, hv]; rfl)

theorem app1 {w : World} {g : Sl} {ys : List Int} {v : Int} {K : Option Addr → Nat → Nat → World → Prop} (hO : Own w 3 1 g.1 g.2.1 g.2.2 (ys.map J)) (hs : g.2.1 < 17592186044416)
    (hk : ∀ g' : Sl, ∀ w', g'.2.1 = g.2.1 + 1 → Own w' 3 1 g'.1 g'.2.1 g'.2.2 ((ys ++ [v]).map J) → ((g'.1 = g.1 ∧ g'.2.2 = g.2.2 ∧ Keep (ob g.1) w w') ∨ ((∀ i, ob g'.1 i → w.heap.size ≤ i) ∧ Keep None w w')) → K g'.1 g'.2.1 g'.2.2 w') :
    alc w [J v] 3 fun b w7 => ∃ (p' : Option Addr) (n' c' : Nat), ∃ w' : World, (Builtin.append_ #[29, 29] 29 #[.slice g.1 g.2.1 g.2.2, .slice (some ⟨b, 0, none⟩) 1 1]).run Try.prog w7 = .ok (.slice p' n' c') w' ∧ K p' n' c' w' := by
  refine alc_at fun b w7 hb7 h7 k7 => ?_
  have z7 := k7.size
  refine app_of2 (e := 3) (sz := 1) (z := J 0) (B := 8) Try.underlying29 (by kernel_rfl) rfl (by omega) (hO.keep0 k7) h7.news1 (fun u hu => ?_) (by simp only [maxLen]; omega) (by omega) fun p' c' w' hO' hd => ?_
  · simp only [List.mem_singleton] at hu; subst hu; rfl
  · refine hk (p', g.2.1 + 1, c') w' rfl (by simpa using hO') ?_
    rcases hd with ⟨e1, e2, _, k⟩ | ⟨e1, k⟩
    · exact Or.inl ⟨e1, e2, (k7.none).trans k fun _ _ h => h⟩
    · exact Or.inr ⟨fun i hi => by have := e1 i hi; omega, k7.then0 k⟩
end Go.Proofs.Ytjpblaenebodlaa.Apart
