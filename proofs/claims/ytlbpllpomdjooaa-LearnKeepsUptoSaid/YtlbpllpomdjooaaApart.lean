/- ApartInts answers true of lists of numbers that lie apart, and turns nothing but them. -/
import Derived.Test.YtlbpllpomdjooaaVcA
import Derived.Test.YtlbpllpomdjooaaTL
set_option linter.unusedVariables false
set_option linter.unusedSimpArgs false
set_option maxRecDepth 100000
namespace Go.Proofs.Ytlbpllpomdjooaa.Apart
open Go Go.Proofs.Ytlbpllpomdjooaa.Vc Go.Proofs.Ytlbpllpomdjooaa.T

abbrev J (n : Int) : Value := .int .i64 n
abbrev Sl := Option Addr × Nat × Nat
def sv (x : Sl) : Value := .slice x.1 x.2.1 x.2.2
def mkW (k i : Int) : Int := IntKind.wrap .i64 ((IntKind.wrap .i64 (1000003 * (IntKind.wrap .i64 (k + 7)))) + i)
def mks (k : Int) (n : Nat) : List Int := (List.range n).map fun i => mkW k (i : Nat)
theorem mks_len (k : Int) (n : Nat) : (mks k n).length = n := by simp [mks]
theorem mks_succ (k : Int) (n : Nat) : mks k (n + 1) = mks k n ++ [mkW k n] := by simp [mks, List.range_succ]
theorem mks_at {k : Int} {n i : Nat} (h : i < n) : (mks k n)[i]? = some (mkW k i) := by simp [mks, h]
theorem mks_take {k : Int} {n m : Nat} (h : m ≤ n) : (mks k n).take m = mks k m := by
  unfold mks
  rw [← List.map_take, List.take_range, Nat.min_eq_left h]
theorem mark (k i : Int) (w : World) : Calls Try.prog 54 #[J k, J i] w fun e w' => e = .returned (J (mkW k i)) ∧ w' = w := by
  refine (V54_calls k i w (fun v w' => v = J (mkW k i) ∧ w' = w) ?_).mono fun e w' ⟨v, he, hv, hk⟩ => ⟨by rw [he, hv], hk⟩
  unfold V54
  exact ⟨rfl, rfl⟩
theorem getE {α : Type} {l : List α} {k : Nat} (h : k < l.length) : ∃ x, l[k]? = some x := ⟨_, List.getElem?_eq_getElem h⟩

section
variable {w w' : World} {e : TypeId}
theorem own_share {b : Addr} {n n' c c' : Nat} {xs ys : List Value} (h : Own w e 1 (some b) n c xs) (h' : Own w e 1 (some b) n' c' ys) : c = c' := by
  rcases h with ⟨h, _⟩ | ⟨g, cs, hp, hB, _, _, hl, _⟩
  · cases h
  rcases h' with ⟨h, _⟩ | ⟨g', cs', hp', hB', _, _, hl', _⟩
  · cases h
  rw [hp] at hp'
  simp only [Option.some.injEq, Addr.mk.injEq, and_true] at hp'
  subst hp'
  unfold Blk at hB hB'
  rw [hB] at hB'
  simp only [Option.some.injEq, Obj.cells.injEq, and_true] at hB'
  have : cs = cs' := by simpa using hB'
  subst this
  omega
/-- a list over a block that another one, which goes on farther, may share: it stays as it was -/
theorem own_pre {x gp : Option Addr} {n c gn gc gm : Nat} {xs ys zs : List Value} (hx : Own w e 1 x n c xs) (hg : Own w e 1 gp gn gc ys) (hg' : Own w' e 1 gp gm gc zs) (hm : n ≤ gm) (hz : zs.take n = xs)
    (hk : Keep (ob gp) w w') : Own w' e 1 x n c xs := by
  by_cases hs : ∃ i, ob x i ∧ ob gp i
  · obtain ⟨i, hxi, hgi⟩ := hs
    have hx0 := hx
    have hg0 := hg
    rcases hx0 with ⟨h, _⟩ | ⟨b, cs, rfl, _⟩
    · rw [h] at hxi; obtain ⟨a, h, _⟩ := hxi; cases h
    rcases hg0 with ⟨h, _⟩ | ⟨b', cs', rfl, _⟩
    · rw [h] at hgi; obtain ⟨a, h, _⟩ := hgi; cases h
    obtain ⟨a, ha, rfl⟩ := hxi
    obtain ⟨a', ha', hb⟩ := hgi
    injection ha with ha
    injection ha' with ha'
    subst ha ha'
    simp only [] at hb
    subst hb
    have := own_share hx hg
    subst this
    have := hg'.cut hm
    rw [Nat.mul_one, hz] at this
    exact this
  · exact hx.keep hk fun i hi hg => hs ⟨i, hi, hg⟩
end

/-- lists over blocks of their own: o tells whose a block is -/
structure Ls (w : World) (tag : Int) (p : Option Addr) (n c : Nat) (xs : List Sl) (Y : Nat → List Int → Prop) (o : Nat → Int) : Prop where
  out : Own w 25 1 p n c (xs.map sv)
  each : ∀ (k : Nat) (x : Sl), xs[k]? = some x → ∃ ys, Own w 3 1 x.1 x.2.1 x.2.2 (ys.map J) ∧ Y k ys
  ow : ∀ i, ob p i → o i = tag
  oe : ∀ (k : Nat) (x : Sl), xs[k]? = some x → ∀ i, ob x.1 i → o i = k
theorem Ls.len {w : World} {tag : Int} {p : Option Addr} {n c : Nat} {xs : List Sl} {Y : Nat → List Int → Prop} {o : Nat → Int} (h : Ls w tag p n c xs Y o) : xs.length = n := by
  have := h.out.len
  simpa using this
theorem Ls.reown {w : World} {tag : Int} {p : Option Addr} {n c : Nat} {xs : List Sl} {Y : Nat → List Int → Prop} {o o' : Nat → Int} (h : Ls w tag p n c xs Y o) (ho : ∀ i, i < w.heap.size → o' i = o i) : Ls w tag p n c xs Y o' :=
  ⟨h.out, h.each, fun i hi => by rw [ho i (h.out.lt i hi)]; exact h.ow i hi, fun k x hx i hi => by
    obtain ⟨ys, hO, _⟩ := h.each k x hx
    rw [ho i (hO.lt i hi)]; exact h.oe k x hx i hi⟩
theorem Ls.keep {w w' : World} {tag : Int} {p : Option Addr} {n c : Nat} {xs : List Sl} {Y : Nat → List Int → Prop} {o : Nat → Int} {S : Nat → Prop} (h : Ls w tag p n c xs Y o) (hk : Keep S w w')
    (h1 : ∀ i, ob p i → ¬ S i) (h2 : ∀ (k : Nat) (x : Sl), xs[k]? = some x → ∀ i, ob x.1 i → ¬ S i) : Ls w' tag p n c xs Y o :=
  ⟨h.out.keep hk h1, fun k x hx => by
    obtain ⟨ys, hO, hy⟩ := h.each k x hx
    exact ⟨ys, hO.keep hk (h2 k x hx), hy⟩, h.ow, h.oe⟩
theorem Ls.keep0 {w w' : World} {tag : Int} {p : Option Addr} {n c : Nat} {xs : List Sl} {Y : Nat → List Int → Prop} {o : Nat → Int} (h : Ls w tag p n c xs Y o) (hk : Keep None w w') : Ls w' tag p n c xs Y o :=
  h.keep hk (fun _ _ h => h) fun _ _ _ _ _ h => h
theorem Ls.mono {w : World} {tag : Int} {p : Option Addr} {n c : Nat} {xs : List Sl} {Y Y' : Nat → List Int → Prop} {o : Nat → Int} (h : Ls w tag p n c xs Y o) (hy : ∀ (k : Nat) (x : Sl) (ys : List Int), xs[k]? = some x → ys.length = x.2.1 → Y k ys → Y' k ys) : Ls w tag p n c xs Y' o :=
  ⟨h.out, fun k x hx => by
    obtain ⟨ys, hO, h⟩ := h.each k x hx
    exact ⟨ys, hO, hy k x ys hx (by have := hO.len; simpa using this) h⟩, h.ow, h.oe⟩
/-- one list anew, the others' blocks as they were -/
theorem Ls.turn {w w' : World} {tag : Int} {p : Option Addr} {n c : Nat} {xs : List Sl} {Y Y' : Nat → List Int → Prop} {o : Nat → Int} {S : Nat → Prop} (h : Ls w tag p n c xs Y o) (k : Nat) (x : Sl) (hx : xs[k]? = some x)
    (hk : Keep S w w') (hS : ∀ i, S i → o i = k) (htag : tag < 0) {ys : List Int} (hO : Own w' 3 1 x.1 x.2.1 x.2.2 (ys.map J)) (hy : Y' k ys) (hY : ∀ j zs, j ≠ k → Y j zs → Y' j zs) : Ls w' tag p n c xs Y' o :=
  ⟨h.out.keep hk fun i hi hs => by have := h.ow i hi; have := hS i hs; omega, fun j z hz => by
    by_cases hj : j = k
    · subst hj
      rw [hx] at hz; injection hz with hz; subst hz
      exact ⟨ys, hO, hy⟩
    · obtain ⟨zs, hO', hy'⟩ := h.each j z hz
      refine ⟨zs, hO'.keep hk fun i hi hs => ?_, hY j zs hj hy'⟩
      have := h.oe j z hz i hi
      have := hS i hs
      omega, h.ow, h.oe⟩
theorem Ls.at {w : World} {tag : Int} {p : Option Addr} {n c : Nat} {xs : List Sl} {Y : Nat → List Int → Prop} {o : Nat → Int} {k : Nat} {K : Addr → Prop} (h : Ls w tag p n c xs Y o) (hk : k < n)
    (hK : ∀ x b, xs[k]? = some x → p = some ⟨b, 0, none⟩ → w.cell? ⟨b, k, none⟩ = some (sv x) → K ⟨b, k, none⟩) : ixA p n (k : Int) 1 K := by
  have hl := h.len
  obtain ⟨x, hx⟩ := getE (show k < xs.length by omega)
  refine h.out.ix (by omega) (by omega) fun b hb => ?_
  rw [Nat.mul_one, Int.toNat_natCast]
  refine hK x b hx hb ?_
  have hO := h.out
  rw [hb] at hO
  rw [hO.cell _ (by omega), List.getElem?_map, hx]; rfl
theorem Ls.rd {w : World} {tag : Int} {p : Option Addr} {n c : Nat} {xs : List Sl} {Y : Nat → List Int → Prop} {o : Nat → Int} {k : Nat} {K : Option Addr → Nat → Nat → Prop} (h : Ls w tag p n c xs Y o) (hk : k < n)
    (hK : ∀ x, xs[k]? = some x → K x.1 x.2.1 x.2.2) : ixA p n (k : Int) 1 fun a => ldC w a K :=
  h.at hk fun x b hx hb hc => ldC_of hc (hK x hx)
/-- all k lists' blocks may have turned -/
def Lists (o : Nat → Int) : Nat → Prop := fun i => 0 ≤ o i
theorem keep_lists {w w1 w2 : World} {o o' : Nat → Int} {S : Nat → Prop} {k : Nat} (h : Keep (Lists o) w w1) (ho : ∀ i, i < w.heap.size → o' i = o i) (hk : Keep S w1 w2) (hS : ∀ i, S i → o' i = k) : Keep (Lists o) w w2 :=
  h.trans hk fun i hi hs => by
    show 0 ≤ o i
    have := hS i hs
    rw [ho i hi] at this
    omega
theorem own_wr {w : World} {x : Sl} {ys : List Int} {i : Nat} {v : Int} {K : World → Prop} (h : Own w 3 1 x.1 x.2.1 x.2.2 (ys.map J)) (hi : i < x.2.1)
    (hK : ∀ w', Own w' 3 1 x.1 x.2.1 x.2.2 ((ys.set i v).map J) → Keep (ob x.1) w w' → K w') : ixA x.1 x.2.1 (i : Int) 1 fun a => st w (a.add 0) (J v) K := by
  refine h.ix (by omega) (by omega) fun b hb => ?_
  rw [Nat.mul_one, Int.toNat_natCast, add_mk, Nat.add_zero]
  have h' := h
  rw [hb] at h'
  refine h'.st (by omega) rfl fun w' hO hk _ => ?_
  refine hK w' ?_ (hk.mono fun j _ hj => ⟨_, hb, hj.symm⟩)
  rw [List.map_set, hb]
  exact hO
theorem own_rd {w : World} {x : Sl} {ys : List Int} {i : Nat} {v : Int} {K : Int → Prop} (h : Own w 3 1 x.1 x.2.1 x.2.2 (ys.map J)) (hi : i < x.2.1) (hv : ys[i]? = some v)
    (hK : K v) : ixA x.1 x.2.1 (i : Int) 1 fun a => ldI .i64 w a K := by
  refine h.ix (by omega) (by omega) fun b hb => ?_
  rw [Nat.mul_one, Int.toNat_natCast]
  have h' := h
  rw [hb] at h'
  exact ldI_of (by rw [h'.cell _ (by omega), List.getElem?_map, hv]; rfl) hK
/-- .. where more is asked of the cell -/
theorem own_rd2 {w : World} {x : Sl} {ys : List Int} {i : Nat} {v : Int} {K : Addr → Prop} (h : Own w 3 1 x.1 x.2.1 x.2.2 (ys.map J)) (hi : i < x.2.1) (hv : ys[i]? = some v)
    (hK : ∀ a, w.cell? a = some (J v) → K a) : ixA x.1 x.2.1 (i : Int) 1 K := by
  refine h.ix (by omega) (by omega) fun b hb => ?_
  rw [Nat.mul_one, Int.toNat_natCast]
  have h' := h
  rw [hb] at h'
  exact hK _ (by rw [h'.cell _ (by omega), List.getElem?_map, hv]; rfl)

theorem app1 {w : World} {g : Sl} {ys : List Int} {v : Int} {K : Option Addr → Nat → Nat → World → Prop} (hO : Own w 3 1 g.1 g.2.1 g.2.2 (ys.map J)) (hs : g.2.1 < 2199023255552)
    (hk : ∀ g' : Sl, ∀ w', g'.2.1 = g.2.1 + 1 → Own w' 3 1 g'.1 g'.2.1 g'.2.2 ((ys ++ [v]).map J) → ((g'.1 = g.1 ∧ g'.2.2 = g.2.2 ∧ Keep (ob g.1) w w') ∨ ((∀ i, ob g'.1 i → w.heap.size ≤ i) ∧ Keep None w w')) → K g'.1 g'.2.1 g'.2.2 w') :
    alc w [J v] 3 fun b w7 => ∃ (p' : Option Addr) (n' c' : Nat), ∃ w' : World, (Builtin.append_ #[25, 25] 25 #[.slice g.1 g.2.1 g.2.2, .slice (some ⟨b, 0, none⟩) 1 1]).run Try.prog w7 = .ok (.slice p' n' c') w' ∧ K p' n' c' w' := by
  refine alc_at fun b w7 hb7 h7 k7 => ?_
  have z7 := k7.size
  refine app_of2 (e := 3) (sz := 1) (z := J 0) (B := 8) Try.underlying25 (by kernel_rfl) rfl (by omega) (hO.keep0 k7) h7.news1 (fun u hu => ?_) (by simp only [maxLen]; omega) (by omega) fun p' c' w' hO' hd => ?_
  · simp only [List.mem_singleton] at hu; subst hu; rfl
  · refine hk (p', g.2.1 + 1, c') w' rfl (by simpa using hO') ?_
    rcases hd with ⟨e1, e2, _, k⟩ | ⟨e1, k⟩
    · exact Or.inl ⟨e1, e2, (k7.none).trans k fun _ _ h => h⟩
    · exact Or.inr ⟨fun i hi => by have := e1 i hi; omega, k7.then0 k⟩
/-- .. to the lists' list -/
theorem app_sl {w : World} {q : Option Addr} {m d : Nat} {gs : List Sl} {g : Sl} {K : Option Addr → Nat → Nat → World → Prop} (hO : Own w 25 1 q m d (gs.map sv)) (hs : m < 2199023255552)
    (hk : ∀ q' d' w', Own w' 25 1 q' (m + 1) d' ((gs ++ [g]).map sv) → Keep (ob q) w w' → (∀ i, ob q' i → ob q i ∨ w.heap.size ≤ i) → K q' (m + 1) d' w') :
    alc w [.slice g.1 g.2.1 g.2.2] 25 fun b w7 => ∃ (p' : Option Addr) (n' c' : Nat), ∃ w' : World, (Builtin.append_ #[43, 43] 43 #[.slice q m d, .slice (some ⟨b, 0, none⟩) 1 1]).run Try.prog w7 = .ok (.slice p' n' c') w' ∧ K p' n' c' w' := by
  refine alc_at fun b w7 hb7 h7 k7 => ?_
  have z7 := k7.size
  refine app_of2 (e := 25) (sz := 1) (z := .slice none 0 0) (B := 24) Try.underlying43 (by kernel_rfl) rfl (by omega) (hO.keep0 k7) h7.news1 (fun u hu => ?_) (by simp only [maxLen]; omega) (by omega) fun p' c' w' hO' hd => ?_
  · simp only [List.mem_singleton] at hu; subst hu; rfl
  · refine hk p' c' w' (by simpa [sv] using hO') ?_ ?_
    · rcases hd with ⟨e1, e2, _, k⟩ | ⟨e1, k⟩
      · exact (k7.none).trans k fun _ _ h => h
      · exact (k7.then0 k).none
    · intro i hi
      rcases hd with ⟨e1, e2, _, k⟩ | ⟨e1, k⟩
      · rw [e1] at hi; exact Or.inl hi
      · have := e1 i hi; exact Or.inr (by omega)
end Go.Proofs.Ytlbpllpomdjooaa.Apart
