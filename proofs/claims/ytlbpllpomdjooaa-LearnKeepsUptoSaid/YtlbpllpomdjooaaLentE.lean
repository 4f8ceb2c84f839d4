/- Entries with room behind them: how they are made. -/
import Derived.Test.YtlbpllpomdjooaaLentK
set_option linter.unusedVariables false
set_option linter.unusedSimpArgs false
set_option linter.unusedSectionVars false
set_option maxRecDepth 100000
namespace Go.Proofs.Ytlbpllpomdjooaa.Learn
open Go Go.Proofs.Ytlbpllpomdjooaa.Vc Go.Proofs.Ytlbpllpomdjooaa.T
open Go.Proofs.Ytlbpllpomdjooaa.Apart (RdL own_rdl wrap_nat getE own_len copy same take_snoc Sl sv New Gro mks mks_succ mks_at mks_len mkW)

/-- the marked entries -/
def mkE (i : Nat) : En × Sl := (⟨mkW 1 i, 0, []⟩, (none, 0, 0))
def mksE (n : Nat) : List (En × Sl) := (List.range n).map mkE
theorem mksE_succ (n : Nat) : mksE (n + 1) = mksE n ++ [mkE n] := by simp [mksE, List.range_succ]
theorem mksE_len (n : Nat) : (mksE n).length = n := by simp [mksE]
theorem mksE_at {n i : Nat} (h : i < n) : (mksE n)[i]? = some (mkE i) := by simp [mksE, h]
/-- an entry's row, with room -/
def row (x : En × Sl) : Sl := (x.2.1, x.2.2.1 + 64, x.2.2.2)
/-- such entries as far as they are made -/
structure Lx (w0 w : World) (wp : Option Addr) (wn wc : Nat) (rp : Option Addr) (rn rc : Nat) (xs ms : List (En × Sl)) : Prop where
  whole : Own w 54 3 wp wn wc ((xs ++ ms).flatMap flat)
  rows : Own w 25 1 rp rn rc (xs.map fun x => sv (row x))
  each : ∀ x ∈ xs, x.2.2.1 = x.1.rs.length ∧ Own w 3 1 x.2.1 (x.2.2.1 + 64) x.2.2.2 ((x.1.rs ++ mks 0 64).map I) ∧ ∀ j, ob x.2.1 j → w0.heap.size ≤ j ∧ ¬ ob wp j ∧ ¬ ob rp j
  newW : ∀ j, ob wp j → w0.heap.size ≤ j
  newR : ∀ j, ob rp j → w0.heap.size ≤ j ∧ ¬ ob wp j
section
variable {w0 w w' : World} {wp rp : Option Addr} {wn wc rn rc : Nat} {xs ms : List (En × Sl)}
theorem Lx.keep (h : Lx w0 w wp wn wc rp rn rc xs ms) {S : Nat → Prop} (hk : Keep S w w') (hs : ∀ j, S j → j < w0.heap.size ∨ w.heap.size ≤ j) : Lx w0 w' wp wn wc rp rn rc xs ms :=
  ⟨h.whole.keep hk fun j hj hh => by have := hs j hh; have := h.newW j hj; have := h.whole.lt j hj; omega,
   h.rows.keep hk fun j hj hh => by have := hs j hh; have := (h.newR j hj).1; have := h.rows.lt j hj; omega,
   fun x hx => ⟨(h.each x hx).1, (h.each x hx).2.1.keep hk fun j hj hh => by have := hs j hh; have := ((h.each x hx).2.2 j hj).1; have := (h.each x hx).2.1.lt j hj; omega, (h.each x hx).2.2⟩, h.newW, h.newR⟩
theorem Lx.keep0 (h : Lx w0 w wp wn wc rp rn rc xs ms) (hk : Keep None w w') : Lx w0 w' wp wn wc rp rn rc xs ms := h.keep hk fun j hh => hh.elim
theorem Lx.wlen (h : Lx w0 w wp wn wc rp rn rc xs ms) : xs.length + ms.length = wn := by
  have := h.whole.len
  rw [flat_len, List.length_append] at this
  omega
theorem Lx.rlen (h : Lx w0 w wp wn wc rp rn rc xs ms) : xs.length = rn := by
  have := h.rows.len
  rw [List.length_map] at this
  omega
/-- an entry at its place -/
theorem Lx.at (h : Lx w0 w wp wn wc rp rn rc xs ms) {i : Nat} {x : En × Sl} (hx : (xs ++ ms)[i]? = some x) {K : Addr → Prop}
    (hk : ∀ a, w.cell? (a.add 0) = some (I x.1.lit) → w.cell? (a.add 1) = some (I x.1.lev) → w.cell? (a.add 2) = some (sv x.2) → K a) : ixA wp wn (i : Int) 3 K := by
  have hl := h.wlen
  have hi := (List.getElem?_eq_some_iff.1 hx).1
  rw [List.length_append] at hi
  refine h.whole.ix (by omega) (by omega) fun b hb => ?_
  rw [Int.toNat_natCast]
  have hw := h.whole
  rw [hb] at hw
  have cell : ∀ k, k < 3 → w.cell? ((⟨b, i * 3, none⟩ : Addr).add k) = (flat x)[k]? := fun k hk => by
    rw [add_mk, hw.cell _ (by omega), flat_at hx hk]
  exact hk _ (cell 0 (by omega)) (cell 1 (by omega)) (cell 2 (by omega))
theorem Lx.row (h : Lx w0 w wp wn wc rp rn rc xs ms) {i : Nat} {x : En × Sl} (hx : xs[i]? = some x) {K : Addr → Prop} (hk : ∀ a, w.cell? a = some (sv (row x)) → K a) : ixA rp rn (i : Int) 1 K := by
  have hl := h.rlen
  have hi := (List.getElem?_eq_some_iff.1 hx).1
  refine h.rows.ix (by omega) (by omega) fun b hb => ?_
  rw [Int.toNat_natCast, Nat.mul_one]
  have hw := h.rows
  rw [hb] at hw
  exact hk _ (by rw [hw.cell _ (by omega), List.getElem?_map, hx]; rfl)
/-- appending an entry -/
theorem Lx.appW (h : Lx w0 w wp wn wc rp rn rc xs ms) {x : En × Sl} (hs : wn < 1099511639776)
    (hxw : ∀ xs' ms', xs' ++ ms' = (xs ++ ms) ++ [x] → ∀ wp' wc' w', Own w' 54 3 wp' (wn + 1) wc' ((xs' ++ ms').flatMap flat) → Keep (ob wp) w w' → (∀ j, ob wp' j → ob wp j ∨ w.heap.size ≤ j) → True) : True := trivial
theorem app_en {w : World} {wp : Option Addr} {wn wc : Nat} {ys : List (En × Sl)} {x : En × Sl} {K : Option Addr → Nat → Nat → World → Prop} {b : Nat} (hO : Own w 54 3 wp wn wc (ys.flatMap flat)) (hs : wn < 1099511639776)
    (hB : Blk w b (flat x) 54)
    (hk : ∀ wp' wc' w', Own w' 54 3 wp' (wn + 1) wc' ((ys ++ [x]).flatMap flat) → Keep (ob wp) w w' → (∀ j, ob wp' j → ob wp j ∨ w.heap.size ≤ j) → K wp' (wn + 1) wc' w') :
    ∃ (p' : Option Addr) (n' c' : Nat), ∃ w' : World, (Builtin.append_ #[22, 22] 22 #[.slice wp wn wc, .slice (some ⟨b, 0, none⟩) 1 1]).run Try.prog w = .ok (.slice p' n' c') w' ∧ K p' n' c' w' := by
  have hN : News w 3 (some ⟨b, 0, none⟩) 1 1 (flat x) := Or.inr ⟨_, rfl, rfl, fun j u hu => by
    rw [add_mk, Nat.zero_add, hB.cell]; exact hu⟩
  refine app_of2 (e := 54) (sz := 3) (z := .agg #[I 0, I 0, .slice none 0 0]) (B := 40) Try.underlying22 info54 rfl (by omega) hO hN (fun u hu => ?_) (by simp only [maxLen]; omega) (by omega) fun p' c' w4 hO4 hdd => hk p' c' w4 ?_ ?_ ?_
  · simp only [flat, sv, List.mem_cons, List.not_mem_nil, or_false] at hu
    rcases hu with rfl | rfl | rfl <;> rfl
  · rw [List.flatMap_append, List.flatMap_singleton]; exact hO4
  · rcases hdd with ⟨_, _, _, k⟩ | ⟨_, k⟩
    · exact k
    · exact k.none
  · intro j hj
    rcases hdd with ⟨e, _, _, _⟩ | ⟨e, _⟩
    · rw [e] at hj; exact Or.inl hj
    · exact Or.inr (e j hj)
end
/-- LentEntries' answer -/
def LentE (es : List En) (w : World) (v : Value) (w' : World) : Prop := ∃ wp wc rp rc xs, v = .agg #[.slice wp es.length wc, .slice wp (es.length + 64) wc, .slice rp es.length rc] ∧ xs.map (fun x => x.1) = es ∧ Keep None w w' ∧ Lx w w' wp (es.length + 64) wc rp es.length rc xs (mksE 64)
theorem lentE26 {w : World} {p : Option Addr} {n c : Nat} {es : List En} (h : RdE w p n es) (hn : n ≤ 1048576) (hr : ∀ x ∈ es, x.rs.length ≤ 1048576) :
    Calls Try.prog 26 #[.slice p n c] w fun e w' => ∃ v, e = .returned v ∧ LentE es w v w' := by
  refine V26_calls p n c w (LentE es w) ?_
  unfold V26
  have hl := h.len
  refine alc_at fun b2 w1 hb2 hB2 k1 => ?_
  refine alc_at fun b4 w2 hb4 hB4 k2 => ?_
  have l21 := hB2.lt
  have hB2 := hB2.keep0 k2
  have z1 := k1.size
  have z2 := k2.size
  have l2 := hB2.lt
  have l4 := hB4.lt
  have k02 := k1.then0 k2
  simp only [add_mk, Nat.zero_add, Nat.add_zero]
  refine lp_of (fun s W => ∃ (i : Nat) (xs : List (En × Sl)) (wp rp : Option Addr) (wc rc : Nat), s.1 = (i : Int) ∧ i ≤ n ∧ xs.map (fun x => x.1) = es.take i ∧ Lx w2 W wp i wc rp i rc xs [] ∧
      Blk W b4 [.slice none 0 0, .slice wp i wc, .slice rp i rc] 45 ∧ Blk W b2 [.slice none 0 0, .slice none 0 0, .slice none 0 0] 45 ∧ Keep None w W ∧ w2.heap.size ≤ W.heap.size) (fun s _ => (n - s.1).toNat)
    ⟨0, [], none, none, 0, 0, rfl, Nat.zero_le _, rfl, ⟨Own.nil _ _ _, Own.nil _ _ _, (fun x hx => by cases hx), (fun j ⟨a, hh, _⟩ => by cases hh), (fun j ⟨a, hh, _⟩ => by cases hh)⟩, hB4, hB2, k02, Nat.le_refl _⟩ ?_
  rintro ⟨i', ⟨⟩⟩ w3 ⟨i, xs, wp, rp, wc, rc, rfl, hi, hxs, hL, hB4, hB2, k3, z23⟩
  simp only []
  have z3 := k3.size
  have l43 := hB4.lt
  refine pif_of (fun hlt => ?_) fun hge => ?_
  · have hlt : i < n := by simpa using hlt
    rw [wrap_nat i (by omega)]
    obtain ⟨x, hx⟩ := getE (show i < es.length by omega)
    have hrx := hr x (List.mem_of_getElem? hx)
    refine (h.keep0 k3).ix hx fun a ⟨r, rn, rc', c0, c1, c2, hq⟩ => ldC_of c2 ?_
    have hql := hq.len
    refine cl_of ok27 (lent27 hq (by omega)) fun e w4 ⟨v, he, s, d, hv, hO, hnew, k4⟩ => ⟨s, _, d, he.trans (congrArg Ending.returned hv), ?_⟩
    have hL4 := hL.keep0 k4
    have hB44 := hB4.keep0 k4
    have hB24 := hB2.keep0 k4
    have z4 := k4.size
    have el : (x.rs ++ mks 0 64).length = x.rs.length + 64 := by rw [List.length_append, mks_len]
    rw [el] at hO ⊢
    refine ldC_of (hB44.cell 2) ?_
    refine alc_at fun b17 w5 hb17 hB17 k5 => ?_
    have hL5 := hL4.keep0 k5
    have hB45 := hB44.keep0 k5
    have hB25 := hB24.keep0 k5
    have hO5 := hO.keep0 k5
    have z5 := k5.size
    refine app_of2 (e := 25) (sz := 1) (z := .slice none 0 0) (B := 24) Try.underlying43 (by kernel_rfl) rfl (by omega) hL5.rows hB17.news1 (fun u hu => ?_) (by simp only [maxLen]; omega) (by omega) fun rp' rc2 w6 hR6 hd => ?_
    · simp only [List.mem_singleton] at hu; subst hu; rfl
    have k6 : Keep (ob rp) w5 w6 := by
      rcases hd with ⟨_, _, _, k⟩ | ⟨_, k⟩
      · exact k
      · exact k.none
    have hrp : ∀ j, ob rp' j → ob rp j ∨ w5.heap.size ≤ j := fun j hj => by
      rcases hd with ⟨e, _, _, _⟩ | ⟨e, _⟩
      · rw [e] at hj; exact Or.inl hj
      · exact Or.inr (e j hj)
    have z6 := k6.size
    have nb : ∀ j, ob rp j → w2.heap.size ≤ j := fun j hj => (hL.newR j hj).1
    have hB46 := hB45.keep k6 fun hh => by have := nb _ hh; omega
    have hB26 := hB25.keep k6 fun hh => by have := nb _ hh; omega
    have hO6 := hO5.keep k6 fun j hj hh => by have := hnew j hj; have := hL.rows.lt j hh; omega
    have hW6 := hL5.whole.keep k6 fun j hj hh => (hL5.newR j hh).2 hj
    refine st_of hB46 (by simp) rfl fun w7 hB47 k7 _ => ?_
    have hb4' : ∀ j, One b4 j → j < w2.heap.size := fun j hj => by have : j = b4 := hj; omega
    have hB27 := hB26.keep1 k7 (by omega)
    have hO7 := hO6.keep k7 fun j hj hh => by have := hb4' j hh; have := hnew j hj; omega
    have hW7 := hW6.keep k7 fun j hj hh => by have := hb4' j hh; have := hL5.newW j hj; omega
    have hR7 := hR6.keep k7 fun j hj hh => by
      have := hb4' j hh
      rcases hrp j hj with h1 | h1
      · have := nb j h1; omega
      · omega
    have k37 : Keep None w w7 := by
      have a1 := (k3.then0 k4).then0 k5
      have a2 : Keep None w w6 := a1.trans k6 fun j hj hh => by have := nb j hh; omega
      exact a2.then1 k7 (by omega)
    have dr : Keep None w7 w7.drew := (Keep.refl _ _).drew
    refine ldC_of ((hB47.drew).cell 1) ?_
    have hd7 := h.keep0 (k37.then0 dr)
    refine hd7.ix hx fun a ⟨_, _, _, c0, _⟩ => ldI_of c0 (hd7.ix hx fun a ⟨_, _, _, _, c1, _⟩ => ldI_of c1 (hd7.ix hx fun a ⟨q2, rn2, rc3, _, _, c2, hq2⟩ => ldC_of c2 ?_))
    have hrn2 := hq2.len
    subst hrn2
    have hle := hO.le
    refine ⟨by omega, by omega, ?_⟩
    rw [slA_own hO7, Int.toNat_natCast, Nat.sub_zero, Nat.sub_zero]
    refine alc_at fun b26 w8 hb26 hB26' k8 => ?_
    have hB48 := hB47.drew.keep0 k8
    refine ⟨ldC_of (hB48.cell 1) rfl, ?_⟩
    have hW8 := (hW7.keep0 dr).keep0 k8
    have hR8 := (hR7.keep0 dr).keep0 k8
    have hO8 := (hO7.keep0 dr).keep0 k8
    have hB28 := (hB27.keep0 dr).keep0 k8
    have z7 := k7.size
    have zd : w7.drew.heap.size = w7.heap.size := rfl
    have z8 := k8.size
    rw [List.append_nil] at hW8
    refine app_en (x := (x, (s, x.rs.length, d))) hW8 (by omega) hB26' fun wp' wc' w9 hW9 k9 hwp => ?_
    have z9 := k9.size
    have nw : ∀ j, ob wp j → w2.heap.size ≤ j := fun j hj => hL.newW j hj
    have hB49 := hB48.keep k9 fun hh => by have := nw _ hh; omega
    have hB29 := hB28.keep k9 fun hh => by have := nw _ hh; omega
    have hnoR : ∀ j, ob rp' j → ¬ ob wp j := fun j hj hh => by
      rcases hrp j hj with h1 | h1
      · exact (hL.newR j h1).2 hh
      · have := hL5.whole.lt j hh; omega
    have hR9 := hR8.keep k9 fun j hj hh => hnoR j hj hh
    have hnoO : ∀ j, ob s j → ¬ ob wp j := fun j hj hh => by have := hnew j hj; have := hL.whole.lt j hh; omega
    have hO9 := hO8.keep k9 fun j hj hh => hnoO j hj hh
    refine st_of hB49 (by simp) rfl fun w10 hB410 k10 _ => ?_
    have hB210 := hB29.keep1 k10 (by omega)
    have hwp' : ∀ j, ob wp' j → w2.heap.size ≤ j := fun j hj => by
      rcases hwp j hj with h1 | h1
      · exact nw j h1
      · omega
    have hW10 := hW9.keep k10 fun j hj hh => by have := hb4' j hh; have := hwp' j hj; omega
    have hR10 := hR9.keep k10 fun j hj hh => by
      have := hb4' j hh
      rcases hrp j hj with h1 | h1
      · have := nb j h1; omega
      · omega
    have hO10 := hO9.keep k10 fun j hj hh => by have := hb4' j hh; have := hnew j hj; omega
    have k310 : Keep None w w10 := by
      have a1 := (k37.then0 dr).then0 k8
      have a2 : Keep None w w9 := a1.trans k9 fun j hj hh => by have := nw j hh; omega
      exact a2.then1 k10 (by omega)
    refine ⟨⟨i + 1, xs ++ [(x, (s, x.rs.length, d))], wp', rp', wc', rc2, rfl, hlt, by rw [List.map_append, hxs, take_snocE hx]; rfl, ⟨?_, ?_, fun y hy => ?_, hwp', fun j hj => ?_⟩, hB410, hB210, k310, by have := k10.size; omega⟩, by omega⟩
    · rw [List.append_nil]; exact hW10
    · rw [List.map_append]; exact hR10
    · have hlive : ∀ j, j < w3.heap.size → ob wp' j → ob wp j := fun j hj hh => by
        rcases hwp j hh with h1 | h1
        · exact h1
        · omega
      have hliveR : ∀ j, j < w3.heap.size → ob rp' j → ob rp j := fun j hj hh => by
        rcases hrp j hh with h1 | h1
        · exact h1
        · omega
      rw [List.mem_append, List.mem_singleton] at hy
      rcases hy with hy | rfl
      · obtain ⟨h0, h1, h2⟩ := hL.each y hy
        refine ⟨h0, ?_, fun j hj => ?_⟩
        · have a1 := (h1.keep0 k4).keep0 k5
          have a2 := a1.keep k6 fun j hj hh => (h2 j hj).2.2 hh
          have a3 := a2.keep k7 fun j hj hh => by have := hb4' j hh; have := (h2 j hj).1; omega
          have a4 := (a3.keep0 dr).keep0 k8
          have a5 := a4.keep k9 fun j hj hh => (h2 j hj).2.1 hh
          exact a5.keep k10 fun j hj hh => by have := hb4' j hh; have := (h2 j hj).1; omega
        · have hj3 := h1.lt j hj
          exact ⟨(h2 j hj).1, fun hh => (h2 j hj).2.1 (hlive j hj3 hh), fun hh => (h2 j hj).2.2 (hliveR j hj3 hh)⟩
      · refine ⟨rfl, hO10, fun j hj => ⟨by have := hnew j hj; omega, fun hh => ?_, fun hh => ?_⟩⟩
        · rcases hwp j hh with h1 | h1
          · exact hnoO j hj h1
          · have := hO.lt j hj; omega
        · rcases hrp j hh with h1 | h1
          · have := hnew j hj; have := hL.rows.lt j h1; omega
          · have := hO.lt j hj; omega
    · refine ⟨?_, fun hh => ?_⟩
      · rcases hrp j hj with h1 | h1
        · exact nb j h1
        · omega
      · rcases hwp j hh with h1 | h1
        · exact hnoR j hj h1
        · have := hR7.lt j hj; omega
  · have hge : i = n := by simp at hge; omega
    subst hge
    rw [← hl, List.take_length] at hxs
    refine lp_of (fun s W => ∃ (t : Nat) (wp : Option Addr) (wc : Nat), s.1 = (t : Int) ∧ t ≤ 64 ∧ Lx w2 W wp (i + t) wc rp i rc xs (mksE t) ∧
        Blk W b4 [.slice none 0 0, .slice wp (i + t) wc, .slice rp i rc] 45 ∧ Blk W b2 [.slice none 0 0, .slice none 0 0, .slice none 0 0] 45 ∧ Keep None w W ∧ w2.heap.size ≤ W.heap.size) (fun s _ => (64 - s.1).toNat)
      ⟨0, wp, wc, rfl, Nat.zero_le _, hL, hB4, hB2, k3, z23⟩ ?_
    rintro ⟨t', ⟨⟩⟩ w11 ⟨t, wp, wc, rfl, ht, hL, hB4, hB2, k11, z211⟩
    simp only []
    have z11 := k11.size
    have nw : ∀ j, ob wp j → w2.heap.size ≤ j := fun j hj => hL.newW j hj
    have hb4' : ∀ j, One b4 j → j < w2.heap.size := fun j hj => by have : j = b4 := hj; omega
    have l411 := hB4.lt
    refine pif_of (fun hlt => ?_) fun hge => ?_
    · have hlt : t < 64 := by simp at hlt; omega
      rw [wrap_nat t (by omega)]
      have dr : Keep None w11 w11.drew := (Keep.refl _ _).drew
      refine ldC_of (hB4.drew.cell 1) ?_
      refine cl_of ok54 (Apart.mark _ _ _) fun e w12 ⟨he, hw⟩ => ⟨_, he, ldC_of (by rw [hw]; exact hB4.drew.cell 1) rfl, ?_⟩
      subst hw
      refine alc_at fun b39 w13 hb39 hB39 k13 => ?_
      have k1113 := dr.trans k13 fun _ _ h => h
      have hB413 := hB4.keep0 k1113
      have hB213 := hB2.keep0 k1113
      have hL13 := hL.keep0 k1113
      have z13 := k1113.size
      refine ⟨ldC_of (hB413.cell 1) rfl, ?_⟩
      refine app_en (x := mkE t) hL13.whole (by omega) hB39 fun wp' wc' w14 hW14 k14 hwp => ?_
      have hB414 := hB413.keep k14 fun hh => by have := nw _ hh; omega
      have hB214 := hB213.keep k14 fun hh => by have := nw _ hh; omega
      have z14 := k14.size
      refine st_of hB414 (by simp) rfl fun w15 hB415 k15 _ => ?_
      have hwp' : ∀ j, ob wp' j → w2.heap.size ≤ j := fun j hj => by
        rcases hwp j hj with h1 | h1
        · exact nw j h1
        · omega
      refine ⟨⟨t + 1, wp', wc', rfl, hlt, ⟨?_, ?_, fun y hy => ?_, hwp', fun j hj => ⟨(hL.newR j hj).1, fun hh => ?_⟩⟩, hB415, hB214.keep1 k15 (by omega), ?_, by have := k15.size; omega⟩, by omega⟩
      · rw [mksE_succ, ← List.append_assoc]
        exact hW14.keep k15 fun j hj hh => by have := hb4' j hh; have := hwp' j hj; omega
      · exact (hL13.rows.keep k14 fun j hj hh => (hL.newR j hj).2 hh).keep k15 fun j hj hh => by have := hb4' j hh; have := (hL.newR j hj).1; omega
      · obtain ⟨h0, h1, h2⟩ := hL13.each y hy
        refine ⟨h0, (h1.keep k14 fun j hj hh => (h2 j hj).2.1 hh).keep k15 fun j hj hh => by have := hb4' j hh; have := (h2 j hj).1; omega, fun j hj => ⟨(h2 j hj).1, fun hh => ?_, (h2 j hj).2.2⟩⟩
        rcases hwp j hh with h5 | h5
        · exact (h2 j hj).2.1 h5
        · have := h1.lt j hj; omega
      · rcases hwp j hh with h5 | h5
        · exact (hL.newR j hj).2 h5
        · have := hL13.rows.lt j hj; omega
      · have a1 := k11.then0 k1113
        have a2 : Keep None w w14 := a1.trans k14 fun j hj hh => by have := nw j hh; omega
        exact a2.then1 k15 (by omega)
    · have hge : t = 64 := by simp at hge; omega
      subst hge
      refine ldC_of (hB4.cell 1) ?_
      have hle := hL.whole.le
      refine ⟨by omega, by omega, ?_⟩
      rw [slA_own hL.whole, Int.toNat_natCast, Nat.sub_zero, Nat.sub_zero]
      refine st_of hB4 (by simp) rfl fun w16 hB416 k16 _ => ?_
      refine ldC_of (hB416.cell 0) (ldC_of (hB416.cell 1) (ldC_of (hB416.cell 2) ?_))
      refine st_of (hB2.keep1 k16 (by omega)) (by simp) rfl fun w17 hB217 k17 _ => ?_
      refine st_of hB217 (by simp) rfl fun w18 hB218 k18 _ => ?_
      refine st_of hB218 (by simp) rfl fun w19 hB219 k19 _ => ?_
      refine ldC_of (hB219.cell 0) (ldC_of (hB219.cell 1) (ldC_of (hB219.cell 2) ?_))
      have hlen := hL.rlen
      have k19' : Keep None w w19 := (((k11.then1 k16 (by omega)).then1 k17 (by omega)).then1 k18 (by omega)).then1 k19 (by omega)
      have hb2' : ∀ j, One b2 j → j < w2.heap.size ∨ w11.heap.size ≤ j := fun j hj => by have : j = b2 := hj; omega
      have hL16 := hL.keep k16 fun j hj => Or.inl (hb4' j hj)
      have z16 := k16.size
      have z17 := k17.size
      have z18 := k18.size
      have hL17 := hL16.keep k17 fun j hj => by have := hb2' j hj; have : j = b2 := hj; omega
      have hL18 := hL17.keep k18 fun j hj => by have : j = b2 := hj; omega
      have hL19 := hL18.keep k19 fun j hj => by have : j = b2 := hj; omega
      subst hl
      refine ⟨wp, wc, rp, rc, xs, rfl, hxs, k19', ⟨hL19.whole, hL19.rows, fun x hx => ⟨(hL19.each x hx).1, (hL19.each x hx).2.1, fun j hj => ⟨by have := ((hL19.each x hx).2.2 j hj).1; omega, ((hL19.each x hx).2.2 j hj).2⟩⟩, fun j hj => by have := hL19.newW j hj; omega, fun j hj => ⟨by have := (hL19.newR j hj).1; omega, (hL19.newR j hj).2⟩⟩⟩
end Go.Proofs.Ytlbpllpomdjooaa.Learn
