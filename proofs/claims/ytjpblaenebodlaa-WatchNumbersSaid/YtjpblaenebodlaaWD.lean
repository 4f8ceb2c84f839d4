/- Watch: a clause attached, gone through, moved. -/
import Derived.Test.YtjpblaenebodlaaWC
import Derived.Test.YtjpblaenebodlaaVcQ
set_option linter.unusedVariables false
set_option linter.unusedSimpArgs false
set_option linter.unusedSectionVars false
set_option maxRecDepth 100000
namespace Go.Proofs.Ytjpblaenebodlaa.Wt
open Go Go.Proofs.Ytjpblaenebodlaa.Vc Go.Proofs.Ytjpblaenebodlaa.T
open Go.Proofs.Ytjpblaenebodlaa.Apart (RdL own_rdl wrap_nat getE own_len copy same take_snoc Sl sv New)
open Go.Proofs.Ytjpblaenebodlaa.Lits (fl fl_iff idx idx_inj idx_range Ans ans_of indexP formedP)

def upd (H : Nat → Option (List Int × Int × Int)) (i : Nat) (x : List Int × Int × Int) : Nat → Option (List Int × Int × Int) := fun j => if j = i then some x else H j
def addW (ls : List (List Nat)) (i hb : Nat) : List (List Nat) := match ls[i]? with | some ids => ls.set i (ids ++ [hb]) | none => ls
theorem addW_at {ls : List (List Nat)} {i hb : Nat} {ids : List Nat} (h : ls[i]? = some ids) : addW ls i hb = ls.set i (ids ++ [hb]) := by unfold addW; rw [h]
theorem addW_len (ls : List (List Nat)) (i hb : Nat) : (addW ls i hb).length = ls.length := by
  unfold addW; split <;> simp
/-- literals that aren't false -/
def nf (tr : List Int) (L : List Int) : List Int := L.filter fun x => decide (0 ≤ lv tr x)
section
variable {ex : Nat → Prop} {w w' : World} {b : Nat} {o : Nat → Int} {h : Hs} {S : WS}
/-- a clause's watched literals written down -/
theorem setAt (hR : Rp ex w b o h S) {hb : Nat} {L : List Int} {u v x y : Int} (hH : S.H hb = some (L, u, v)) {K : World → Prop}
    (hK : ∀ w', Rp ex w' b o h { S with H := upd S.H hb (L, x, y) } → Keep (fun j => o j = -7) w w' → K w') :
    st w (((⟨hb, 0, none⟩ : Addr).add 1).add 0) (.int .i64 x) fun w6 => st w6 (((⟨hb, 0, none⟩ : Addr).add 1).add 1) (.int .i64 y) K := by
  obtain ⟨e, lp, ln, lc, hB, hRd, hO⟩ := hR.hel hb L u v hH
  simp only [add_mk, Nat.zero_add, Nat.add_zero]
  refine st_of hB (by simp) rfl fun w1 hB k1 z1 => ?_
  refine st_of hB (by simp) rfl fun w2 hB k2 z2 => ?_
  have one : ∀ {j : Nat}, One hb j → j = hb := fun h => h
  have kb : Keep (One hb) w w2 := k1.trans k2 fun _ _ h => h
  have kk : Keep (fun j => (fun t : Int => t = -7) (o j)) w w2 := kb.mono fun j _ hj => by rw [one hj]; exact e
  refine hK w2 ⟨Rp.selfK (S := S) (h := h) (T := fun t => t = -7) hR kk (by decide), hR.selfO, Rp.own (T := fun t => t = -7) hR.va hR.vaO kk (by decide), hR.vaO, Rp.own (T := fun t => t = -7) hR.tr hR.trO kk (by decide), hR.trO,
    Rp.own (T := fun t => t = -7) hR.st hR.stO kk (by decide), hR.stO, Rp.own (T := fun t => t = -7) hR.out hR.outO kk (by decide), hR.outO, hR.hl, hR.ll, Rp.innK (S := S) (h := h) (T := fun t => t = -7) hR kk (fun t ht hh => by omega), Rp.innOK (S := S) (h := h) hR kk,
    Rp.own (T := fun t => t = -7) hR.lo hR.loO kk (by decide), hR.loO, fun i M p q hM => ?_⟩ kk
  by_cases hi : i = hb
  · subst hi
    have hM' : (if i = i then some (L, x, y) else S.H i) = some (M, p, q) := hM
    rw [if_pos rfl] at hM'
    simp only [Option.some.injEq, Prod.mk.injEq] at hM'
    obtain ⟨rfl, rfl, rfl⟩ := hM'
    refine ⟨e, lp, ln, lc, hB, hRd.keep kb fun j hj hh => ?_, fun j hj => ⟨(hO j hj).1, Nat.lt_of_lt_of_le (hO j hj).2 kb.size⟩⟩
    have := (hO j hj).1
    rw [one hh] at this
    omega
  · have hM' : (if i = hb then some (L, x, y) else S.H i) = some (M, p, q) := hM
    rw [if_neg hi] at hM'
    obtain ⟨e', lp', ln', lc', hB', hRd', hO'⟩ := hR.hel i M p q hM'
    refine ⟨e', lp', ln', lc', hB'.keep1 kb hi, hRd'.keep kb fun j hj hh => ?_, fun j hj => ⟨(hO' j hj).1, Nat.lt_of_lt_of_le (hO' j hj).2 kb.size⟩⟩
    have := (hO' j hj).1
    rw [one hh] at this
    omega
end
def noEx : Nat → Prop := fun _ => False
def tAtt (t : Int) : Prop := t = -7 ∨ t = -4 ∨ 0 ≤ t
theorem snoc_nf {tr cs : List Int} {i : Nat} {x : Int} (hx : cs[i]? = some x) : nf tr (cs.take (i + 1)) = if 0 ≤ lv tr x then nf tr (cs.take i) ++ [x] else nf tr (cs.take i) := by
  unfold nf
  rw [take_snoc hx, List.filter_append]
  by_cases h : 0 ≤ lv tr x
  · rw [if_pos h, List.filter_cons_of_pos (by simpa using h)]; rfl
  · rw [if_neg h, List.filter_cons_of_neg (by simpa using h)]; simp
theorem nf_le (tr L : List Int) : (nf tr L).length ≤ L.length := List.length_filter_le _ _
theorem two_of {l : List Int} (h : 2 ≤ l.length) : ∃ x y r, l = x :: y :: r := by
  match l, h with
  | [], h => simp at h
  | [x], h => simp at h
  | x :: y :: r, _ => exact ⟨x, y, r, rfl⟩
/-- what attach leaves -/
def Att (w : World) (b : Nat) (o : Nat → Int) (S : WS) (hb : Nat) (L : List Int) (v : Value) (w' : World) : Prop :=
  ((nf S.tr L).length < 2 ∧ v = .bool false ∧ Keep None w w') ∨ ∃ x y r, nf S.tr L = x :: y :: r ∧ v = .bool true ∧ Nx tAtt noEx w b o { S with H := upd S.H hb (L, x, y), ls := addW (addW S.ls (idxN x) hb) (idxN y) hb } w'
theorem attach43 {w : World} {b : Nat} {o : Nat → Int} {h : Hs} {S : WS} (hR : Rp noEx w b o h S) (hc : Cons S.tr) (hnv : S.nv ≤ 1048576) {hb : Nat} {L : List Int} {u v : Int} (hH : S.H hb = some (L, u, v)) (hL : ∀ x ∈ L, Wi S.nv x) (hLl : L.length ≤ 2097153)
    (hls : ∀ (i : Nat) (ids : List Nat), S.ls[i]? = some ids → ids.length ≤ 8796093022208) :
    Calls Try.prog 43 #[Pt b, Pt hb] w fun e w' => ∃ v, e = .returned v ∧ Att w b o S hb L v w' := by
  refine V43_calls (some ⟨b, 0, none⟩) (some ⟨hb, 0, none⟩) w (Att w b o S hb L) ?_
  unfold V43
  obtain ⟨e, lp, ln, lc, hB, hRd, hO⟩ := hR.hel hb L u v hH
  have hll := hRd.len
  refine nn_of (ldC_of (x := lp) (n := ln) (c := lc) (by rw [add_mk]; exact hB.cell 0) ?_)
  refine lp_of (fun s W => ∃ i : Nat, s.2.1 = (i : Int) ∧ i ≤ ln ∧ Apart.Gro w W s.1.1 s.1.2.1 s.1.2.2 (nf S.tr (L.take i))) (fun s _ => (ln - s.2.1).toNat) ⟨0, rfl, Nat.zero_le _, Apart.Gro.nil w⟩ ?_
  rintro ⟨⟨gp, gn, gc⟩, i', ⟨⟩⟩ W ⟨i, rfl, hi, hG⟩
  simp only [] at hG ⊢
  have kW := hG.keep
  refine pif_of (fun hlt => ?_) fun hge => ?_
  · have hlt : i < ln := by simpa using hlt
    rw [wrap_nat i (by omega)]
    refine ⟨fun s W' => Apart.Gro w W' s.1.1 s.1.2.1 s.1.2.2 (nf S.tr (L.take (i + 1))), ?_, ?_⟩
    rotate_left
    · rintro ⟨⟨p', n', c'⟩, ⟨⟩⟩ W' hG'
      exact ⟨⟨i + 1, rfl, hlt, hG'⟩, by omega⟩
    refine (hRd.keep0 kW).ix hlt fun a x hx ha => ldI_of ha ?_
    refine cl_of ok26 (of26 (hR.keep0 kW) hc hnv (hL x (List.mem_of_getElem? hx))) fun e w3 ⟨he, k3⟩ => ⟨_, he, ?_⟩
    have hG3 := hG.keep0 k3
    have hgl := hG.len
    have hnl := nf_le S.tr (L.take i)
    rw [List.length_take] at hnl
    refine pif_of (fun h => ?_) fun h => ?_
    · have h : 0 ≤ lv S.tr x := by simpa using h
      refine hG3.app (by omega) fun p' c' w' hG' => ?_
      show Apart.Gro w w' p' (gn + 1) c' (nf S.tr (L.take (i + 1)))
      rw [snoc_nf hx, if_pos h]
      exact hG'
    · have h : ¬ 0 ≤ lv S.tr x := by simpa using h
      show Apart.Gro w w3 gp gn gc (nf S.tr (L.take (i + 1)))
      rw [snoc_nf hx, if_neg h]
      exact hG3
  · have hge : i = ln := by simp at hge; omega
    subst hge
    rw [← hll, List.take_length] at hG
    have hgl := hG.len
    refine pif_of (fun hq => ?_) fun hq => ?_
    · have hq : gn < 2 := by simp at hq; omega
      exact Or.inl ⟨by omega, rfl, kW⟩
    have hq : 2 ≤ gn := by simp at hq; omega
    obtain ⟨x, y, r, hnf⟩ := two_of (l := nf S.tr L) (by omega)
    have hx : (nf S.tr L)[0]? = some x := by rw [hnf]; rfl
    have hy : (nf S.tr L)[1]? = some y := by rw [hnf]; rfl
    have dr : Keep None W W.drew := (Keep.refl _ _).drew
    have hgd := (own_rdl hG.own).keep0 dr
    refine hgd.ix (i := 0) (by omega) fun a x' hx' ha => ldI_of ha ?_
    rw [hx] at hx'; injection hx' with hx'; subst hx'
    refine hgd.ix (i := 1) (by omega) fun a y' hy' ha' => ldI_of ha' ?_
    rw [hy] at hy'; injection hy' with hy'; subst hy'
    have kD := kW.then0 dr
    refine nn_of ?_
    refine setAt (hR.keep0 kD) hH fun w7 hR7 k7 => ?_
    have hwx : Wi S.nv x := hL x (List.mem_filter.1 (List.mem_of_getElem? hx)).1
    have hwy : Wi S.nv y := hL y (List.mem_filter.1 (List.mem_of_getElem? hy)).1
    obtain ⟨_, lp7, ln7, lc7, hB7, _, _⟩ := hR7.hel hb L x y (by show (if hb = hb then some (L, x, y) else S.H hb) = _; rw [if_pos rfl])
    refine nn_of ?_
    simp only [add_mk, Nat.zero_add, Nat.add_zero]
    refine ldI_of (hB7.cell 1) (ldI_of (hB7.cell 2) ?_)
    have k07 : Keep (fun j => tAtt (o j)) w w7 := (Keep.none kD).trans k7 fun j _ hh => by have : o j = -7 := hh; show tAtt (o j); rw [this]; exact Or.inl rfl
    -- two lists
    obtain ⟨ia, hia⟩ := getE (show idxN x < S.ls.length by rw [hR.ll]; exact idxN_lt hwx)
    obtain ⟨ic, hic⟩ := getE (show idxN y < (addW S.ls (idxN x) hb).length by rw [addW_len, hR.ll]; exact idxN_lt hwy)
    have hial := hls _ _ hia
    have hicl : ic.length ≤ 8796093022209 := by
      rw [addW_at hia] at hic
      by_cases he : idxN y = idxN x
      · rw [he, List.getElem?_set_self (List.getElem?_eq_some_iff.1 hia).1] at hic
        injection hic with hic
        rw [← hic, List.length_append]; simp; omega
      · rw [List.getElem?_set_ne (fun e => he e.symm)] at hic
        have := hls _ _ hic; omega
    refine lp_of (fun s V => ∃ (i : Nat), s.1 = (i : Int) ∧ i ≤ 2 ∧ Nx tAtt noEx w b o { S with H := upd S.H hb (L, x, y), ls := (if i = 0 then S.ls else if i = 1 then addW S.ls (idxN x) hb else addW (addW S.ls (idxN x) hb) (idxN y) hb) } V) (fun s _ => (2 - s.1).toNat)
      ⟨0, rfl, Nat.zero_le _, o, h, hR7, Ag.refl _ _, k07⟩ ?_
    rintro ⟨i', ⟨⟩⟩ V ⟨i, rfl, hi, o1, h1, hR1, ha1, k1⟩
    simp only []
    refine pif_of (fun hlt => ?_) fun hge => ?_
    · have hlt : i < 2 := by simp at hlt; omega
      rw [wrap_nat i (by omega), Int.toNat_natCast]
      have kd : Keep None V V.drew := (Keep.refl _ _).drew
      have hRd1 := hR1.keep0 kd
      have step : ∀ (l : Int) (ls0 : List (List Nat)) (ids : List Nat), Wi S.nv l → ls0[idxN l]? = some ids → ids.length ≤ 17592186044415 → Rp noEx V.drew b o1 h1 { S with H := upd S.H hb (L, x, y), ls := ls0 } →
          (∀ w', Nx tAtt noEx w b o { S with H := upd S.H hb (L, x, y), ls := addW ls0 (idxN l) hb } w' → (∃ j : Nat, ((i + 1 : Nat) : Int) = (j : Int) ∧ j ≤ 2 ∧ Nx tAtt noEx w b o { S with H := upd S.H hb (L, x, y), ls := (if j = 0 then S.ls else if j = 1 then addW S.ls (idxN x) hb else addW (addW S.ls (idxN x) hb) (idxN y) hb) } w') ∧ ((2 : Int) - ((i + 1 : Nat) : Int)).toNat < ((2 : Int) - (i : Int)).toNat) →
          Push3 b hb h1.oo.1 h1.oo.2.1 h1.oo.2.2 h1.oo.1 h1.oo.2.1 h1.oo.2.2 l V.drew (fun w' => (∃ j : Nat, ((i + 1 : Nat) : Int) = (j : Int) ∧ j ≤ 2 ∧ Nx tAtt noEx w b o { S with H := upd S.H hb (L, x, y), ls := (if j = 0 then S.ls else if j = 1 then addW S.ls (idxN x) hb else addW (addW S.ls (idxN x) hb) (idxN y) hb) } w') ∧ ((2 : Int) - ((i + 1 : Nat) : Int)).toNat < ((2 : Int) - (i : Int)).toNat) := by
        intro l ls0 ids hwl hids hlen hRR hnext
        refine push3 hRR hnv hwl hids (fun h => h) hlen fun w' ⟨o2, h2, hR2, ha2, k2⟩ => hnext w' ⟨o2, h2, ?_, ?_, ?_⟩
        · rw [addW_at hids]; exact hR2
        · exact ha1.trans ha2 (Nat.le_trans k1.size kd.size)
        · refine (k1.then0 kd).trans k2 fun j hj hh => ?_
          have hj' := ha1 j hj
          have hh' : tPush (idxN l) (o1 j) := hh
          show tAtt (o j)
          rw [← hj']
          rcases hh' with hh' | hh'
          · exact Or.inr (Or.inl hh')
          · exact Or.inr (Or.inr (by omega))
      have self4 : ∀ {K : Option Addr → Nat → Nat → Prop}, K h1.oo.1 h1.oo.2.1 h1.oo.2.2 → ldC V.drew ((⟨b, 0, none⟩ : Addr).add 4) K := fun hK => by
        rw [add_mk]
        exact ldC_of (x := h1.oo.1) (n := h1.oo.2.1) (c := h1.oo.2.2) (hRd1.self.cell 4) hK
      by_cases hi0 : i = 0
      · subst hi0
        refine ⟨by omega, by omega, x, rfl, nn_of (self4 (nn_of (self4 ?_)))⟩
        exact step x S.ls ia hwx hia (by omega) hRd1 fun w' hN => ⟨⟨1, rfl, by omega, hN⟩, by omega⟩
      · obtain rfl : i = 1 := by omega
        refine ⟨by omega, by omega, y, rfl, nn_of (self4 (nn_of (self4 ?_)))⟩
        exact step y (addW S.ls (idxN x) hb) ic hwy hic (by omega) hRd1 fun w' hN => ⟨⟨2, rfl, by omega, hN⟩, by omega⟩
    · have hge : i = 2 := by simp at hge; omega
      subst hge
      exact Or.inr ⟨x, y, r, hnf, rfl, o1, h1, hR1, ha1, k1⟩
end Go.Proofs.Ytjpblaenebodlaa.Wt
