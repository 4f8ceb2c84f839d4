/- Watch: a clause gone through; another literal watched. -/
import Derived.Test.YtjpblaenebodlaaWD
import Derived.ChangeKeysEq
set_option linter.unusedVariables false
set_option linter.unusedSimpArgs false
set_option linter.unusedSectionVars false
set_option maxRecDepth 100000
namespace Go.Proofs.Ytjpblaenebodlaa.Wt
open Go Go.Proofs.Ytjpblaenebodlaa.Vc Go.Proofs.Ytjpblaenebodlaa.T
open Go.Proofs.Ytjpblaenebodlaa.Apart (RdL own_rdl wrap_nat getE own_len copy same take_snoc Sl sv New)
open Go.Proofs.Ytjpblaenebodlaa.Lits (fl fl_iff idx idx_inj idx_range Ans ans_of indexP formedP)

theorem eqI_run (a c : Int) (w : World) : (Op.equalIn 9999 3 (I a) (I c)).run Try.prog w = .ok (a == c) w := by
  show (Op.equalIn (9998 + 1) 3 (I a) (I c)).run Try.prog w = _
  unfold Op.equalIn
  simp [run_underlying Try.underlying3]
theorem pt0 (cs : Array Value) (i : Nat) (v : Value) (h : cs[i]? = some v) (w : World) : (part 3 cs i).run Try.prog w = .ok v w := run_part1 (by kernel_rfl) h w
theorem info3 : ∃ i, Try.prog.info? 3 = some i := Option.isSome_iff_exists.1 (by kernel_rfl)
theorem eq2_run (a b c d : Int) (w : World) : (Op.equalIn 10000 75 (.agg #[I a, I b]) (.agg #[I c, I d])).run Try.prog w = .ok ((a == c) && (b == d)) w := by
  obtain ⟨i, hi⟩ := info3
  show (Op.equalIn (9999 + 1) 75 _ _).run Try.prog w = _
  rw [run_equalIn_array w 9999 _ _ Try.underlying75 hi, show Try.prog.cellsOf 3 = 1 by kernel_rfl]
  show (Op.eqItems 9999 3 1 #[I a, I b] #[I c, I d] [0, 1]).run Try.prog w = _
  simp only [Op.eqItems, Sem.run_bind]
  rw [pt0 _ _ (I a) rfl]; simp only [Result.andThen_ok]
  rw [pt0 _ _ (I c) rfl]; simp only [Result.andThen_ok]
  rw [eqI_run]; simp only [Result.andThen_ok]
  cases h1 : (a == c) with
  | false => simp
  | true =>
    simp only [Bool.not_true, Bool.false_eq_true, if_false, Bool.true_and]
    simp only [Sem.run_bind]
    rw [pt0 _ _ (I b) rfl]; simp only [Result.andThen_ok]
    rw [pt0 _ _ (I d) rfl]; simp only [Result.andThen_ok]
    rw [eqI_run]; simp only [Result.andThen_ok]
    cases h2 : (b == d) <;> simp
theorem eq2T {a b c d : Int} {K : Bool → Prop} (hk : K ((a == c) && (b == d))) : eqV Try.prog .eql 75 (.agg #[.int .i64 a, .int .i64 b]) (.agg #[.int .i64 c, .int .i64 d]) K := by
  refine ⟨_, fun w x y => ?_, hk⟩
  rw [Sem.run_bind, run_eqGuard_agg w .eql 75 x y _ _ (by kernel_rfl), Result.andThen_ok, run_eql_struct, eq2_run]
  rfl
/-- what look leaves -/
def Looked (ex : Nat → Prop) (w : World) (b : Nat) (o : Nat → Int) (S : WS) (L : List Int) (v : Value) (w' : World) : Prop :=
  (v = .bool true ∧ Keep None w w' ∧ ((∃ x ∈ L, lv S.tr x = 1) ∨ ∃ x ∈ L, ∃ y ∈ L, x ≠ y ∧ lv S.tr x = 0 ∧ lv S.tr y = 0)) ∨ (v = .bool false ∧ Keep None w w' ∧ ∀ x ∈ L, lv S.tr x = -1) ∨
  (v = .bool true ∧ ∃ l ∈ L, lv S.tr l = 0 ∧ (∀ x ∈ L, x ≠ l → lv S.tr x = -1) ∧ Nx tPut ex w b o { S with tr := S.tr ++ [l] } w')
theorem look47 {ex : Nat → Prop} {w : World} {b : Nat} {o : Nat → Int} {h : Hs} {S : WS} (hR : Rp ex w b o h S) (hc : Cons S.tr) (hnv : S.nv ≤ 1048576) (htr : S.tr.length ≤ 1048576) {hb : Nat} {L : List Int} {u v : Int} (hH : S.H hb = some (L, u, v)) (hL : ∀ x ∈ L, Wi S.nv x) (hLl : L.length ≤ 2097153) (hnd : L.Nodup) :
    Calls Try.prog 47 #[Pt b, Pt hb] w fun e w' => ∃ v, e = .returned v ∧ Looked ex w b o S L v w' := by
  refine V47_calls (some ⟨b, 0, none⟩) (some ⟨hb, 0, none⟩) w (Looked ex w b o S L) ?_
  unfold V47
  obtain ⟨e, lp, ln, lc, hB, hRd, hO⟩ := hR.hel hb L u v hH
  have hll := hRd.len
  refine nn_of (ldC_of (x := lp) (n := ln) (c := lc) (by rw [add_mk]; exact hB.cell 0) ?_)
  refine lp_of (fun s W => ∃ i : Nat, s.2.1 = (i : Int) ∧ i ≤ ln ∧ Keep None w W ∧ ((s.1 = 0 ∧ ∀ x ∈ L.take i, lv S.tr x = -1) ∨ (s.1 ≠ 0 ∧ s.1 ∈ L.take i ∧ lv S.tr s.1 = 0 ∧ ∀ x ∈ L.take i, x ≠ s.1 → lv S.tr x = -1))) (fun s _ => (ln - s.2.1).toNat) ⟨0, rfl, Nat.zero_le _, Keep.refl _ _, Or.inl ⟨rfl, fun x hx => by simp at hx⟩⟩ ?_
  rintro ⟨v6, i', ⟨⟩⟩ W ⟨i, rfl, hi, kW, hv⟩
  simp only [] at hv ⊢
  refine pif_of (fun hlt => ?_) fun hge => ?_
  · have hlt : i < ln := by simpa using hlt
    rw [wrap_nat i (by omega)]
    refine ⟨fun s W' => Keep None w W' ∧ ((s.1 = 0 ∧ ∀ x ∈ L.take (i + 1), lv S.tr x = -1) ∨ (s.1 ≠ 0 ∧ s.1 ∈ L.take (i + 1) ∧ lv S.tr s.1 = 0 ∧ ∀ x ∈ L.take (i + 1), x ≠ s.1 → lv S.tr x = -1)), ?_, ?_⟩
    rotate_left
    · rintro ⟨v, ⟨⟩⟩ W' ⟨k', h'⟩
      exact ⟨⟨i + 1, rfl, hlt, k', h'⟩, by omega⟩
    refine (hRd.keep0 kW).ix hlt fun a x hx ha => ldI_of ha ?_
    have hxL := List.mem_of_getElem? hx
    have hwx := hL x hxL
    refine cl_of ok26 (of26 (hR.keep0 kW) hc hnv hwx) fun e w3 ⟨he, k3⟩ => ⟨_, he, ?_⟩
    have k03 := kW.then0 k3
    have hnt : x ∉ L.take i := fun hh => by
      obtain ⟨j, hj, hje⟩ := List.mem_iff_getElem.1 hh
      rw [List.length_take] at hj
      obtain ⟨hx1, hx2⟩ := List.getElem?_eq_some_iff.1 hx
      have := (List.pairwise_iff_getElem.1 hnd) j i (by omega) hx1 (by omega)
      rw [List.getElem_take] at hje
      exact this (hje.trans hx2.symm)
    rcases lv_cases S.tr x with h1 | h1 | h1
    · rw [h1]
      exact pif_t rfl (Or.inl ⟨rfl, k03, Or.inl ⟨x, hxL, h1⟩⟩)
    · rw [h1]
      refine pif_f rfl (pif_f rfl ⟨k03, ?_⟩)
      rcases hv with ⟨hv0, hall⟩ | ⟨hv0, hvm, hvl, hall⟩
      · refine Or.inl ⟨hv0, fun y hy => ?_⟩
        rw [take_snoc hx] at hy
        rcases List.mem_append.1 hy with hy | hy
        · exact hall y hy
        · rw [List.mem_singleton.1 hy]; exact h1
      · refine Or.inr ⟨hv0, by rw [take_snoc hx]; exact List.mem_append.2 (Or.inl hvm), hvl, fun y hy hne => ?_⟩
        rw [take_snoc hx] at hy
        rcases List.mem_append.1 hy with hy | hy
        · exact hall y hy hne
        · rw [List.mem_singleton.1 hy]; exact h1
    · rw [h1]
      refine pif_f rfl (pif_t rfl ?_)
      rcases hv with ⟨hv0, hall⟩ | ⟨hv0, hvm, hvl, hall⟩
      · refine pif_f (by simp [hv0]) ⟨k03, Or.inr ⟨hwx.1, by rw [take_snoc hx]; simp, h1, fun y hy hne => ?_⟩⟩
        rw [take_snoc hx] at hy
        rcases List.mem_append.1 hy with hy | hy
        · exact hall y hy
        · exact absurd (List.mem_singleton.1 hy) hne
      · exact pif_t (by simpa using hv0) (Or.inl ⟨rfl, k03, Or.inr ⟨v6, List.mem_of_mem_take hvm, x, hxL, fun e => hnt (e ▸ hvm), hvl, h1⟩⟩)
  · have hge : i = ln := by simp at hge; omega
    subst hge
    rw [← hll, List.take_length] at hv
    rcases hv with ⟨hv0, hall⟩ | ⟨hv0, hvm, hvl, hall⟩
    · exact pif_t (by simp [hv0]) (Or.inr (Or.inl ⟨rfl, kW, hall⟩))
    · refine pif_f (by simpa using hv0) ?_
      refine cl_of ok27 (put27 (hR.keep0 kW) hnv htr (hL v6 hvm) hvl) fun e w4 ⟨he, o', h', hR', ha, kk⟩ => ⟨he, Or.inr (Or.inr ⟨rfl, v6, hvm, hvl, hall, o', h', hR', fun j hj => ha j (Nat.lt_of_lt_of_le hj kW.size), ?_⟩)⟩
      exact (Keep.none kW).trans kk fun _ _ h => h

def othr (u v l : Int) : Int := if u = l then v else u
def tMov (i : Nat) (t : Int) : Prop := t = -7 ∨ t = -4 ∨ (0 ≤ t ∧ t ≠ i)
/-- what moved leaves -/
def Moved (ex : Nat → Prop) (w : World) (b : Nat) (o : Nat → Int) (S : WS) (hb : Nat) (L : List Int) (ot l : Int) (v : Value) (w' : World) : Prop :=
  (v = .bool false ∧ Keep None w w' ∧ (lv S.tr ot = 1 ∨ (lv S.tr ot ≠ 1 ∧ ∀ x ∈ L, x ≠ ot → x ≠ l → lv S.tr x = -1))) ∨
  (v = .bool true ∧ lv S.tr ot ≠ 1 ∧ ∃ x ∈ L, x ≠ ot ∧ x ≠ l ∧ lv S.tr x ≠ -1 ∧ Nx (tMov (idxN l)) ex w b o { S with H := upd S.H hb (L, ot, x), ls := addW S.ls (idxN x) hb } w')
theorem moved62 {ex : Nat → Prop} {w : World} {b : Nat} {o : Nat → Int} {h : Hs} {S : WS} (hR : Rp ex w b o h S) (hc : Cons S.tr) (hnv : S.nv ≤ 1048576) {hb : Nat} {L : List Int} {u v l : Int} (hH : S.H hb = some (L, u, v)) (hL : ∀ x ∈ L, Wi S.nv x) (hLl : L.length ≤ 2097153)
    (hlL : Wi S.nv l) (huv : Wi S.nv u ∧ Wi S.nv v) (hex : ∀ i, ex i → i = idxN l) (hls : ∀ (i : Nat) (ids : List Nat), i ≠ idxN l → S.ls[i]? = some ids → ids.length ≤ 8796093022208) :
    Calls Try.prog 62 #[Pt b, Pt hb, I l] w fun e w' => ∃ r, e = .returned r ∧ Moved ex w b o S hb L (othr u v l) l r w' := by
  refine V62_calls (some ⟨b, 0, none⟩) (some ⟨hb, 0, none⟩) l w (Moved ex w b o S hb L (othr u v l) l) ?_
  unfold V62
  obtain ⟨e, lp, ln, lc, hB, hRd, hO⟩ := hR.hel hb L u v hH
  have hll := hRd.len
  have ix2 : ∀ {V : World}, Keep None w V → ∀ {j : Nat} {y : Int}, j < 2 → ([.slice lp ln lc, I u, I v] : List Value)[1 + j]? = some (I y) → ∀ {K : Int → Prop}, K y → ixA (some ((⟨hb, 0, none⟩ : Addr).add 1)) 2 (j : Int) 1 fun p => ldI .i64 V p K := fun {V} hk {j y} hj hy {K} hK => by
    rw [add_mk]
    refine ixA_of (by omega) (by omega) ?_
    rw [Int.toNat_natCast, Nat.mul_one]
    exact ldI_of (by rw [(hB.keep0 hk).cell]; simpa using hy) hK
  have k0 := Keep.refl None w
  refine nn_of (ix2 k0 (j := 0) (y := u) (by omega) rfl ?_)
  have dr : Keep None w w.drew := k0.drew
  have hwo : Wi S.nv (othr u v l) := by unfold othr; split; exact huv.2; exact huv.1
  refine ⟨fun s W => s.1 = othr u v l ∧ W = w.drew, ?_, ?_⟩
  · refine nn_of ?_
    simp only [add_mk, Nat.zero_add, Nat.add_zero]
    refine ldI_of (hB.drew.cell 1) (ldI_of (hB.drew.cell 2) (nn_of ?_))
    refine ix2 dr (j := 1) (y := v) (by omega) rfl (eq2T (pif_of (fun hq => ?_) fun hq => ?_))
    · have hq : u = l := by simpa using hq
      refine nn_of (ix2 dr (j := 1) (y := v) (by omega) rfl ⟨?_, by first | rfl | trivial⟩)
      unfold othr; rw [if_pos hq]
    · have hq : ¬ u = l := by simpa using hq
      exact ⟨by unfold othr; rw [if_neg hq], by first | rfl | trivial⟩
  rintro ⟨ot, ⟨⟩⟩ W ⟨rfl, rfl⟩
  simp only []
  refine cl_of ok26 (of26 (hR.keep0 dr) hc hnv hwo) fun e w2 ⟨he, k2⟩ => ⟨_, he, ?_⟩
  have k02 := dr.then0 k2
  refine pif_of (fun hq => ?_) fun hq => ?_
  · have hq : lv S.tr (othr u v l) = 1 := by simpa using hq
    exact Or.inl ⟨rfl, k02, Or.inl hq⟩
  have hq : lv S.tr (othr u v l) ≠ 1 := by simpa using hq
  refine nn_of (ldC_of (x := lp) (n := ln) (c := lc) (by rw [add_mk]; exact (hB.keep0 k02).cell 0) ?_)
  refine lp_of (fun s V => ∃ i : Nat, s.1 = (i : Int) ∧ i ≤ ln ∧ Keep None w V ∧ ∀ x ∈ L.take i, x ≠ othr u v l → x ≠ l → lv S.tr x = -1) (fun s _ => (ln - s.1).toNat) ⟨0, rfl, Nat.zero_le _, k02, fun x hx => by simp at hx⟩ ?_
  rintro ⟨i', ⟨⟩⟩ V ⟨i, rfl, hi, kV, hall⟩
  simp only []
  refine pif_of (fun hlt => ?_) fun hge => ?_
  · have hlt : i < ln := by simpa using hlt
    rw [wrap_nat i (by omega)]
    refine (hRd.keep0 kV).ix hlt fun a x hx ha => ldI_of ha ?_
    have hxL := List.mem_of_getElem? hx
    have hwx := hL x hxL
    have next : (x ≠ othr u v l → x ≠ l → lv S.tr x = -1) → ∀ V', Keep None w V' → (∃ j : Nat, ((i + 1 : Nat) : Int) = (j : Int) ∧ j ≤ ln ∧ Keep None w V' ∧ ∀ x ∈ L.take j, x ≠ othr u v l → x ≠ l → lv S.tr x = -1) ∧ ((ln : Int) - ((i + 1 : Nat) : Int)).toNat < ((ln : Int) - (i : Int)).toNat := fun hxx V' kV' =>
      ⟨⟨i + 1, rfl, hlt, kV', fun y hy => by
        rw [take_snoc hx] at hy
        rcases List.mem_append.1 hy with hy | hy
        · exact hall y hy
        · rw [List.mem_singleton.1 hy]; exact hxx⟩, by omega⟩
    by_cases hcnd : x ≠ othr u v l ∧ x ≠ l
    · have e1 : cond (x != othr u v l) (x != l) false = true := by simp [hcnd.1, hcnd.2]
      rw [e1]
      refine gd_t rfl (cl_of ok26 (of26 (hR.keep0 kV) hc hnv hwx) fun e w4 ⟨he, k4⟩ => ⟨_, he, ?_⟩)
      have k04 := kV.then0 k4
      refine pif_of (fun hg => ?_) fun hg => ?_
      · have hg : 0 ≤ lv S.tr x := by simpa using hg
        refine nn_of (setAt (hR.keep0 k04) hH fun w7 hR7 k7 => nn_of ?_)
        have kd7 : Keep None w7 w7.drew := (Keep.refl _ _).drew
        have hRd7 := hR7.keep0 kd7
        have self4 : ∀ {K : Option Addr → Nat → Nat → Prop}, K h.oo.1 h.oo.2.1 h.oo.2.2 → ldC w7.drew ((⟨b, 0, none⟩ : Addr).add 4) K := fun hK => by
          rw [add_mk]
          exact ldC_of (x := h.oo.1) (n := h.oo.2.1) (c := h.oo.2.2) (hRd7.self.cell 4) hK
        refine self4 (nn_of (self4 ?_))
        obtain ⟨ids, hids⟩ := getE (show idxN x < S.ls.length by rw [hR.ll]; exact idxN_lt hwx)
        have hne : idxN x ≠ idxN l := fun e => hcnd.2 (idxN_inj hnv hwx hlL e)
        have hlen := hls _ _ hne hids
        exact push3 (K := fun w' => Moved ex w b o S hb L (othr u v l) l (.bool true) w') hRd7 hnv hwx hids (fun hh => hne (hex _ hh)) (by omega) fun w' ⟨o', h', hR', ha, kk⟩ => Or.inr ⟨rfl, hq, x, hxL, hcnd.1, hcnd.2, fun e => by omega, o', h', by rw [addW_at hids]; exact hR', fun j hj => ha j (Nat.lt_of_lt_of_le hj (Nat.le_trans k04.size (Nat.le_trans k7.size kd7.size))), by
          have k17 : Keep (fun j => tMov (idxN l) (o j)) w w7.drew := ((Keep.none k04).trans k7 fun j _ hh => by have : o j = -7 := hh; show tMov (idxN l) (o j); rw [this]; exact Or.inl rfl).then0 kd7
          exact k17.trans kk fun j _ hh => by
            have hh' : tPush (idxN x) (o j) := hh
            show tMov (idxN l) (o j)
            rcases hh' with hh' | hh'
            · exact Or.inr (Or.inl hh')
            · exact Or.inr (Or.inr ⟨by omega, by omega⟩)⟩
      · have hg : ¬ 0 ≤ lv S.tr x := by simpa using hg
        refine next (fun _ _ => ?_) w4 k04
        rcases lv_cases S.tr x with h1 | h1 | h1 <;> omega
    · have e1 : cond (x != othr u v l) (x != l) false = false := by
        by_cases h1 : x = othr u v l
        · simp [h1]
        · have : x = l := Classical.byContradiction fun h2 => hcnd ⟨h1, h2⟩
          simp [this]
      rw [e1]
      exact gd_f rfl (pif_f rfl (next (fun h1 h2 => absurd ⟨h1, h2⟩ hcnd) V kV))
  · have hge : i = ln := by simp at hge; omega
    subst hge
    rw [← hll, List.take_length] at hall
    exact Or.inl ⟨rfl, kV, Or.inr ⟨hq, hall⟩⟩
end Go.Proofs.Ytjpblaenebodlaa.Wt
