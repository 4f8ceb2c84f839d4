/- Watch: New. -/
import Derived.Test.YtjpblaenebodlaaWX
set_option linter.unusedVariables false
set_option linter.unusedSimpArgs false
set_option linter.unusedSectionVars false
set_option maxRecDepth 100000
namespace Go.Proofs.Ytjpblaenebodlaa.Wt
open Go Go.Proofs.Ytjpblaenebodlaa.Vc Go.Proofs.Ytjpblaenebodlaa.T
open Go.Proofs.Ytjpblaenebodlaa.Apart (RdL own_rdl wrap_nat getE own_len copy same take_snoc Sl sv New)
open Go.Proofs.Ytjpblaenebodlaa.Lits (fl fl_iff idx idx_inj idx_range Ans ans_of indexP formedP tidyP Td Srt mk2_of)

/-- a Watch that knows nothing -/
def W0 (m : Nat) : WS := ⟨m, [], [], 0, fun _ => none, List.replicate (2 * m) [], [], false, false⟩
theorem W0_ls {m i : Nat} {ids : List Nat} (h : (W0 m).ls[i]? = some ids) : ids = [] := by
  have := List.mem_of_getElem? h
  exact (List.mem_replicate.1 this).2
theorem At.new {m : Nat} (hm : m ≤ 1048576) : At [] (W0 m) := by
  have nin : ∀ i h, ¬ hIn (W0 m).ls i h := fun i h ⟨ids, hi, hh⟩ => by rw [W0_ls hi] at hh; cases hh
  refine ⟨⟨⟨hm, (fun l hl => by cases hl), List.nodup_nil, (fun l hl => by cases hl), Nat.zero_le _, (fun h L u v hH => by cases hH), (fun i ids hi => by rw [W0_ls hi]; exact ⟨Nat.zero_le _, fun h hh => by cases hh⟩), Nat.zero_le _, (fun h hh => by cases hh)⟩, Nat.le_refl _, (fun s hs => by cases hs), Nat.le_refl _, Nat.le_refl _, Nat.le_refl _,
    (fun i h hi => absurd hi (nin i h)), (fun i ids hi => by rw [W0_ls hi]; exact List.nodup_nil), (fun i h L u v hi => absurd hi (nin i h)), ⟨[], Nat.zero_le _, fun h hh => absurd rfl hh⟩, (fun c hc => by cases hc), (fun h L u v hH => by cases hH), Nat.zero_le _, List.nodup_nil, (fun h hh => by cases hh)⟩, List.Pairwise.nil, fun hf => by cases hf⟩
theorem vals_new (m : Nat) : vals m [] = List.replicate (m + 1) (J8 0) := by
  unfold vals
  apply List.ext_getElem
  · simp
  · intro i h1 h2
    simp [lv]
theorem Rp.new {w : World} {b bv bo : Nat} {o : Nat → Int} {m : Nat} (hm : m ≤ 1048576) (hS : Blk w b [.slice (some ⟨bv, 0, none⟩) (m + 1) (m + 1), .slice none 0 0, .slice none 0 0, I 0, .slice (some ⟨bo, 0, none⟩) (2 * m) (2 * m), .slice none 0 0, .bool false, .bool false] 64)
    (hV : Blk w bv (List.replicate (m + 1) (J8 0)) 67) (hO : Blk w bo (List.replicate (2 * m) (.slice none 0 0)) 62) (ob6 : o b = -6) (ob1 : o bv = -1) (ob4 : o bo = -4) :
    Rp noEx w b o ⟨(some ⟨bv, 0, none⟩, m + 1, m + 1), (none, 0, 0), (none, 0, 0), (some ⟨bo, 0, none⟩, 2 * m, 2 * m), (none, 0, 0), List.replicate (2 * m) (none, 0, 0)⟩ (W0 m) := by
  have no : ∀ {t : Int} (i : Nat), ob (none : Option Addr) i → o i = t := fun i ⟨a, hh, _⟩ => by cases hh
  have hx : ∀ (i : Nat) (x : Sl), (List.replicate (2 * m) ((none, 0, 0) : Sl))[i]? = some x → x = (none, 0, 0) := fun i x h => (List.mem_replicate.1 (List.mem_of_getElem? h)).2
  refine ⟨hS, ob6, Or.inr ⟨bv, _, rfl, hV, Nat.le_refl _, by simp only [maxLen]; omega, by simp, ?_⟩, ?_, Own.nil _ _ _, fun i hi => no i hi, Own.nil _ _ _, fun i hi => no i hi, Or.inr ⟨bo, _, rfl, hO, Nat.le_refl _, by simp only [maxLen]; omega, by simp, ?_⟩, ?_, by simp [W0], by simp [W0], fun i x ids h1 h2 _ => ?_, fun i x h1 j hj => ?_, Own.nil _ _ _, fun i hi => no i hi, fun i L u v hH => by cases hH⟩
  · show _ = vals m []
    rw [vals_new]
    simp
  · rintro i ⟨a, ha, rfl⟩; cases ha; exact ob1
  · simp [sv]
  · rintro i ⟨a, ha, rfl⟩; cases ha; exact ob4
  · rw [hx i x h1, W0_ls h2]; exact Own.nil _ _ _
  · rw [hx i x h1] at hj
    obtain ⟨a, hh, _⟩ := hj; cases hh
/-- a new Watch takes its clauses in -/
def Newly (w : World) (nv : Int) (css : List (List Int)) (v : Value) (w' : World) : Prop :=
  (v = .tuple #[.pointer none, I 1] ∧ ¬ FormedF nv css ∧ Keep None w w') ∨
  ∃ b o h S, v = .tuple #[Pt b, I 0] ∧ FormedF nv css ∧ w.heap.size ≤ b ∧ Keep None w w' ∧ Rp noEx w' b o h S ∧ At css S ∧ S.nv = nv.toNat ∧ S.tr = [] ∧ S.st = [] ∧ S.rest = false ∧ S.clash = false ∧ ∀ i, i < w.heap.size → o i = -9
theorem newLoop {B : Nat → Prop} {w : World} {b : Nat} {o : Nat → Int} {h : Hs} {m : Nat} (hm : m ≤ 1048576) (hR : Rp noEx w b o h (W0 m)) {p : Option Addr} {n : Nat} {css : List (List Int)} (hC : RdC B w p n css) (hB : ∀ i, B i → o i = -9 ∧ i < w.heap.size) (hn : n ≤ cap) (hl : ∀ es ∈ css, es.length ≤ 17592186044416) (hw : ∀ es ∈ css, ∀ x ∈ es, Wi m x) {K : World → Prop}
    (hK : ∀ w' o' h' S, Rp noEx w' b o' h' S → At css S → S.nv = m → S.tr = [] → S.st = [] → S.rest = false → S.clash = false → Ag w o o' → Keep (fun i => tMine (o i)) w w' → K w') :
    lp (σ := Int × Unit) (fun s w6 k => match s with
      | (v, _) =>
      pif (decide (v < (n : Int))) (
        ixA p n v 1 fun p23 =>
        ldC w6 p23 fun x24 x24n x24c =>
        cl Try.prog 24 [.pointer (some (⟨b, 0, none⟩ : Addr)), .slice x24 x24n x24c] w6 fun e26 w7 => e26 = Ending.returned (.tuple #[]) ∧
        k ((IntKind.wrap .i64 (v + 1)), ()) w7) (
        K w6)) (0, ()) w := by
  have hll := hC.len
  refine lp_of (fun s W => ∃ (i : Nat) (S : WS) (o1 : Nat → Int) (h1 : Hs), s.1 = (i : Int) ∧ i ≤ n ∧ Rp noEx W b o1 h1 S ∧ At (css.take i) S ∧ Fh (W0 m) S ∧ Ag w o o1 ∧ Keep (fun i => tMine (o i)) w W) (fun s _ => (n - s.1).toNat) ⟨0, W0 m, o, h, rfl, Nat.zero_le _, hR, At.new hm, Fh.refl _, Ag.refl _ _, Keep.refl _ _⟩ ?_
  rintro ⟨i', ⟨⟩⟩ W ⟨i, S, o1, h1, rfl, hi, hR1, hA1, hF1, ha1, k1⟩
  simp only []
  refine pif_of (fun hlt => ?_) fun hge => ?_
  · have hlt : i < n := by simpa using hlt
    have hcap : cap ≤ 8796093022208 := Nat.le_refl _
    rw [wrap_nat i (by omega)]
    obtain ⟨es, hes⟩ := getE (show i < css.length by omega)
    have hmm := List.mem_of_getElem? hes
    have hCW : RdC B W p n css := hC.keep k1 fun j hj hh => hh (hB j hj).1
    refine hCW.ix hes fun a q k cc ha hRd => ldC_of ha ?_
    refine cl_of ok24 (hold24 hR1 hA1.iv hRd (by rw [← hRd.len]; exact hl es hmm) (fun x hx => by rw [hF1.nv]; exact hw es hmm x hx) (by rw [List.length_take]; omega)) fun e w2 ⟨he2, S2, ⟨o2, h2, hR2, ha2, k2⟩, hI2, hF⟩ => ⟨he2, ⟨i + 1, S2, o2, h2, rfl, hlt, hR2, ⟨?_, ?_, fun hh => ?_⟩, ⟨hF.nv.trans hF1.nv, hF.tr.trans hF1.tr, hF.st.trans hF1.st, hF.hd.trans hF1.hd, hF.rest.trans hF1.rest, hF.clash.trans hF1.clash⟩, ha1.trans ha2 k1.size, keep_ag k1 ha1 k2⟩, by omega⟩
    · rw [List.take_add_one, hes]
      rw [← hF.hd, ← hF.tr] at hI2
      exact hI2
    · rw [hF.st]; exact hA1.st1
    · rw [hF.rest, hF1.rest] at hh; cases hh
  · have hge : i = n := by simp at hge; omega
    subst hge
    rw [← hll, List.take_length] at hA1
    exact hK W o1 h1 S hR1 hA1 hF1.nv hF1.tr hF1.st hF1.rest hF1.clash ha1 k1
theorem new7 {B : Nat → Prop} {w : World} {nv : Int} {p : Option Addr} {n c : Nat} {css : List (List Int)} (hC : RdC B w p n css) (hB : ∀ i, B i → i < w.heap.size) (hn : n ≤ cap) (hl : ∀ es ∈ css, es.length ≤ 17592186044416) :
    Calls Try.prog 7 #[.agg #[I nv, .slice p n c]] w fun e w' => ∃ v, e = .returned v ∧ Newly w nv css v w' := by
  refine V7_calls nv p n c w (Newly w nv css) ?_
  have hcap : cap ≤ 8796093022208 := Nat.le_refl _
  unfold V7
  refine alc_at fun b2 w1 hb2 hB2 k1 => ?_
  refine ldI_of (x := nv) (by rw [add_mk]; exact hB2.cell 0) ?_
  refine ldC_of (x := p) (n := n) (c := c) (by rw [add_mk]; exact hB2.cell 1) ?_
  refine cl_of ok23 (formed23 (hC.keep0 k1) (by omega) hl) fun e w2 ⟨r, he, hr, k2⟩ => ⟨r, he, ?_⟩
  have hB2' := hB2.keep0 k2
  refine pif_of (fun hq => Or.inl ⟨rfl, fun hf => ?_, k1.then0 k2⟩) fun hq => ?_
  · rw [hr.2 hf] at hq; cases hq
  have hf := hr.1 (by simpa using hq)
  have hf' := hf
  obtain ⟨h0, h1, hw⟩ := hf
  obtain ⟨m, rfl⟩ := Int.eq_ofNat_of_zero_le h0
  have hwm : ∀ es ∈ css, ∀ x ∈ es, Wi m x := hw
  have hm : m ≤ 1048576 := by omega
  have e1 : IntKind.wrap .i64 ((m : Int) + 1) = ((m + 1 : Nat) : Int) := by rw [IntKind.wrap_i64]; omega
  have e2 : IntKind.wrap .i64 (2 * (m : Int)) = ((2 * m : Nat) : Int) := by rw [IntKind.wrap_i64]; omega
  refine ldI_of (x := (m : Int)) (by rw [add_mk]; exact hB2'.drew.cell 0) ?_
  refine ldI_of (x := (m : Int)) (by rw [add_mk]; exact hB2'.drew.cell 0) ?_
  rw [e1, e2]
  have k2d : Keep None w w2.drew := (k1.then0 k2).drew
  have fin : ∀ {w5 : World} {bS bV bO : Nat} (kk : Keep None w w5) (hS : Blk w5 bS [.slice (some ⟨bV, 0, none⟩) (m + 1) (m + 1), .slice none 0 0, .slice none 0 0, I 0, .slice (some ⟨bO, 0, none⟩) (2 * m) (2 * m), .slice none 0 0, .bool false, .bool false] 64)
      (hV : Blk w5 bV (List.replicate (m + 1) (J8 0)) 67) (hO : Blk w5 bO (List.replicate (2 * m) (.slice none 0 0)) 62) (g1 : w.heap.size ≤ bS) (g2 : w.heap.size ≤ bV) (g3 : w.heap.size ≤ bO) (d1 : bV ≠ bS) (d2 : bO ≠ bS) (d3 : bO ≠ bV),
      lp (σ := Int × Unit) (fun s w6 k => match s with
      | (v, _) =>
      pif (decide (v < (n : Int))) (
        ixA p n v 1 fun p23 =>
        ldC w6 p23 fun x24 x24n x24c =>
        cl Try.prog 24 [.pointer (some (⟨bS, 0, none⟩ : Addr)), .slice x24 x24n x24c] w6 fun e26 w7 => e26 = Ending.returned (.tuple #[]) ∧
        k ((IntKind.wrap .i64 (v + 1)), ()) w7) (
        Newly w (m : Int) css (.tuple #[.pointer (some (⟨bS, 0, none⟩ : Addr)), .int .i64 0]) w6)) (0, ()) w5 := by
    intro w5 bS bV bO kk hS hV hO g1 g2 g3 d1 d2 d3
    have hR := Rp.new (o := fun i => if i = bS then -6 else if i = bV then -1 else if i = bO then -4 else -9) hm hS hV hO (if_pos rfl) (by show (if _ then _ else _) = _; rw [if_neg d1, if_pos rfl]) (by show (if _ then _ else _) = _; rw [if_neg d2, if_neg d3, if_pos rfl])
    have old : ∀ i, i < w.heap.size → (if i = bS then (-6 : Int) else if i = bV then -1 else if i = bO then -4 else -9) = -9 := fun i hi => by
      rw [if_neg (by omega), if_neg (by omega), if_neg (by omega)]
    refine newLoop (o := fun i => if i = bS then -6 else if i = bV then -1 else if i = bO then -4 else -9) hm hR (hC.keep0 kk) (fun i hi => ⟨old i (hB i hi), Nat.lt_of_lt_of_le (hB i hi) kk.size⟩) hn hl hwm fun w' o' h' S hR' hA hSn hSt hSs hSr hSc ha k => ?_
    refine Or.inr ⟨bS, o', h', S, rfl, hf', g1, kk.trans k fun i hi ht => ?_, hR', hA, ?_, hSt, hSs, hSr, hSc, fun i hi => ?_⟩
    · rw [old i hi] at ht
      exact absurd ht (by unfold tMine; decide)
    · rw [hSn]; rfl
    · rw [ha i (Nat.lt_of_lt_of_le hi kk.size)]; exact old i hi
  refine ⟨?_, ?_⟩
  · refine mk_of Try.underlying60 (z := J8 0) (B := 1) (by kernel_rfl) rfl (by omega) (by omega) (by omega) fun bV w3 hbV hV k3 => ?_
    refine ⟨ldI_of (x := (m : Int)) (by rw [add_mk]; exact (hB2'.drew.keep0 k3).cell 0) rfl, ?_⟩
    refine mk_of Try.underlying61 (z := .slice none 0 0) (B := 24) (by kernel_rfl) rfl (by omega) (by omega) (by omega) fun bO w4 hbO hO k4 => ?_
    refine ⟨ldI_of (x := (m : Int)) (by rw [add_mk]; exact ((hB2'.drew.keep0 k3).keep0 k4).cell 0) rfl, ?_⟩
    refine alc_at fun bS w5 hbS hS k5 => ?_
    refine ldC_of (x := p) (n := n) (c := c) (by rw [add_mk]; exact (((hB2'.drew.keep0 k3).keep0 k4).keep0 k5).cell 1) ?_
    rw [Int.toNat_natCast] at hV hO hS
    have s3 := k3.size; have s4 := k4.size; have s2 := k2d.size
    have l3 := hV.lt; have l4 := hO.lt
    exact fin (((k2d.then0 k3).then0 k4).then0 k5) hS ((hV.keep0 k4).keep0 k5) (hO.keep0 k5) (by omega) (by omega) (by omega) (by omega) (by omega) (by omega)
  · refine mk_of Try.underlying61 (z := .slice none 0 0) (B := 24) (by kernel_rfl) rfl (by omega) (by omega) (by omega) fun bO w3 hbO hO k3 => ?_
    refine ⟨ldI_of (x := (m : Int)) (by rw [add_mk]; exact (hB2'.drew.keep0 k3).cell 0) rfl, ?_⟩
    refine mk_of Try.underlying60 (z := J8 0) (B := 1) (by kernel_rfl) rfl (by omega) (by omega) (by omega) fun bV w4 hbV hV k4 => ?_
    refine ⟨ldI_of (x := (m : Int)) (by rw [add_mk]; exact ((hB2'.drew.keep0 k3).keep0 k4).cell 0) rfl, ?_⟩
    refine alc_at fun bS w5 hbS hS k5 => ?_
    refine ldC_of (x := p) (n := n) (c := c) (by rw [add_mk]; exact (((hB2'.drew.keep0 k3).keep0 k4).keep0 k5).cell 1) ?_
    rw [Int.toNat_natCast] at hV hO hS
    have s3 := k3.size; have s4 := k4.size; have s2 := k2d.size
    have l3 := hO.lt; have l4 := hV.lt
    exact fin (((k2d.then0 k3).then0 k4).then0 k5) hS (hV.keep0 k5) ((hO.keep0 k4).keep0 k5) (by omega) (by omega) (by omega) (by omega) (by omega) (by omega)
end Go.Proofs.Ytjpblaenebodlaa.Wt
