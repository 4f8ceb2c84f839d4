/- Entries with room behind them: that they are so still; written over. -/
import Derived.Test.YtlbpllpomdjooaaLentE
import Derived.Test.YtlbpllpomdjooaaLearnM
set_option linter.unusedVariables false
set_option linter.unusedSimpArgs false
set_option linter.unusedSectionVars false
set_option maxRecDepth 100000
namespace Go.Proofs.Ytlbpllpomdjooaa.Learn
open Go Go.Proofs.Ytlbpllpomdjooaa.Vc Go.Proofs.Ytlbpllpomdjooaa.T
open Go.Proofs.Ytlbpllpomdjooaa.Apart (RdL own_rdl wrap_nat getE own_len copy same take_snoc Sl sv New Gro mks mks_succ mks_at mks_len mkW)

theorem rdl_cut {w : World} {p : Option Addr} {n m : Nat} {xs ys : List Int} (h : RdL w p n (xs ++ ys)) (hm : xs.length = m) : RdL w p m xs := ⟨hm, fun i x hx => by
  have hi := (List.getElem?_eq_some_iff.1 hx).1
  exact h.cell i x (by rw [List.getElem?_append_left hi]; exact hx)⟩
section
variable {w0 w : World} {wp rp : Option Addr} {wc rc : Nat} {xs : List (En × Sl)} {p : Option Addr} {n c : Nat} {es : List En}
theorem keptE28 {ic : Nat} (h : RdE w p n es) (hL : Lx w0 w wp (n + 64) wc rp n rc xs (mksE 64)) (hx : xs.map (fun x => x.1) = es) (hn : n ≤ 1048576) (hr : ∀ x ∈ es, x.rs.length ≤ 1048576) :
    Calls Try.prog 28 #[.agg #[.slice wp n ic, .slice wp (n + 64) wc, .slice rp n rc], .slice p n c] w fun e w' => e = .returned (.bool true) ∧ Keep None w w' := by
  refine ans_of (V28_calls wp n ic wp (n + 64) wc rp n rc p n c w (Ans w _) ?_)
  unfold V28
  have hl := h.len
  have hxl : xs.length = n := hL.rlen
  refine alc_at fun b2 w1 hb2 hB2 k1 => ?_
  simp only [add_mk, Nat.zero_add, Nat.add_zero]
  refine ldC_of (hB2.cell 1) ?_
  have ew : IntKind.wrap .i64 ((n : Int) + 64) = ((n + 64 : Nat) : Int) := by rw [IntKind.wrap_i64]; omega
  rw [ew]
  refine gd_t (by simp) (ldC_of (hB2.cell 2) ?_)
  refine pif_f (by simp) ?_
  refine lp_of (fun s W => ∃ i : Nat, s.1 = (i : Int) ∧ i ≤ n ∧ Keep None w W ∧ Blk W b2 [.slice wp n ic, .slice wp (n + 64) wc, .slice rp n rc] 45) (fun s _ => (n - s.1).toNat) ⟨0, rfl, Nat.zero_le _, k1, hB2⟩ ?_
  rintro ⟨i', ⟨⟩⟩ w3 ⟨i, rfl, hi, k3, hB2⟩
  simp only []
  refine pif_of (fun hlt => ?_) fun hge => ?_
  · have hlt : i < n := by simpa using hlt
    rw [wrap_nat i (by omega)]
    obtain ⟨x, hxx⟩ := getE (show i < xs.length by omega)
    have hxe : es[i]? = some x.1 := by rw [← hx, List.getElem?_map, hxx]; rfl
    have hrx := hr x.1 (List.mem_of_getElem? hxe)
    have hxm : (xs ++ mksE 64)[i]? = some x := by rw [List.getElem?_append_left (by omega)]; exact hxx
    obtain ⟨e0, hO0, _⟩ := hL.each x (List.mem_of_getElem? hxx)
    have hL3 := hL.keep0 k3
    refine ldC_of (hB2.cell 1) (hL3.at hxm fun a c0 c1 c2 => ldI_of c0 (ldI_of c1 (ldC_of (x := x.2.1) (n := x.2.2.1) (c := x.2.2.2) c2 ?_)))
    refine alc_at fun b20 w4 hb20 hE k4 => ?_
    have z3 := k3.size
    refine st_of hE (by simp) rfl fun w5 hE k5 _ => ?_
    refine st_of hE (by simp) rfl fun w6 hE k6 _ => ?_
    refine st_of hE (by simp) rfl fun w7 hE k7 _ => ?_
    have k37 : Keep None w3 w7.drew := (((k4.then1 k5 (by omega)).then1 k6 (by omega)).then1 k7 (by omega)).drew
    have hE : Blk w7.drew b20 [I x.1.lit, I x.1.lev, .slice x.2.1 x.2.2.1 x.2.2.2] 54 := hE.drew
    generalize w7.drew = W at *
    have kW := k3.then0 k37
    have hBW := hB2.keep0 k37
    have hLW := hL.keep0 kW
    have hW := h.keep0 kW
    have hO := hO0.keep0 kW
    refine ldI_of (hE.cell 0) (hW.ix hxe fun a1 ⟨_, _, _, d0, _⟩ => ldI_of d0 ?_)
    have e1 : (!(x.1.lit != x.1.lit)) = true := by simp
    have e1' : (x.1.lit != x.1.lit) = false := by simp
    rw [e1']
    refine gd_t rfl (ldI_of (hE.cell 1) ?_)
    refine gd_t rfl (hW.ix hxe fun a2 ⟨q2, rn2, rc2, _, d1, d2, hq2⟩ => gd_t rfl (ldI_of d1 ?_))
    have e2 : (x.1.lev != x.1.lev) = false := by simp
    simp only [e2, cond_false]
    refine gd_t rfl (ldC_of (hE.cell 2) ?_)
    refine gd_t rfl (hW.ix hxe fun a3 ⟨q3, rn3, rc3, _, _, d3, hq3⟩ => gd_t rfl (ldC_of d3 ?_))
    have hrn : rn3 = x.1.rs.length := hq3.len.symm
    subst hrn
    have e3 : ((x.2.2.1 : Int) != (x.1.rs.length : Int)) = false := by simp [e0]
    simp only [e3, cond_false]
    refine gd_t rfl (ldC_of (hBW.cell 2) ?_)
    refine gd_t rfl (hLW.row hxx fun a4 c4 => gd_t rfl (ldC_of (x := x.2.1) (n := x.2.2.1 + 64) (c := x.2.2.2) c4 ?_))
    refine gd_t rfl (hW.ix hxe fun a5 ⟨q5, rn5, rc5, _, _, d5, hq5⟩ => gd_t rfl (ldC_of d5 ?_))
    have hrn : rn5 = x.1.rs.length := hq5.len.symm
    subst hrn
    have hrow : RdL W x.2.1 (x.1.rs.length + 64) (x.1.rs ++ mks 0 64) := by rw [← e0]; exact own_rdl hO
    simp only [e0]
    refine gd_t rfl (cl_of ok29 (kept29 hq5 hrow (by omega)) fun e w8 ⟨he, k8⟩ => ⟨_, he, ?_⟩)
    refine pif_f rfl ?_
    have kW8 := kW.then0 k8
    refine lp_of (fun s V => ∃ j : Nat, s.1 = (j : Int) ∧ j ≤ x.1.rs.length ∧ Keep None W V) (fun s _ => (x.1.rs.length - s.1).toNat) ⟨0, rfl, Nat.zero_le _, k8⟩ ?_
    rintro ⟨j', ⟨⟩⟩ V ⟨j, rfl, hj, kV⟩
    simp only []
    have hEV := hE.keep0 kV
    rw [e0] at hEV
    refine ldC_of (hEV.cell 2) ?_
    refine pif_of (fun hlt2 => ?_) fun hge2 => ⟨⟨i + 1, rfl, hlt, kW.then0 kV, hBW.keep0 kV⟩, by omega⟩
    have hlt2 : j < x.1.rs.length := by simpa using hlt2
    rw [wrap_nat j (by omega)]
    have kd : Keep None W V.drew := kV.drew
    have hEd := hE.keep0 kd
    rw [e0] at hEd
    refine ldC_of (hEd.cell 2) ?_
    refine ((rdl_cut hrow rfl).keep0 kd).ix hlt2 fun a6 y hy c6 => ldI_of c6 ?_
    refine (hW.keep0 kd).ix hxe fun a7 ⟨q7, rn7, rc7, _, _, d7, hq7⟩ => ldC_of d7 ?_
    refine hq7.ix (by have := hq7.len; omega) fun a8 y2 hy2 c8 => ldI_of c8 ?_
    rw [hy] at hy2
    injection hy2 with hy2
    subst hy2
    exact pif_f (by simp) ⟨⟨j + 1, rfl, hlt2, kd⟩, by omega⟩
  · have hge : i = n := by simp at hge; omega
    subst hge
    refine lp_of (fun s W => ∃ t : Nat, s.1 = (t : Int) ∧ t ≤ 64 ∧ Keep None w W ∧ Blk W b2 [.slice wp i ic, .slice wp (i + 64) wc, .slice rp i rc] 45) (fun s _ => (64 - s.1).toNat) ⟨0, rfl, Nat.zero_le _, k3, hB2⟩ ?_
    rintro ⟨t', ⟨⟩⟩ w4 ⟨t, rfl, ht, k4, hB2⟩
    simp only []
    refine pif_of (fun hlt => ?_) fun hge => ⟨by first | rfl | trivial, k4⟩
    have hlt : t < 64 := by simp at hlt; omega
    have ew : IntKind.wrap .i64 ((i : Int) + (t : Int)) = ((i + t : Nat) : Int) := by rw [IntKind.wrap_i64]; omega
    rw [wrap_nat t (by omega), ew]
    have hxm : (xs ++ mksE 64)[i + t]? = some (mkE t) := by rw [List.getElem?_append_right (by omega), show i + t - xs.length = t by omega]; exact mksE_at hlt
    refine ldC_of (hB2.cell 1) ((hL.keep0 k4).at hxm fun a c0 c1 c2 => ldI_of c0 (ldI_of c1 (ldC_of (x := none) (n := 0) (c := 0) c2 ?_)))
    refine alc_at fun b20 w5 hb20 hE k5 => ?_
    have z4 := k4.size
    refine st_of hE (by simp) rfl fun w6 hE k6 _ => ?_
    refine st_of hE (by simp) rfl fun w7 hE k7 _ => ?_
    refine st_of hE (by simp) rfl fun w8 hE k8 _ => ?_
    have k48 : Keep None w4 w8.drew := (((k5.then1 k6 (by omega)).then1 k7 (by omega)).then1 k8 (by omega)).drew
    have hE : Blk w8.drew b20 [I (mkW 1 t), I 0, .slice none 0 0] 54 := hE.drew
    generalize w8.drew = W at *
    refine ldI_of (hE.cell 0) ?_
    refine cl_of ok54 (Apart.mark _ _ _) fun e w9 ⟨he, hw⟩ => ⟨_, he, ldI_of (by rw [hw]; exact hE.cell 0) rfl, ?_⟩
    subst hw
    have e1 : (mkW 1 (t : Int) != mkW 1 (t : Int)) = false := by simp
    rw [e1]
    refine gd_t rfl (ldI_of (hE.cell 1) ?_)
    refine gd_t rfl (ldC_of (hE.cell 2) ?_)
    exact pif_f rfl ⟨⟨t + 1, rfl, hlt, k4.then0 k48, hB2.keep0 k48⟩, by omega⟩

/-- what is left of them -/
def ovE (i : Nat) : En := ⟨1, Int.tmod (i : Int) 2, []⟩
def ovs (n : Nat) : List En := (List.range n).map ovE
theorem ovs_at {n i : Nat} (h : i < n) : (ovs n)[i]? = some (ovE i) := by simp [ovs, h]
theorem ovs_len (n : Nat) : (ovs n).length = n := by simp [ovs]
/-- a row that may be written on -/
def Wr (w : World) (x : Sl) : Prop := ∃ b vs, x.1 = some ⟨b, 0, none⟩ ∧ Blk w b vs 3 ∧ x.2.1 ≤ vs.length
def OverE (w0 wb w : World) (wp : Option Addr) (n : Nat) (v : Value) (w' : World) : Prop := v = .tuple #[] ∧ Keep (fun j => w0.heap.size ≤ j ∧ j < wb.heap.size) w w' ∧ RdE w' wp n (ovs n) ∧ Rc w' wp (ovs n)
theorem overE30 {ic : Nat} {wb : World} (hLb : Lx w0 wb wp (n + 64) wc rp n rc xs (mksE 64)) (hkb : Keep None wb w) (hn : n ≤ 1048576) (hr : ∀ x ∈ xs, x.1.rs.length ≤ 1048576) :
    Calls Try.prog 30 #[.agg #[.slice wp n ic, .slice wp (n + 64) wc, .slice rp n rc]] w fun e w' => ∃ v, e = .returned v ∧ OverE w0 wb w wp n v w' := by
  refine V30_calls wp n ic wp (n + 64) wc rp n rc w (OverE w0 wb w wp n) ?_
  unfold V30
  have hL := hLb.keep0 hkb
  have hxl : xs.length = n := hL.rlen
  have zb := hkb.size
  refine alc_at fun b2 w1 hb2 hB2 k1 => ?_
  simp only [add_mk, Nat.zero_add, Nat.add_zero]
  have hL1 := hL.keep0 k1
  -- the whole's block
  have hW0 := hL1.whole
  rcases hW0 with ⟨_, hh, _⟩ | ⟨bw, ws, ebw, hBw, hle, hmx, hwl, _⟩
  · omega
  subst ebw
  have lw : bw < wb.heap.size := hLb.whole.lt bw ⟨_, rfl, rfl⟩
  have lw0 : w0.heap.size ≤ bw := hL.newW bw ⟨_, rfl, rfl⟩
  have z1 := k1.size
  have hwr : ∀ x ∈ xs, ∃ b vs, x.2.1 = some ⟨b, 0, none⟩ ∧ Blk w1 b vs 3 ∧ x.2.2.1 + 64 ≤ vs.length ∧ w0.heap.size ≤ b ∧ b < wb.heap.size ∧ b ≠ bw ∧ ¬ ob rp b := fun x hx => by
    obtain ⟨e0, hO, hs⟩ := hL1.each x hx
    have hlt := (hLb.each x hx).2.1.lt
    rcases hO with ⟨_, hh, _⟩ | ⟨b, vs, e, hB, h1, h2, h3, _⟩
    · omega
    · have hob : ob x.2.1 b := ⟨_, e, rfl⟩
      exact ⟨b, vs, e, hB, by omega, (hs b hob).1, hlt b hob, fun hh => (hs b hob).2.1 ⟨⟨bw, 0, none⟩, rfl, hh.symm⟩, (hs b hob).2.2⟩
  refine lp_of (fun s W => ∃ (i : Nat), s.1 = (i : Int) ∧ i ≤ n ∧ Blk W b2 [.slice (some ⟨bw, 0, none⟩) n ic, .slice (some ⟨bw, 0, none⟩) (n + 64) wc, .slice rp n rc] 45 ∧ Blk W bw ws 54 ∧ Own W 25 1 rp n rc (xs.map fun x => sv (row x)) ∧
      (∀ x ∈ xs, ∃ b vs, x.2.1 = some ⟨b, 0, none⟩ ∧ Blk W b vs 3 ∧ x.2.2.1 + 64 ≤ vs.length ∧ w0.heap.size ≤ b ∧ b < wb.heap.size ∧ b ≠ bw ∧ ¬ ob rp b) ∧ Keep (fun j => w0.heap.size ≤ j ∧ j < wb.heap.size) w W) (fun s _ => (n - s.1).toNat)
    ⟨0, rfl, Nat.zero_le _, hB2, hBw, hL1.rows, hwr, k1.none⟩ ?_
  rintro ⟨i', ⟨⟩⟩ w2 ⟨i, rfl, hi, hB2, hBw, hR, hwr, k2⟩
  simp only []
  refine ldC_of (hB2.cell 2) ?_
  refine pif_of (fun hlt => ?_) fun hge => ?_
  · have hlt : i < n := by simpa using hlt
    rw [wrap_nat i (by omega)]
    refine ldC_of (hB2.cell 2) ?_
    obtain ⟨x, hx⟩ := getE (show i < xs.length by omega)
    have hxm := List.mem_of_getElem? hx
    refine hR.ix (by omega) (by omega) fun b hb => ?_
    rw [Int.toNat_natCast, Nat.mul_one]
    have hR' := hR
    rw [hb] at hR'
    have hc : w2.cell? ⟨b, i, none⟩ = some (sv (row x)) := by rw [hR'.cell _ (by omega), List.getElem?_map, hx]; rfl
    refine ldC_of (x := x.2.1) (n := x.2.2.1 + 64) (c := x.2.2.2) hc ?_
    obtain ⟨bb, vs, e, hB, hvl, q1, q2, q3, q4⟩ := hwr x hxm
    rw [e]
    have hrx := hr x hxm
    have e0 := (hL.each x hxm).1
    refine cl_of ok31 (over31 hB hvl (by omega)) fun e w3 ⟨v, he, hv, k3, cs', hcl, hB', _⟩ => ⟨he.trans (congrArg Ending.returned hv), ?_⟩
    have hne : ∀ j, One bb j → j = bb := fun j h => h
    refine ⟨⟨i + 1, rfl, hlt, hB2.keep1 k3 (by omega), hBw.keep1 k3 (fun h => q3 h.symm), hR.keep k3 (fun j hj hh => q4 (by rw [← hne j hh]; exact hj)), fun y hy => ?_, k2.trans k3 fun j hj hh => by have := hne j hh; omega⟩, by omega⟩
    obtain ⟨by', vy, ey, hBy, hvy, r1, r2, r3, r4⟩ := hwr y hy
    by_cases hbb : by' = bb
    · subst hbb
      have : vy = vs := by
        unfold Blk at hB hBy
        rw [hB] at hBy
        simp only [Option.some.injEq, Obj.cells.injEq, and_true] at hBy
        simpa using hBy.symm
      subst this
      exact ⟨by', cs', ey, hB', by omega, r1, r2, r3, r4⟩
    · exact ⟨by', vy, ey, hBy.keep1 k3 hbb, hvy, r1, r2, r3, r4⟩
  · refine lp_of (fun s W => ∃ (i : Nat) (vs : List Value), s.1 = (i : Int) ∧ i ≤ n + 64 ∧ Blk W b2 [.slice (some ⟨bw, 0, none⟩) n ic, .slice (some ⟨bw, 0, none⟩) (n + 64) wc, .slice rp n rc] 45 ∧ Blk W bw vs 54 ∧ vs.length = wc * 3 ∧
      (∀ j, j < i → vs[j * 3]? = some (I 1) ∧ vs[j * 3 + 1]? = some (I (Int.tmod (j : Int) 2)) ∧ vs[j * 3 + 2]? = some (.slice none 0 0)) ∧ Keep (fun j => w0.heap.size ≤ j ∧ j < wb.heap.size) w W) (fun s _ => ((n + 64 : Nat) - s.1).toNat)
      ⟨0, ws, rfl, Nat.zero_le _, hB2, hBw, hwl, (fun j hj => by omega), k2⟩ ?_
    rintro ⟨i', ⟨⟩⟩ w3 ⟨i, vs, rfl, hi, hB2, hBw, hvl, hall, k3⟩
    simp only []
    refine ldC_of (hB2.cell 1) ?_
    refine pif_of (fun hlt => ?_) fun hge => ?_
    · have hlt : i < n + 64 := by simp at hlt; omega
      rw [wrap_nat i (by omega)]
      refine ldC_of (hB2.cell 1) ?_
      refine ixA_of (by omega) (by omega) ?_
      rw [Int.toNat_natCast]
      simp only [add_mk, Nat.zero_add, Nat.add_zero]
      refine st_of hBw (by omega) rfl fun w4 hB4 k4 _ => ?_
      refine st_of hB4 (by rw [List.length_set]; omega) rfl fun w5 hB5 k5 _ => ?_
      refine st_of hB5 (by rw [List.length_set, List.length_set]; omega) rfl fun w6 hB6 k6 _ => ?_
      have hone : ∀ j, One bw j → w0.heap.size ≤ j ∧ j < wb.heap.size := fun j hj => by have : j = bw := hj; omega
      refine ⟨⟨i + 1, _, rfl, hlt, ((hB2.keep1 k4 (by omega)).keep1 k5 (by omega)).keep1 k6 (by omega), hB6, by rw [List.length_set, List.length_set, List.length_set]; exact hvl, fun j hj => ?_, ((k3.thenS k4 (hone _ rfl)).thenS k5 (hone _ rfl)).thenS k6 (hone _ rfl)⟩, by omega⟩
      by_cases hji : j = i
      · subst hji
        refine ⟨?_, ?_, ?_⟩
        · rw [List.getElem?_set_ne (by omega), List.getElem?_set_ne (by omega), List.getElem?_set_self (by omega)]
        · rw [List.getElem?_set_ne (by omega), List.getElem?_set_self (by rw [List.length_set]; omega)]
        · rw [List.getElem?_set_self (by rw [List.length_set, List.length_set]; omega)]
      · obtain ⟨a1, a2, a3⟩ := hall j (by omega)
        refine ⟨?_, ?_, ?_⟩
        · rw [List.getElem?_set_ne (by omega), List.getElem?_set_ne (by omega), List.getElem?_set_ne (by omega)]; exact a1
        · rw [List.getElem?_set_ne (by omega), List.getElem?_set_ne (by omega), List.getElem?_set_ne (by omega)]; exact a2
        · rw [List.getElem?_set_ne (by omega), List.getElem?_set_ne (by omega), List.getElem?_set_ne (by omega)]; exact a3
    · have hge : i = n + 64 := by simp at hge; omega
      subst hge
      have cell : ∀ j, j < n → ∀ k v, vs[j * 3 + k]? = some v → w3.cell? (((⟨bw, 0, none⟩ : Addr).add (j * 3)).add k) = some v := fun j hj k v hv => by
        rw [add_mk, add_mk, Nat.zero_add, hBw.cell]; exact hv
      refine ⟨rfl, k3, ⟨ovs_len n, fun j x hx => ?_⟩, fun j x hx => ?_⟩
      · have hj := (List.getElem?_eq_some_iff.1 hx).1
        rw [ovs_len] at hj
        rw [ovs_at hj] at hx
        injection hx with hx
        subst hx
        obtain ⟨a1, a2, a3⟩ := hall j (by omega)
        exact ⟨_, none, 0, 0, rfl, cell j hj 0 _ a1, cell j hj 1 _ a2, cell j hj 2 _ a3, ⟨rfl, fun i x h => by simp [ovE] at h⟩⟩
      · have hj := (List.getElem?_eq_some_iff.1 hx).1
        rw [ovs_len] at hj
        obtain ⟨a1, a2, a3⟩ := hall j (by omega)
        exact ⟨_, none, 0, 0, rfl, cell j hj 2 _ a3, Nat.le_refl _⟩
end
theorem add2_block (a : Addr) (i k : Nat) : ((a.add i).add k).block = a.block := by
  unfold Addr.add; split <;> (first | rfl | (split <;> rfl))
theorem ovs_keep {w w' : World} {p : Option Addr} {n m : Nat} {S : Nat → Prop} (h : RdE w p n (ovs m)) (hk : Keep S w w') (hs : ∀ i, ob p i → ¬ S i) : RdE w' p n (ovs m) := ⟨h.len, fun i x hx => by
  obtain ⟨a, q, rn, rc, e, c0, c1, c2, hr⟩ := h.cell i x hx
  have hn : ∀ k, ¬ S ((a.add (i * 3)).add k).block := fun k => by rw [add2_block]; exact hs _ ⟨a, e, rfl⟩
  have hrs : x.rs = [] := by
    obtain ⟨j, _, rfl⟩ := List.mem_map.1 (List.mem_of_getElem? hx)
    rfl
  refine ⟨a, q, rn, rc, e, hk.cell c0 (hn 0), hk.cell c1 (hn 1), hk.cell c2 (hn 2), ?_⟩
  rw [hrs] at hr ⊢
  exact ⟨hr.len, fun i x hx => by simp at hx⟩⟩
theorem ovs_keepR {w w' : World} {p : Option Addr} {m : Nat} {S : Nat → Prop} (h : Rc w p (ovs m)) (hk : Keep S w w') (hs : ∀ i, ob p i → ¬ S i) : Rc w' p (ovs m) := fun i x hx => by
  obtain ⟨a, q, rn, rc, e, c2, hl⟩ := h i x hx
  exact ⟨a, q, rn, rc, e, hk.cell c2 (by rw [add2_block]; exact hs _ ⟨a, e, rfl⟩), hl⟩
end Go.Proofs.Ytlbpllpomdjooaa.Learn
