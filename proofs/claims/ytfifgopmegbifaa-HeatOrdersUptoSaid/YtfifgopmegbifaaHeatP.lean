/- HeatOrders: the law's walk. -/
import Derived.Test.YtfifgopmegbifaaHeatO
set_option linter.unusedVariables false
set_option linter.unusedSimpArgs false
set_option maxRecDepth 100000
namespace Go.Proofs.Ytfifgopmegbifaa.Heat
open Go Go.Proofs.Ytfifgopmegbifaa.Vc Go.Proofs.Ytfifgopmegbifaa.T
open Go.Proofs.Ytfifgopmegbifaa.Apart (RdL own_rdl wrap_nat Ls Sl sv Ag Lists getE own_len copy same apart take_snoc)

theorem wrap_id {x : Int} (h : i64 x) : IntKind.wrap .i64 x = x := by
  have := h.1
  have := h.2
  rw [IntKind.wrap_i64]; omega
def Yes3 (w : World) (v : Value) (w' : World) : Prop := v = .bool true ∧ Keep None w w'
theorem low_test {sc : List Nat} {step : Nat} (hJ : Low sc step) {k : Nat} (hk : k < sc.length) :
    (cond ((FloatKind.format .f64).order (sc.getD k 0) 0 == some .gt || (FloatKind.format .f64).order (sc.getD k 0) 0 == some .eq) ((FloatKind.format .f64).order (sc.getD k 0) 6103021453049119613 == some .lt || (FloatKind.format .f64).order (sc.getD k 0) 6103021453049119613 == some .eq) false) = true := by
  have hx := hJ.1 _ (getD_mem hk)
  generalize sc.getD k 0 = x at *
  have hI : x ≤ Fl.Inf := Nat.le_of_lt (Nat.lt_of_le_of_lt hx most_inf)
  have o1 : (FloatKind.format .f64).order x 0 = some (compare x 0) := Fl.ord hI (Nat.zero_le _)
  have o2 : (FloatKind.format .f64).order x 6103021453049119613 = some (compare x 6103021453049119613) := Fl.ord hI (by decide)
  rw [o1, o2]
  have hx : x ≤ 6103021453049119613 := hx
  have a1 : (some (compare x 0) == some Ordering.gt || some (compare x 0) == some Ordering.eq) = true := by
    rcases Nat.eq_zero_or_pos x with h | h
    · rw [Nat.compare_eq_eq.2 h]; rfl
    · rw [Nat.compare_eq_gt.2 h]; rfl
  have a2 : (some (compare x 6103021453049119613) == some Ordering.lt || some (compare x 6103021453049119613) == some Ordering.eq) = true := by
    rcases Nat.lt_or_ge x 6103021453049119613 with h | h
    · rw [Nat.compare_eq_lt.2 h]; rfl
    · rw [Nat.compare_eq_eq.2 (by omega)]; rfl
  rw [a1, a2]; rfl
def Tail8 (Q b2 : Nat) (w8 : World) (R : Value → World → Prop) : Prop :=
    ldI .i64 w8 ⟨b2, 0, none⟩ fun x27 =>
    cl Try.prog 12 [.int .i64 x27, .int .i64 61] w8 fun e29 w9 => ∃ x28 : Int, e29 = Ending.returned (.int .i64 x28) ∧
    cl Try.prog 15 [.pointer (some ⟨Q, 0, none⟩)] w9 fun e32 w10 => ∃ (x31 : Option Addr) (x31n x31c : Nat), e32 = Ending.returned (.slice x31 x31n x31c) ∧
    lp (σ := Int × Int × Unit) (fun s38 w11 k37 => match s38 with
      | (v35, v36, _) =>
      pif (decide (v36 ≤ x28)) (
        jn (σ := Int × Unit) (fun k41 =>
          cl Try.prog 11 [.pointer (some ⟨Q, 0, none⟩), .int .i64 v36] w11 fun e46 w13 => ∃ x44 : Nat, ∃ x45 : Int, e46 = Ending.returned (.tuple #[.float .f64 x44, .int .i64 x45]) ∧
          gd (α := Bool) (!(cond (x45 != 0) true (!(cond ((FloatKind.format .f64).order x44 0 == some .gt || (FloatKind.format .f64).order x44 0 == some .eq) ((FloatKind.format .f64).order x44 6103021453049119613 == some .lt || (FloatKind.format .f64).order x44 6103021453049119613 == some .eq) false)))) (fun k48 =>
            cl Try.prog 10 [.pointer (some ⟨Q, 0, none⟩), .int .i64 v36] w13 fun e50 w14 => ∃ x49 : Bool, e50 = Ending.returned (.bool x49) ∧
            k48 x49 w14) false w13 fun x51 w15 =>
          gd (α := Bool) (!(cond (x45 != 0) true (!(cond ((FloatKind.format .f64).order x44 0 == some .gt || (FloatKind.format .f64).order x44 0 == some .eq) ((FloatKind.format .f64).order x44 6103021453049119613 == some .lt || (FloatKind.format .f64).order x44 6103021453049119613 == some .eq) false)))) (fun k52 =>
            cl Try.prog 23 [.slice x31 x31n x31c, .int .i64 v36] w15 fun e54 w16 => ∃ x53 : Bool, e54 = Ending.returned (.bool x53) ∧
            k52 x53 w16) false w15 fun x55 w17 =>
          pif (cond (cond (x45 != 0) true (!(cond ((FloatKind.format .f64).order x44 0 == some .gt || (FloatKind.format .f64).order x44 0 == some .eq) ((FloatKind.format .f64).order x44 6103021453049119613 == some .lt || (FloatKind.format .f64).order x44 6103021453049119613 == some .eq) false))) true (!(x51 == x55))) (
            R (.bool false) w17) (
            cl Try.prog 10 [.pointer (some ⟨Q, 0, none⟩), .int .i64 v36] w17 fun e59 w18 => ∃ x58 : Bool, e59 = Ending.returned (.bool x58) ∧
            pif x58 (
              k41 ((IntKind.wrap .i64 (v35 + 1)), ()) w18) (
              k41 (v35, ()) w18))) fun s42 w12 => match s42 with
        | (v40, _) =>
        k37 (v40, (IntKind.wrap .i64 (v36 + 1)), ()) w12) (
        pif ((x31n : Int) != v35) (
          R (.bool false) w11) (
          lp (σ := Int × Unit) (fun s67 w19 k66 => match s67 with
            | (v65, _) =>
            pif (decide (v65 < (x31n : Int))) (
              gd (α := Addr) (decide (v65 > 0)) (fun k69 =>
                ixA x31 x31n (IntKind.wrap .i64 (v65 - 1)) 1 fun p70 =>
                k69 p70 (World.drew w19)) ⟨0, 0, none⟩ (World.drew w19) fun x71 _ =>
              gd (α := Int) (decide (v65 > 0)) (fun k72 =>
                ldI .i64 (World.drew w19) x71 fun x73 =>
                k72 x73 (World.drew w19)) 0 (World.drew w19) fun x74 _ =>
              gd (α := Addr) (decide (v65 > 0)) (fun k75 =>
                ixA x31 x31n v65 1 fun p76 =>
                k75 p76 (World.drew w19)) ⟨0, 0, none⟩ (World.drew w19) fun x77 _ =>
              gd (α := Int) (decide (v65 > 0)) (fun k78 =>
                ldI .i64 (World.drew w19) x77 fun x79 =>
                k78 x79 (World.drew w19)) 0 (World.drew w19) fun x80 _ =>
              gd (α := Bool) (decide (v65 > 0)) (fun k81 =>
                cl Try.prog 24 [.pointer (some ⟨Q, 0, none⟩), .int .i64 x74, .int .i64 x80] (World.drew w19) fun e83 w20 => ∃ x82 : Bool, e83 = Ending.returned (.bool x82) ∧
                k81 x82 w20) false (World.drew w19) fun x84 w21 =>
              pif (cond (decide (v65 > 0)) (!x84) false) (
                R (.bool false) w21) (
                k66 ((IntKind.wrap .i64 (v65 + 1)), ()) w21)) (
              lp (σ := Int × Unit) (fun s90 w22 k89 => match s90 with
                | (v88, _) =>
                pif (decide (v88 < (x31n : Int))) (
                  cl Try.prog 25 [.pointer (some ⟨Q, 0, none⟩)] w22 fun e95 w23 => ∃ x93 : Int, ∃ x94 : Bool, e95 = Ending.returned (.tuple #[.int .i64 x93, .bool x94]) ∧
                  gd (α := Addr) (!(!x94)) (fun k97 =>
                    ixA x31 x31n v88 1 fun p98 =>
                    k97 p98 w23) ⟨0, 0, none⟩ w23 fun x99 w24 =>
                  gd (α := Int) (!(!x94)) (fun k100 =>
                    ldI .i64 w24 x99 fun x101 =>
                    k100 x101 w24) 0 w24 fun x102 w25 =>
                  gd (α := Bool) (!(cond (!x94) true (x93 != x102))) (fun k103 =>
                    cl Try.prog 10 [.pointer (some ⟨Q, 0, none⟩), .int .i64 x93] w25 fun e105 w26 => ∃ x104 : Bool, e105 = Ending.returned (.bool x104) ∧
                    k103 x104 w26) false w25 fun x106 w27 =>
                  pif (cond (cond (!x94) true (x93 != x102)) true x106) (
                    R (.bool false) w27) (
                    k89 ((IntKind.wrap .i64 (v88 + 1)), ()) w27)) (
                  cl Try.prog 25 [.pointer (some ⟨Q, 0, none⟩)] w22 fun e112 w28 => ∃ x110 : Int, ∃ x111 : Bool, e112 = Ending.returned (.tuple #[.int .i64 x110, .bool x111]) ∧
                  pif x111 (
                    R (.bool false) w28) (
                    lp (σ := Int × Unit) (fun s118 w29 k117 => match s118 with
                      | (v116, _) =>
                      pif (decide (v116 ≥ 0)) (
                        ixA x31 x31n v116 1 fun p121 =>
                        ldI .i64 w29 p121 fun x122 =>
                        cl Try.prog 26 [.pointer (some ⟨Q, 0, none⟩), .int .i64 x122] w29 fun e124 w30 => ∃ x123 : Int, e124 = Ending.returned (.int .i64 x123) ∧
                        pif (x123 != 0) (
                          R (.bool false) w30) (
                          k117 ((IntKind.wrap .i64 (v116 - 1)), ()) w30)) (
                        cl Try.prog 15 [.pointer (some ⟨Q, 0, none⟩)] w29 fun e129 w31 => ∃ (x128 : Option Addr) (x128n x128c : Nat), e129 = Ending.returned (.slice x128 x128n x128c) ∧
                        cl Try.prog 18 [.slice x128 x128n x128c, .slice x31 x31n x31c] w31 fun e131 w32 => ∃ x130 : Bool, e131 = Ending.returned (.bool x130) ∧
                        R (.bool x130) w32)) ((IntKind.wrap .i64 ((x31n : Int) - 1)), ()) w28))) (0, ()) w19)) (0, ()) w11))) (0, 1, ()) w10
theorem tail8 {n : Nat} {w w8 : World} {Q : HI} {sc : List Nat} {step decay : Nat} {wb : List Bool} {N : Int} {b : Nat} {v1 v2 : Value} (hP : PH n w8 Q sc step decay wb) (hJ : Low sc step) (hB : Blk w8 b [I N, v1, v2] 38) (hN : i64 N) (hn : N % 61 = n) (hn60 : n ≤ 60) (k0 : Keep None w w8)
    (hQ : ∀ i, Q.F i → w.heap.size ≤ i) : Tail8 Q.h b w8 (Yes3 w) := by
  unfold Tail8
  refine ldI_of (hB.cell 0) (cl_of ok12 (pick12 N 61 w8 hN (by omega)) fun e w9 ⟨he, hw9⟩ => ⟨_, he, ?_⟩)
  subst hw9
  rw [hn]
  have hwf := hP.wf
  refine cl_of ok15 (PHorder2 hP) fun e w10 ⟨a, R, he, la, hR, hO, hnew, k10⟩ => ⟨a.1, a.2.1, a.2.2, he, ?_⟩
  have hP := hP.keep0 k10
  have hRl := ordl_len hR
  have k0 := k0.then0 k10
  have hrd := own_rdl hO
  have haQ : ∀ i, ob a.1 i → ¬ Q.F i := fun i hi hh => by have := hnew i hi; have := (hP.lt i hh); have := ‹PH n w9 Q sc step decay wb›.lt i hh; omega
  rw [la] at hrd ⊢
  refine lp_of (fun s w' => ∃ k : Nat, k ≤ n ∧ s.2.1 = (k : Int) + 1 ∧ s.1 = (cnt n wb k : Int) ∧ w' = w10) (fun s _ => (n + 1 - s.2.1).toNat) ⟨0, Nat.zero_le _, rfl, rfl, rfl⟩ ?_
  rintro ⟨ct', v', ⟨⟩⟩ w11 ⟨k, hk, rfl, rfl, rfl⟩
  simp only []
  refine pif_of (fun hlt => ?_) fun hge => ?_
  · have hlt : k < n := by simp at hlt; omega
    have hc := cnt_le (n := n) (wb := wb) k
    have hsn : k < sc.length := by have := hwf.scl; omega
    refine ⟨fun s w' => s.1 = (cnt n wb (k + 1) : Int) ∧ w' = w11, ?_, ?_⟩
    · refine cl_of ok11 (hP.score ((k : Int) + 1)) fun e w1 ⟨hw, he⟩ => ⟨sc.getD k 0, 0, he.trans (by rw [if_pos (by omega), show ((k : Int) + 1 - 1).toNat = k by omega]), ?_⟩
      subst hw
      rw [low_test hJ hsn]
      refine gd_t rfl (cl_of ok10 (hP.isin _) fun e w2 ⟨he, hw⟩ => ⟨_, he, ?_⟩)
      subst hw
      refine gd_t rfl (cl_of ok23 (has23 hrd (by omega) _) fun e w3 ⟨he, hw⟩ => ⟨_, he, ?_⟩)
      subst hw
      have em : inA n wb ((k : Int) + 1) = decide ((k : Int) + 1 ∈ R) := by
        rw [Bool.eq_iff_iff, decide_eq_true_eq, hR.mem]
      refine pif_f (by rw [em]; simp) (cl_of ok10 (hP.isin _) fun e w4 ⟨he, hw⟩ => ⟨_, he, ?_⟩)
      subst hw
      refine pif_of (fun h1 => ⟨?_, rfl⟩) fun h1 => ⟨?_, rfl⟩
      · rw [cnt_succ, if_pos h1, wrap_nat _ (by omega)]
      · rw [cnt_succ, if_neg (by rw [h1]; decide)]; rfl
    · rintro ⟨c', ⟨⟩⟩ w2 ⟨rfl, rfl⟩
      refine ⟨⟨k + 1, hlt, ?_, rfl, rfl⟩, ?_⟩
      · rw [wrap_id ⟨by omega, by omega⟩]; omega
      · rw [wrap_id ⟨by omega, by omega⟩]; omega
  have hge : k = n := by simp at hge; omega
  subst hge
  rw [cnt_ord hR]
  refine pif_f (by simp) ?_
  refine lp_of (fun s w' => ∃ i : Nat, s.1 = (i : Int) ∧ i ≤ R.length ∧ Keep None w11 w') (fun s _ => (R.length - s.1).toNat) ⟨0, rfl, Nat.zero_le _, Keep.refl _ _⟩ ?_
  rintro ⟨i', ⟨⟩⟩ w12 ⟨i, rfl, hi, k12⟩
  simp only []
  refine pif_of (fun hlt => ?_) fun hge => ?_
  · have hlt : i < R.length := by simpa using hlt
    have kd : Keep None w11 w12.drew := k12.drew
    have hrd := hrd.keep0 kd
    have hP := hP.keep0 kd
    rw [wrap_nat i (by omega)]
    cases i with
    | zero => exact gd_f rfl (gd_f rfl (gd_f rfl (gd_f rfl (gd_f rfl (pif_f rfl ⟨⟨1, rfl, hlt, kd⟩, by omega⟩)))))
    | succ j =>
      have e1 : IntKind.wrap .i64 (((j + 1 : Nat) : Int) - 1) = (j : Int) := by rw [IntKind.wrap_i64]; omega
      have e0 : decide (((j + 1 : Nat) : Int) > 0) = true := decide_eq_true (by omega)
      rw [e1]
      refine gd_t e0 (hrd.ix (by omega) fun p1 x hx h1 => gd_t e0 (ldI_of h1 (gd_t e0 (hrd.ix hlt fun p2 y hy h2 => gd_t e0 (ldI_of h2 (gd_t e0 ?_))))))
      refine cl_of ok24 (hP.ahead (inA_rng ((hR.mem x).1 (List.mem_of_getElem? hx))) (inA_rng ((hR.mem y).1 (List.mem_of_getElem? hy)))) fun e w13 ⟨he, hw⟩ => ⟨_, he, ?_⟩
      subst hw
      rw [ordl_step hwf hR hx hy]
      exact pif_f (by rw [e0]; rfl) ⟨⟨j + 2, rfl, hlt, kd⟩, by omega⟩
  have hP := hP.keep0 k12
  have hO := (hO.keep0 k12)
  have k0 := k0.then0 k12
  -- each is taken
  refine lp_of (fun s w' => ∃ i : Nat, ∃ wb', s.1 = (i : Int) ∧ i ≤ R.length ∧ Keep Q.F w12 w' ∧ PH k w' Q sc step decay wb' ∧ Left k wb' R i) (fun s _ => (R.length - s.1).toNat)
    ⟨0, wb, rfl, Nat.zero_le _, Keep.refl _ _, hP, fun u => by rw [List.drop_zero]; exact (hR.mem u).symm⟩ ?_
  rintro ⟨i', ⟨⟩⟩ w13 ⟨i, wb', rfl, hi, k13, hP13, hL⟩
  simp only []
  refine pif_of (fun hlt => ?_) fun hge => ?_
  · have hlt : i < R.length := by simpa using hlt
    rw [wrap_nat i (by omega)]
    obtain ⟨x, hx⟩ := getE hlt
    refine cl_of ok25 hP13.take fun e w14 ⟨v, he, ht⟩ => ?_
    obtain ⟨rfl, k14, hP14, hL14⟩ := take_step hR hL hx hP13 ht
    have kk : Keep Q.F w12 w14 := k13.trans k14 fun i _ h => h
    have hO14 := hO.keep kk haQ
    have hrd := own_rdl hO14
    rw [la] at hrd
    refine ⟨_, _, he, gd_t rfl (hrd.ix hlt fun p1 y hy h1 => gd_t rfl (ldI_of h1 ?_))⟩
    rw [hx] at hy
    injection hy with hy
    subst hy
    refine gd_t (by simp) (cl_of ok10 (hP14.isin x) fun e w15 ⟨he, hw⟩ => ⟨_, he, ?_⟩)
    subst hw
    have hno : inA k (wb'.set (x - 1).toNat false) x = false := by
      rw [inA_set (inA_rng ((hR.mem x).1 (List.mem_of_getElem? hx))) hP13.wf.wbl, if_pos rfl]
    rw [hno]
    exact pif_f (by simp) ⟨⟨i + 1, _, rfl, hlt, kk, hP14, hL14⟩, by omega⟩
  have hge : i = R.length := by simp at hge; omega
  subst hge
  refine cl_of ok25 hP13.take fun e w14 ⟨v, he, ht⟩ => ?_
  have hnone : ∀ u, inA k wb' u = false := fun u => by
    cases hq : inA k wb' u with
    | false => rfl
    | true =>
      have := (hL u).1 hq
      rw [List.drop_length] at this
      cases this
  obtain ⟨_, rfl, rfl⟩ := ht.resolve_right fun ⟨y, hy, _⟩ => by
    have := hy.1
    rw [hnone y] at this; cases this
  refine ⟨_, _, he, pif_f rfl ?_⟩
  -- .. and put again
  refine lp_of (fun s w' => ∃ i : Nat, ∃ wb', s.1 = (i : Int) - 1 ∧ i ≤ R.length ∧ Keep Q.F w12 w' ∧ PH k w' Q sc step decay wb' ∧ Left k wb' R i) (fun s _ => (s.1 + 1).toNat)
    ⟨R.length, wb', by simp only []; rw [IntKind.wrap_i64]; omega, Nat.le_refl _, k13, hP13, hL⟩ ?_
  rintro ⟨i', ⟨⟩⟩ w15 ⟨i, wb2, rfl, hi, k15, hP15, hL15⟩
  simp only []
  have hO15 := hO.keep k15 haQ
  have hrd := own_rdl hO15
  rw [la] at hrd
  refine pif_of (fun hge => ?_) fun hlt => ?_
  · have hge : 0 < i := by simp at hge; omega
    obtain ⟨j, rfl⟩ : ∃ j, i = j + 1 := ⟨i - 1, by omega⟩
    rw [show ((j + 1 : Nat) : Int) - 1 = (j : Int) by omega]
    refine hrd.ix (by omega) fun p1 x hx h1 => ldI_of h1 (cl_of ok26 (hP15.put x) fun e w16 ht => ?_)
    obtain ⟨he, k16, hP16, hL16⟩ := put_step hR hL15 hx hP15 ht
    refine ⟨_, he, pif_f rfl ⟨⟨j, _, ?_, by omega, k15.trans k16 fun i _ h => h, hP16, hL16⟩, ?_⟩⟩
    · rw [wrap_id ⟨by omega, by omega⟩]
    · rw [wrap_id ⟨by omega, by omega⟩]; omega
  have h0 : i = 0 := by simp at hlt; omega
  subst h0
  have hR' : OrdL k sc wb2 R := ⟨hR.nodup, fun v => by have := hL15 v; rw [List.drop_zero] at this; exact this.symm, hR.sorted⟩
  refine cl_of ok15 (PHorder2 hP15) fun e w16 ⟨aa, Ra, he, laa, hRa, hOa, hna, ka⟩ => ⟨aa.1, aa.2.1, aa.2.2, he, ?_⟩
  obtain rfl := hR'.unique hP15.wf hRa
  have hrz : RdL w16 a.1 R.length R := by have := own_rdl (hO15.keep0 ka); rw [la] at this; exact this
  refine cl_of ok18 (same (own_rdl hOa) hrz (by rw [laa]; omega)) fun e wz ⟨he, kb⟩ => ⟨_, he, ?_, ?_⟩
  · rw [decide_eq_true rfl]
  · exact ((k0.trans k15 fun i hi hh => by have := hQ i hh; omega).then0 ka).then0 kb
theorem law8 (N : Int) (d : Nat) (sp : Option Addr) (m c : Nat) (w : World) (hN : i64 N) (hm : m ≤ 1048576) (hS : OpL w sp m) :
    Calls Try.prog 8 #[.agg #[I N, F d, .slice sp m c]] w fun e w' => e = .returned (.bool true) ∧ RowKit.Below w.heap.size w w' := by
  refine (V8_calls N d sp m c w (Yes3 w) ?_).mono fun e w' ⟨v, he, hv, hk⟩ => ⟨by rw [he, hv], hk.below0⟩
  unfold V8
  refine alc_at fun b w1 hb hB k1 => ?_
  simp only [add_mk, Nat.zero_add, Nat.add_zero]
  refine ldI_of (hB.cell 0) (ldF_of (hB.cell 1) (ldC_of (hB.cell 2) ?_))
  have m1 := Int.emod_nonneg N (show (61 : Int) ≠ 0 by omega)
  have m2 := Int.emod_lt_of_pos N (show (0 : Int) < 61 by omega)
  refine cl_of ok16 (run16 jok_low N d sp m c w1 hN hm (hS.keep0 k1)) fun e w2 ⟨v, he, Q, decay, p, pc, xs, C, o, hv, hC, h⟩ => ⟨_, _, _, _, he.trans (congrArg Ending.returned hv), ?_⟩
  have hn61 : N % 61 = ((N % 61).toNat : Int) := by omega
  have hn60 : (N % 61).toNat ≤ 60 := by omega
  generalize (N % 61).toNat = n at *
  obtain ⟨sc, step, wb, hP, hJ, hw⟩ := h.st.2
  have k2 := h.keep
  have hwf := hP.wf
  have hs := hwf.small
  have hB2 := hB.keep0 k2
  have hQ1 : ∀ i, Q.F i → w1.heap.size ≤ i := fun i hi => Nat.le_of_not_lt fun hlt => by have := h.old i hlt; have := h.oh i hi; omega
  -- In(1) where nothing was called
  refine gd_t rfl (cl_of ok10 (hP.isin 1) fun e w3 ⟨he, hw3⟩ => ⟨_, he, ?_⟩)
  subst hw3
  simp only [Option.isNone_some, Bool.not_false, Bool.true_and]
  have hQ0 : ∀ i, Q.F i → w.heap.size ≤ i := fun i hi => by have := hQ1 i hi; have := k1.size; omega
  have tail := tail8 hP hJ hB2 hN hn61 hn60 (k1.then0 k2) hQ0
  cases hin : inA n wb 1 with
  | true => exact gd_f rfl (gd_f rfl (gd_f rfl (pif_f rfl tail)))
  | false =>
    refine gd_t rfl (ldI_of (hB2.cell 0) (gd_t rfl (cl_of ok12 (pick12 N 61 w3 hN (by omega)) fun e w4 ⟨he, hw4⟩ => ⟨_, he, ?_⟩)))
    subst hw4
    rw [hn61]
    by_cases hn0 : 0 < n
    · have hm0 : m ≠ 0 := fun hm0 => by
        have : inA n wb 1 = true := by
          unfold inA isIn
          rw [hw hm0, List.getD_eq_getElem?_getD, List.getElem?_replicate, if_pos (by omega)]
          simp
          omega
        rw [this] at hin; cases hin
      refine gd_t (by simpa using hn0) (ldC_of (hB2.cell 2) (pif_f ?_ tail))
      simp [hm0]
    · refine gd_f (by simpa using hn0) (pif_f ?_ tail)
      simp [hn0]
end Go.Proofs.Ytfifgopmegbifaa.Heat
