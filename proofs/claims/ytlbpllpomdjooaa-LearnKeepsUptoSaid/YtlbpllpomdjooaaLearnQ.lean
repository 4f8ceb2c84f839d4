/- LearnKeeps: its walk. -/
import Derived.Test.YtlbpllpomdjooaaLearnP
set_option linter.unusedVariables false
set_option linter.unusedSimpArgs false
set_option linter.unusedSectionVars false
set_option maxRecDepth 100000
namespace Go.Proofs.Ytlbpllpomdjooaa.Learn
open Go Go.Proofs.Ytlbpllpomdjooaa.Vc Go.Proofs.Ytlbpllpomdjooaa.T
open Go.Proofs.Ytlbpllpomdjooaa.Apart (RdL own_rdl wrap_nat getE own_len copy same take_snoc Sl sv New mks mks_len)

def T9B (b2 b9 : Nat) (x12 : Option Addr) (x12n x12c : Nat) (x16 : Option Addr) (x16n x16c : Nat) (x22 : Option Addr) (x22n x22c : Nat) (x17 x18 x23 x27 : Int) (x32 : Bool) (w15 : World) (R : Value → World → Prop) : Prop :=
    ldC (World.drew w15) ((⟨b2, 0, none⟩ : Addr).add 1) fun x49 x49n x49c =>
    ldC (World.drew w15) ((⟨b2, 0, none⟩ : Addr).add 3) fun x50 x50n x50c =>
    cl Try.prog 11 [.slice x49 x49n x49c] (World.drew w15) fun e52 w16 => ∃ (x51 : Option Addr) (x51n x51c : Nat), e52 = Ending.returned (.slice x51 x51n x51c) ∧
    (
      ldC w16 ((⟨b2, 0, none⟩ : Addr).add 3) fun x53 x53n x53c =>
      ((.slice x53 x53n x53c : Value) = .slice x50 x50n x50c)) ∧
    cl Try.prog 14 [.slice x50 x50n x50c] w16 fun e55 w17 => ∃ (x54 : Option Addr) (x54n x54c : Nat), e55 = Ending.returned (.slice x54 x54n x54c) ∧
    cl Try.prog 20 [.slice x51 x51n x51c, .slice x54 x54n x54c] w17 fun e59 w18 => ∃ (x56 : Option Addr) (x56n x56c : Nat), ∃ x57 : Int, ∃ x58 : Int, e59 = Ending.returned (.tuple #[.slice x56 x56n x56c, .int .i64 x57, .int .i64 x58]) ∧
    ldC (World.drew w18) ((⟨b2, 0, none⟩ : Addr).add 1) fun x60 x60n x60c =>
    ldC (World.drew w18) ((⟨b2, 0, none⟩ : Addr).add 3) fun x61 x61n x61c =>
    cl Try.prog 11 [.slice x60 x60n x60c] (World.drew w18) fun e63 w19 => ∃ (x62 : Option Addr) (x62n x62c : Nat), e63 = Ending.returned (.slice x62 x62n x62c) ∧
    (
      ldC w19 ((⟨b2, 0, none⟩ : Addr).add 3) fun x64 x64n x64c =>
      ((.slice x64 x64n x64c : Value) = .slice x61 x61n x61c)) ∧
    cl Try.prog 14 [.slice x61 x61n x61c] w19 fun e66 w20 => ∃ (x65 : Option Addr) (x65n x65c : Nat), e66 = Ending.returned (.slice x65 x65n x65c) ∧
    cl Try.prog 16 [.slice x62 x62n x62c, .slice x65 x65n x65c] w20 fun e69 w21 => ∃ (x67 : Option Addr) (x67n x67c : Nat), ∃ x68 : Int, e69 = Ending.returned (.tuple #[.slice x67 x67n x67c, .int .i64 x68]) ∧
    ldC (World.drew w21) ((⟨b9, 0, none⟩ : Addr).add 0) fun x70 x70n x70c =>
    ldC (World.drew w21) ((⟨b2, 0, none⟩ : Addr).add 2) fun x71 x71n x71c =>
    0 ≤ (x71n : Int) ∧ (x71n : Int) ≤ (x12c : Int) ∧
    cl Try.prog 20 [.slice x70 x70n x70c, .slice (slA x12 x12c 0 1) ((Int.toNat (x71n : Int)) - 0) (x12c - 0)] (World.drew w21) fun e75 w22 => ∃ (x72 : Option Addr) (x72n x72c : Nat), ∃ x73 : Int, ∃ x74 : Int, e75 = Ending.returned (.tuple #[.slice x72 x72n x72c, .int .i64 x73, .int .i64 x74]) ∧
    ldC (World.drew w22) ((⟨b9, 0, none⟩ : Addr).add 0) fun x76 x76n x76c =>
    ldC (World.drew w22) ((⟨b2, 0, none⟩ : Addr).add 2) fun x77 x77n x77c =>
    0 ≤ (x77n : Int) ∧ (x77n : Int) ≤ (x12c : Int) ∧
    cl Try.prog 16 [.slice x76 x76n x76c, .slice (slA x12 x12c 0 1) ((Int.toNat (x77n : Int)) - 0) (x12c - 0)] (World.drew w22) fun e80 w23 => ∃ (x78 : Option Addr) (x78n x78c : Nat), ∃ x79 : Int, e80 = Ending.returned (.tuple #[.slice x78 x78n x78c, .int .i64 x79]) ∧
    ldC w23 ((⟨b2, 0, none⟩ : Addr).add 0) fun x82 x82n x82c =>
    ldC w23 ((⟨b2, 0, none⟩ : Addr).add 2) fun x83 x83n x83c =>
    cl Try.prog 21 [.slice x82 x82n x82c, .slice x83 x83n x83c] w23 fun e87 w24 => ∃ (x84 : Option Addr) (x84n x84c : Nat), ∃ x85 : Int, ∃ x86 : Int, e87 = Ending.returned (.tuple #[.slice x84 x84n x84c, .int .i64 x85, .int .i64 x86]) ∧
    ldC w24 ((⟨b2, 0, none⟩ : Addr).add 0) fun x89 x89n x89c =>
    ldC w24 ((⟨b2, 0, none⟩ : Addr).add 2) fun x90 x90n x90c =>
    cl Try.prog 17 [.slice x89 x89n x89c, .slice x90 x90n x90c] w24 fun e93 w25 => ∃ (x91 : Option Addr) (x91n x91c : Nat), ∃ x92 : Int, e93 = Ending.returned (.tuple #[.slice x91 x91n x91c, .int .i64 x92]) ∧
    ldC w25 ((⟨b2, 0, none⟩ : Addr).add 0) fun x95 x95n x95c =>
    ldC w25 ((⟨b2, 0, none⟩ : Addr).add 2) fun x96 x96n x96c =>
    cl Try.prog 15 [.slice x95 x95n x95c, .slice x96 x96n x96c] w25 fun e99 w26 => ∃ x97 : Int, ∃ x98 : Int, e99 = Ending.returned (.tuple #[.int .i64 x97, .int .i64 x98]) ∧
    gd (α := (Option Addr × Nat × Nat)) (!(cond (cond (cond (x17 != x85) true (x18 != x86)) true (x23 != x92)) true (x27 != x97))) (fun k101 =>
      ldC w26 ((⟨b2, 0, none⟩ : Addr).add 0) fun x102 x102n x102c =>
      k101 (x102, x102n, x102c) w26) (none, 0, 0) w26 fun x103 w27 =>
    gd (α := Bool) (!(cond (cond (cond (x17 != x85) true (x18 != x86)) true (x23 != x92)) true (x27 != x97))) (fun k104 =>
      cl Try.prog 12 [.slice x103.1 x103.2.1 x103.2.2] w27 fun e106 w28 => ∃ x105 : Bool, e106 = Ending.returned (.bool x105) ∧
      k104 x105 w28) false w27 fun x107 w29 =>
    gd (α := Bool) (!(cond (cond (cond (cond (x17 != x85) true (x18 != x86)) true (x23 != x92)) true (x27 != x97)) true (!(x32 == x107)))) (fun k108 =>
      cl Try.prog 18 [.slice x72 x72n x72c, .slice x84 x84n x84c] w29 fun e110 w30 => ∃ x109 : Bool, e110 = Ending.returned (.bool x109) ∧
      k108 x109 w30) false w29 fun x111 w31 =>
    gd (α := Bool) (!(cond (cond (cond (cond (cond (x17 != x85) true (x18 != x86)) true (x23 != x92)) true (x27 != x97)) true (!(x32 == x107))) true (!x111))) (fun k112 =>
      cl Try.prog 18 [.slice x78 x78n x78c, .slice x91 x91n x91c] w31 fun e114 w32 => ∃ x113 : Bool, e114 = Ending.returned (.bool x113) ∧
      k112 x113 w32) false w31 fun x115 w33 =>
    pif (cond (cond (cond (cond (cond (cond (x17 != x85) true (x18 != x86)) true (x23 != x92)) true (x27 != x97)) true (!(x32 == x107))) true (!x111)) true (!x115)) (
      R (.bool false) w33) (
      ldC w33 ((⟨b9, 0, none⟩ : Addr).add 0) fun x118 x118n x118c =>
      ldC w33 ((⟨b9, 0, none⟩ : Addr).add 1) fun x119 x119n x119c =>
      ldC w33 ((⟨b9, 0, none⟩ : Addr).add 2) fun x120 x120n x120c =>
      cl Try.prog 30 [.agg #[.slice x118 x118n x118c, .slice x119 x119n x119c, .slice x120 x120n x120c]] w33 fun e121 w34 => e121 = Ending.returned (.tuple #[]) ∧
      cl Try.prog 31 [.slice x12 x12n x12c] w34 fun e123 w35 => e123 = Ending.returned (.tuple #[]) ∧
      cl Try.prog 18 [.slice x16 x16n x16c, .slice x84 x84n x84c] w35 fun e126 w36 => ∃ x125 : Bool, e126 = Ending.returned (.bool x125) ∧
      gd (α := Bool) (!(!x125)) (fun k127 =>
        cl Try.prog 18 [.slice x22 x22n x22c, .slice x91 x91n x91c] w36 fun e129 w37 => ∃ x128 : Bool, e129 = Ending.returned (.bool x128) ∧
        k127 x128 w37) false w36 fun x130 w38 =>
      pif (cond (!x125) true (!x130)) (
        R (.bool false) w38) (
        T9C b2 b9 x12 x12n x12c x16 x16n x16c x22 x22n x22c x56 x56n x56c x67 x67n x67c x72 x72n x72c x78 x78n x78c w38 R))
theorem t9B {w w1 W : World} {b2 b9 : Nat} {t u c d : Sl} {wp : Option Addr} {wc : Nat} {rp : Option Addr} {rc : Nat} {es eu : List En} {cs ds : List Int} {xs : List (En × Sl)} {yp : Option Addr} {yc : Nat}
    {p0 p4 : Option Addr} {n0 c0 n4 c4 : Nat} {L0 L4 : List Int} {t0 t1 t2 : Nat} {bk1 u1 v1 x : Int} {fb : Bool}
    (env : Env w W b2 b9 t u c d wp wc rp rc) (hw1 : w.heap.size ≤ w1.heap.size) (hb9 : b9 < t0) (hb2 : b2 < w1.heap.size)
    (hT : RdE w t.1 t.2.1 es) (hTR : Rc w t.1 es) (htn : t.2.1 ≤ 1048576) (htc : t.2.1 ≤ t.2.2) (hr : ∀ x ∈ es, x.rs.length ≤ 1048576)
    (hU : RdE w u.1 u.2.1 eu) (hun : u.2.1 ≤ 1048576) (hru : ∀ x ∈ eu, x.rs.length ≤ 1048576)
    (hc0 : RdL w c.1 c.2.1 cs) (hcm : c.2.1 ≤ 1048576) (hcc : c.2.1 ≤ c.2.2) (hd0 : RdL w d.1 d.2.1 ds) (hdm : d.2.1 ≤ 1048576)
    (hE : RdE W wp t.2.1 es) (hwc : t.2.1 ≤ wc) {w2 : World} (hL : Lx w1 w2 wp (t.2.1 + 64) wc rp t.2.1 rc xs (mksE 64)) (hx : xs.map (fun x => x.1) = es) (hk2 : Keep None w2 W) (hz2 : w1.heap.size ≤ w2.heap.size) (h2t : w2.heap.size ≤ b9) (hyb : ∀ j, ob yp j → w2.heap.size ≤ j ∧ j < t0 ∧ j ≠ b9)
    (hY : Own W 3 1 yp (c.2.1 + 64) yc ((cs ++ mks 0 64).map I))
    (h0t : w.heap.size ≤ t0) (o1 : t0 ≤ t1) (o2 : t1 ≤ t2) (o3 : t2 ≤ W.heap.size)
    (h0 : Lst W p0 n0 c0 L0 t0 t1) (h4 : Lst W p4 n4 c4 L4 t1 t2)
    (hS : LSpec es cs u1 bk1 L0) (hu : Askd es cs v1) (ha : v1 = 0 → L4 = shr es cs cs.length) (hb : v1 ≠ 0 → L4 = [])
    (hlev : ∃ bb y, (if bb then ansV (runL es cs []) else .tuple #[I 0, I 1]) = (.tuple #[I x, I y] : Value) ∧ (bb = true ↔ Fm es ∧ cs.all fl = true)) (hfb : fb = true ↔ Fm es) :
    T9B b2 b9 yp (c.2.1 + 64) yc p0 n0 c0 p4 n4 c4 bk1 u1 v1 x fb W (Ans w (.bool true)) := by
  unfold T9B
  have hsl : slA yp yc 0 1 = yp := slA_own hY
  have hyle := hY.le
  have hcl : cs.length = c.2.1 := hc0.len
  have hC : RdL W yp c.2.1 cs := rdl_cut (own_rdl hY) hcl
  simp only [hsl, Int.toNat_natCast, Nat.sub_zero, add_mk, Nat.zero_add, Nat.add_zero]
  have dr : ∀ V : World, Keep None V V.drew := fun V => (Keep.refl _ V).drew
  have k0 := dr W
  have rdu : ∀ {V : World}, Keep None W V → ∀ {K : Option Addr → Nat → Nat → Option Addr → Nat → Nat → Prop}, K u.1 u.2.1 u.2.2 d.1 d.2.1 d.2.2 → ldC V ⟨b2, 1, none⟩ fun a b c' => ldC V ⟨b2, 3, none⟩ fun a' b' c'' => K a b c' a' b' c'' := fun hk K h =>
    ldC_of (x := u.1) (n := u.2.1) (c := u.2.2) ((env.ask.keep0 hk).cell 1) (ldC_of (x := d.1) (n := d.2.1) (c := d.2.2) ((env.ask.keep0 hk).cell 3) h)
  have rd : ∀ {V : World}, Keep None W V → ∀ {K : Option Addr → Nat → Nat → Option Addr → Nat → Nat → Prop}, K wp t.2.1 wc c.1 c.2.1 c.2.2 → ldC V ⟨b9, 0, none⟩ fun a b c' => ldC V ⟨b2, 2, none⟩ fun a' b' c'' => K a b c' a' b' c'' := fun hk K h =>
    ldC_of ((env.len.keep0 hk).cell 0) (ldC_of (x := c.1) (n := c.2.1) (c := c.2.2) ((env.ask.keep0 hk).cell 2) h)
  have rdt : ∀ {V : World}, Keep None W V → ∀ {K : Option Addr → Nat → Nat → Option Addr → Nat → Nat → Prop}, K t.1 t.2.1 t.2.2 c.1 c.2.1 c.2.2 → ldC V ⟨b2, 0, none⟩ fun a b c' => ldC V ⟨b2, 2, none⟩ fun a' b' c'' => K a b c' a' b' c'' := fun hk K h =>
    ldC_of (x := t.1) (n := t.2.1) (c := t.2.2) ((env.ask.keep0 hk).cell 0) (ldC_of (x := c.1) (n := c.2.1) (c := c.2.2) ((env.ask.keep0 hk).cell 2) h)
  have kw := env.kw
  have hru' : ∀ x ∈ eu, x.rs.length ≤ 1099511627776 := fun x hx => by have := hru x hx; omega
  have hr' : ∀ x ∈ es, x.rs.length ≤ 1099511627776 := fun x hx => by have := hr x hx; omega
  refine rdu k0 ?_
  refine cl_of ok11 (copyE (hU.keep0 (kw.then0 k0)) (Nat.le_trans hun (by decide)) hru') fun e w16 ⟨s, sd, ys, he, hCe, hys⟩ => ⟨_, _, _, he, ?_⟩
  have k1 := k0.then0 hCe.keep
  have hEu := hCe.rde
  rw [hys] at hEu
  refine ⟨ldC_of (x := d.1) (n := d.2.1) (c := d.2.2) ((env.ask.keep0 k1).cell 3) rfl, ?_⟩
  refine cl_of ok14 (copy (hd0.keep0 (kw.then0 k1)) (Nat.le_trans hdm (by decide))) fun e w17 ⟨v, he, q17, qd17, hv, hO17, hnew17, k17⟩ => ⟨_, _, _, he.trans (congrArg Ending.returned hv), ?_⟩
  have k2 := k1.then0 k17
  have hdl := hd0.len
  refine cl_of ok20 (learn20 (hEu.keep0 k17) hun hru (own_rdl hO17) (by omega)) fun e w18 ⟨v, he, u3, bk3, p2, n2, c2, L2, hv, hS3, hO2, hf2, k18⟩ => ⟨_, _, _, _, _, he.trans (congrArg Ending.returned hv), ?_⟩
  have l2 : Lst w18 p2 n2 c2 L2 t2 w18.heap.size := lst_of hO2 hS3.len hf2 (Nat.le_trans o3 k2.size)
  have k3 := (k2.then0 k18).then0 (dr w18)
  refine rdu k3 ?_
  refine cl_of ok11 (copyE (hU.keep0 (kw.then0 k3)) (Nat.le_trans hun (by decide)) hru') fun e w19 ⟨s', sd', ys', he, hCe', hys'⟩ => ⟨_, _, _, he, ?_⟩
  have k4 := k3.then0 hCe'.keep
  have hEu' := hCe'.rde
  rw [hys'] at hEu'
  refine ⟨ldC_of (x := d.1) (n := d.2.1) (c := d.2.2) ((env.ask.keep0 k4).cell 3) rfl, ?_⟩
  refine cl_of ok14 (copy (hd0.keep0 (kw.then0 k4)) (Nat.le_trans hdm (by decide))) fun e w20 ⟨v, he, q20, qd20, hv, hO20, hnew20, k20⟩ => ⟨_, _, _, he.trans (congrArg Ending.returned hv), ?_⟩
  have k5 := k4.then0 k20
  refine cl_of ok16 (shrink16 (hEu'.keep0 k20) hun hru (own_rdl hO20) (by omega)) fun e w21 ⟨v, he, v3, p6, n6, c6, L6, hv, hu3, hO6, hf6, ha6, hb6, k21⟩ => ⟨_, _, _, _, he.trans (congrArg Ending.returned hv), ?_⟩
  have z18 : w18.heap.size ≤ w20.heap.size := (((dr w18).then0 hCe'.keep).then0 k20).size
  have l6 : Lst w21 p6 n6 c6 L6 w18.heap.size w21.heap.size := lst_of hO6 (shrunk_len (es := eu) (cs := ds) (L := L6) (by omega) ha6 hb6) hf6 z18
  have k6 := (k5.then0 k21).then0 (dr w21)
  refine rd k6 ⟨by omega, by omega, ?_⟩
  refine cl_of ok20 (learn20 (hE.keep0 k6) htn hr (hC.keep0 k6) hcm) fun e w22 ⟨v, he, u5, bk5, p1, n1, c1, L1, hv, hS1, hO1, hf1, k22⟩ => ⟨_, _, _, _, _, he.trans (congrArg Ending.returned hv), ?_⟩
  obtain ⟨rfl, rfl, rfl⟩ := hS.uniq hS1
  have l1 : Lst w22 p1 n1 c1 L0 w21.heap.size w22.heap.size := lst_of hO1 hS.len hf1 (dr w21).size
  have k7 := (k6.then0 k22).then0 (dr w22)
  refine rd k7 ⟨by omega, by omega, ?_⟩
  refine cl_of ok16 (shrink16 (hE.keep0 k7) htn hr (hC.keep0 k7) hcm) fun e w23 ⟨v, he, v5, p5, n5, c5, L5, hv, hu5, hO5, hf5, ha5, hb5, k23⟩ => ⟨_, _, _, _, he.trans (congrArg Ending.returned hv), ?_⟩
  obtain ⟨rfl, rfl⟩ := shrunk_uniq hu hu5 ha hb ha5 hb5
  have hl4 : L4.length ≤ 2097154 := shrunk_len (es := es) (cs := cs) (L := L4) (by omega) ha hb
  have l5 : Lst w23 p5 n5 c5 L4 w22.heap.size w23.heap.size := lst_of hO5 hl4 hf5 (dr w22).size
  have k8 := k7.then0 k23
  refine rdt k8 ?_
  refine cl_of ok21 (learn21 (hT.keep0 (kw.then0 k8)) (hTR.keep0 (kw.then0 k8)) htn htc hr (hc0.keep0 (kw.then0 k8)) hcm hcc) fun e w24 ⟨v, he, u6, bk6, g8, n8, c8, L8, hv, hS8, hO8, hf8, k24⟩ => ⟨_, _, _, _, _, he.trans (congrArg Ending.returned hv), ?_⟩
  obtain ⟨rfl, rfl, rfl⟩ := hS.uniq hS8
  have k9 := k8.then0 k24
  refine rdt k9 ?_
  refine cl_of ok17 (shrink17 (hT.keep0 (kw.then0 k9)) htn htc hr (hc0.keep0 (kw.then0 k9)) hcm hcc) fun e w25 ⟨v, he, v6, g9, n9, c9, L9, hv, hu9, hO9, hf9, ha9, hb9', k25⟩ => ⟨_, _, _, _, he.trans (congrArg Ending.returned hv), ?_⟩
  obtain ⟨rfl, rfl⟩ := shrunk_uniq hu hu9 ha hb ha9 hb9'
  have k10 := k9.then0 k25
  refine rdt k10 ?_
  obtain ⟨bb, y, hxy, hbb⟩ := hlev
  refine cl_of ok15 (levels15 (hT.keep0 (kw.then0 k10)) htn htc hr' (hc0.keep0 (kw.then0 k10)) hcm) fun e w26 ⟨bb2, he4, hbb2, k26⟩ => ?_
  have eb : bb2 = bb := by rw [Bool.eq_iff_iff, hbb, hbb2]
  subst eb
  refine ⟨x, y, he4.trans (congrArg Ending.returned hxy), ?_⟩
  have k11 := k10.then0 k26
  have e1 : ∀ z : Int, (z != z) = false := fun z => by simp
  simp only [e1, cond_false]
  refine gd_t rfl (ldC_of (x := t.1) (n := t.2.1) (c := t.2.2) ((env.ask.keep0 k11).cell 0) ?_)
  refine gd_t rfl (cl_of ok12 (formed12 (hT.keep0 (kw.then0 k11)) (Nat.le_trans htn (by decide)) htc hr') fun e w28 ⟨fb2, he, hfb2, k28⟩ => ⟨_, he, ?_⟩)
  have ef : fb2 = fb := by rw [Bool.eq_iff_iff, hfb, hfb2]
  subst ef
  have e2 : (!(fb2 == fb2)) = false := by simp
  simp only [e2, cond_false]
  have k12 := k11.then0 k28
  have k2232 : Keep None w24 w28 := (k25.then0 k26).then0 k28
  have k2228 : Keep None w22 w28 := ((((dr w22).then0 k23).then0 k24)).then0 k2232
  refine gd_t rfl (cl_of ok18 (same (own_rdl (l1.own.keep0 k2228)) (own_rdl (hO8.keep0 k2232)) (by have := l1.len; omega)) fun e w30 ⟨he, k30⟩ => ⟨_, he, ?_⟩)
  rw [decide_eq_true rfl]
  have k2830 := k2228.then0 k30
  have k2330 : Keep None w23 w30 := (k24.then0 k2232).then0 k30
  have k2530 : Keep None w25 w30 := (k26.then0 k28).then0 k30
  refine gd_t rfl (cl_of ok18 (same (own_rdl (l5.own.keep0 k2330)) (own_rdl (hO9.keep0 k2530)) (by have := l5.len; omega)) fun e w32 ⟨he, k32⟩ => ⟨_, he, ?_⟩)
  rw [decide_eq_true rfl]
  refine pif_f rfl ?_
  have k13 := (k12.then0 k30).then0 k32
  have envN := env.keep0 k13
  refine ldC_of (envN.len.cell 0) (ldC_of (envN.len.cell 1) (ldC_of (envN.len.cell 2) ?_))
  have hxr : ∀ x ∈ xs, x.1.rs.length ≤ 1048576 := fun x hxm => hr x.1 (by rw [← hx]; exact List.mem_map.2 ⟨x, hxm, rfl⟩)
  have l8 : Lst w24 g8 n8 c8 L0 w23.heap.size w24.heap.size := lst_of hO8 hS.len hf8 (Nat.le_refl _)
  have l9 : Lst w25 g9 n9 c9 L4 w24.heap.size w25.heap.size := lst_of hO9 hl4 hf9 (Nat.le_refl _)
  have t18 : t2 ≤ w18.heap.size := Nat.le_trans o3 (k2.then0 k18).size
  have t21 : w18.heap.size ≤ w21.heap.size := Nat.le_trans z18 k21.size
  have t22 : w21.heap.size ≤ w22.heap.size := ((dr w21).then0 k22).size
  have t23 : w22.heap.size ≤ w23.heap.size := ((dr w22).then0 k23).size
  have t24 : w23.heap.size ≤ w24.heap.size := k24.size
  have t32 : w23.heap.size ≤ w32.heap.size := (k2330.then0 k32).size
  have lw : ∀ j, ob wp j → w1.heap.size ≤ j ∧ j < w2.heap.size := fun j hj => ⟨hL.newW j hj, hL.whole.lt j hj⟩
  refine cl_of ok30 (overE30 hL (hk2.then0 k13) htn hxr) fun e w34 ⟨v, he, hv, k34, hE34, hR34⟩ => ⟨he.trans (congrArg Ending.returned hv), ?_⟩
  -- the clause
  have hY34 := (hY.keep0 k13).keep k34 fun j hj hh => by have := hyb j hj; omega
  rcases hY34 with ⟨_, hh, _⟩ | ⟨yb, vs, eyb, hBy, hyle2, hymx, hyl, hytk⟩
  · omega
  subst eyb
  have qy := hyb yb ⟨_, rfl, rfl⟩
  refine cl_of ok31 (over31 hBy (by omega) (by omega)) fun e w35 ⟨v, he, hv, k35, cs', hcl', hB35, hov⟩ => ⟨he.trans (congrArg Ending.returned hv), ?_⟩
  -- what was told before stays
  let S : Nat → Prop := fun j => (w1.heap.size ≤ j ∧ j < w2.heap.size) ∨ j = yb
  have kS : Keep S w32 w35 := (k34.mono fun j _ hj => Or.inl hj).trans k35 fun j hj hh => Or.inr hh
  have hSt : ∀ j, S j → w.heap.size ≤ j ∧ j < t0 ∧ j ≠ b9 ∧ w1.heap.size ≤ j := fun j hj => by
    rcases hj with hj | hj <;> omega
  have m0 := (h0.keep0 k13).keep kS fun j hj => (hSt j hj).2.1
  have m4 := (h4.keep0 k13).keep kS fun j hj => by have := (hSt j hj).2.1; omega
  have k1832 : Keep None w18 w32 := (((((((dr w18).then0 hCe'.keep).then0 k20).then0 k21).then0 (dr w21)).then0 k22).then0 k2228).then0 (k30.then0 k32)
  have k2132 : Keep None w21 w32 := (((dr w21).then0 k22).then0 k2228).then0 (k30.then0 k32)
  have k2232' : Keep None w22 w32 := k2228.then0 (k30.then0 k32)
  have k2332 : Keep None w23 w32 := k2330.then0 k32
  have k2432 : Keep None w24 w32 := (k2232.then0 k30).then0 k32
  have k2532 : Keep None w25 w32 := k2530.then0 k32
  have m2 := (l2.keep0 k1832).keep kS fun j hj => by have := (hSt j hj).2.1; omega
  have m6 := (l6.keep0 k2132).keep kS fun j hj => by have := (hSt j hj).2.1; omega
  have m1 := (l1.keep0 k2232').keep kS fun j hj => by have := (hSt j hj).2.1; omega
  have m5 := (l5.keep0 k2332).keep kS fun j hj => by have := (hSt j hj).2.1; omega
  have m8 := (l8.keep0 k2432).keep kS fun j hj => by have := (hSt j hj).2.1; omega
  have m9 := (l9.keep0 k2532).keep kS fun j hj => by have := (hSt j hj).2.1; omega
  refine cl_of ok18 (same (own_rdl m0.own) (own_rdl m8.own) (by have := m0.len; omega)) fun e w36 ⟨he, k36⟩ => ⟨_, he, ?_⟩
  rw [decide_eq_true rfl]
  refine gd_t rfl (cl_of ok18 (same (own_rdl (m4.own.keep0 k36)) (own_rdl (m9.own.keep0 k36)) (by have := m4.len; omega)) fun e w37 ⟨he, k37⟩ => ⟨_, he, ?_⟩)
  rw [decide_eq_true rfl]
  refine pif_f rfl ?_
  have kt := k36.then0 k37
  have env5 : Env w w35 b2 b9 t u c d wp wc rp rc := ⟨envN.ask.keep kS fun hh => by have := hSt _ hh; omega, envN.len.keep kS fun hh => by have := hSt _ hh; omega, envN.kw.trans kS fun j hj hh => by have := (hSt j hh).1; omega⟩
  have noy : ∀ i, ob wp i → ¬ One yb i := fun i hi hh => by have := lw i hi; have : i = yb := hh; omega
  have hC35 : RdL w35 (some ⟨yb, 0, none⟩) c.2.1 ((List.range c.2.1).map ovI) := by
    refine ⟨by simp, fun i x hx => ?_⟩
    have hi := (List.getElem?_eq_some_iff.1 hx).1
    simp only [List.length_map, List.length_range] at hi
    rw [List.getElem?_map, List.getElem?_range hi] at hx
    injection hx with hx
    subst hx
    refine ⟨_, rfl, ?_⟩
    rw [add_mk, Nat.zero_add, hB35.cell]
    exact hov i (by omega)
  refine t9C (es := ovs t.2.1) (env5.keep0 kt) ((ovs_keep hE34 k35 noy).keep0 kt) ((ovs_keepR hR34 k35 noy).keep0 kt) htn hwc (fun x hx => ?_) (hC35.keep0 kt) hcm (by omega) hsl h0t o1 o2 t18 t21 t22 t23 ?_
    (m0.keep0 kt) (m4.keep0 kt) (m2.keep0 kt) (m6.keep0 kt) (m1.keep0 kt) (m5.keep0 kt)
  · obtain ⟨j, _, rfl⟩ := List.mem_map.1 hx
    exact Nat.zero_le _
  · have := kS.size; have := kt.size; omega
end Go.Proofs.Ytlbpllpomdjooaa.Learn
