/- LearnKeeps: its walk's last part. -/
import Derived.Test.YtlbpllpomdjooaaLentF
import Derived.Test.YtlbpllpomdjooaaLearnN
import Derived.Test.YtlbpllpomdjooaaLearnJ
set_option linter.unusedVariables false
set_option linter.unusedSimpArgs false
set_option linter.unusedSectionVars false
set_option maxRecDepth 100000
namespace Go.Proofs.Ytlbpllpomdjooaa.Learn
open Go Go.Proofs.Ytlbpllpomdjooaa.Vc Go.Proofs.Ytlbpllpomdjooaa.T
open Go.Proofs.Ytlbpllpomdjooaa.Apart (RdL own_rdl wrap_nat getE own_len copy same take_snoc Sl sv New)

/-- what was asked, and what was lent -/
structure Env (w W : World) (b2 b9 : Nat) (t u c d : Sl) (wp : Option Addr) (wc : Nat) (rp : Option Addr) (rc : Nat) : Prop where
  ask : Blk W b2 [sv t, sv u, sv c, sv d] 42
  len : Blk W b9 [.slice wp t.2.1 wc, .slice wp (t.2.1 + 64) wc, .slice rp t.2.1 rc] 45
  kw : Keep None w W
theorem Env.keep0 {w W W' : World} {b2 b9 : Nat} {t u c d : Sl} {wp : Option Addr} {wc : Nat} {rp : Option Addr} {rc : Nat} (h : Env w W b2 b9 t u c d wp wc rp rc) (hk : Keep None W W') : Env w W' b2 b9 t u c d wp wc rp rc :=
  ⟨h.ask.keep0 hk, h.len.keep0 hk, h.kw.then0 hk⟩
/-- a list given out between two times -/
structure Lst (W : World) (p : Option Addr) (n c : Nat) (L : List Int) (lo hi : Nat) : Prop where
  own : Own W 3 1 p n c (L.map I)
  len : n ≤ 2097154
  lo : ∀ i, ob p i → lo ≤ i ∧ i < hi
theorem Lst.keep0 {W W' : World} {p : Option Addr} {n c : Nat} {L : List Int} {lo hi : Nat} (h : Lst W p n c L lo hi) (hk : Keep None W W') : Lst W' p n c L lo hi := ⟨h.own.keep0 hk, h.len, h.lo⟩
theorem Lst.keep {W W' : World} {p : Option Addr} {n c : Nat} {L : List Int} {lo hi : Nat} {S : Nat → Prop} (h : Lst W p n c L lo hi) (hk : Keep S W W') (hs : ∀ i, S i → i < lo) : Lst W' p n c L lo hi :=
  ⟨h.own.keep hk fun i hi hh => by have := h.lo i hi; have := hs i hh; omega, h.len, h.lo⟩
theorem lst_of {w W : World} {p : Option Addr} {n c : Nat} {L : List Int} {lo : Nat} (h : Own W 3 1 p n c (L.map I)) (hl : L.length ≤ 2097154) (hf : ∀ i, ob p i → w.heap.size ≤ i) (hlo : lo ≤ w.heap.size) : Lst W p n c L lo W.heap.size :=
  ⟨h, by have := own_len h; omega, fun i hi => ⟨Nat.le_trans hlo (hf i hi), h.lt i hi⟩⟩
theorem shrunk_uniq {es : List En} {cs : List Int} {u u2 : Int} {L L2 : List Int} (h : Askd es cs u) (h2 : Askd es cs u2) (a : u = 0 → L = shr es cs cs.length) (b : u ≠ 0 → L = []) (a2 : u2 = 0 → L2 = shr es cs cs.length) (b2 : u2 ≠ 0 → L2 = []) : u = u2 ∧ L = L2 := by
  obtain rfl := h.unique h2
  refine ⟨rfl, ?_⟩
  by_cases h0 : u = 0
  · rw [a h0, a2 h0]
  · rw [b h0, b2 h0]
theorem shrunk_len {es : List En} {cs : List Int} {u : Int} {L : List Int} (hm : cs.length ≤ 1048576) (a : u = 0 → L = shr es cs cs.length) (b : u ≠ 0 → L = []) : L.length ≤ 2097154 := by
  by_cases h0 : u = 0
  · rw [a h0]; have := shr_len es cs cs.length; omega
  · rw [b h0]; simp
/-- owners by the time of making -/
def own7 (a b c d e f g h : Nat) (i : Nat) : Int :=
  if i < a then -3 else if i < b then 0 else if i < c then 4 else if i < d then 2 else if i < e then 6 else if i < f then 1 else if i < g then 5 else if i < h then 3 else -1
section
variable {a b c d e f g h i : Nat} (o1 : a ≤ b) (o2 : b ≤ c) (o3 : c ≤ d) (o4 : d ≤ e) (o5 : e ≤ f) (o6 : f ≤ g) (o7 : g ≤ h)
include o1 o2 o3 o4 o5 o6 o7
theorem own7_0 (h1 : a ≤ i ∧ i < b) : own7 a b c d e f g h i = 0 := by unfold own7; rw [if_neg (by omega), if_pos (by omega)]
theorem own7_4 (h1 : b ≤ i ∧ i < c) : own7 a b c d e f g h i = 4 := by unfold own7; rw [if_neg (by omega), if_neg (by omega), if_pos (by omega)]
theorem own7_2 (h1 : c ≤ i ∧ i < d) : own7 a b c d e f g h i = 2 := by unfold own7; rw [if_neg (by omega), if_neg (by omega), if_neg (by omega), if_pos (by omega)]
theorem own7_6 (h1 : d ≤ i ∧ i < e) : own7 a b c d e f g h i = 6 := by unfold own7; rw [if_neg (by omega), if_neg (by omega), if_neg (by omega), if_neg (by omega), if_pos (by omega)]
theorem own7_1 (h1 : e ≤ i ∧ i < f) : own7 a b c d e f g h i = 1 := by unfold own7; rw [if_neg (by omega), if_neg (by omega), if_neg (by omega), if_neg (by omega), if_neg (by omega), if_pos (by omega)]
theorem own7_5 (h1 : f ≤ i ∧ i < g) : own7 a b c d e f g h i = 5 := by unfold own7; rw [if_neg (by omega), if_neg (by omega), if_neg (by omega), if_neg (by omega), if_neg (by omega), if_neg (by omega), if_pos (by omega)]
theorem own7_3 (h1 : g ≤ i ∧ i < h) : own7 a b c d e f g h i = 3 := by unfold own7; rw [if_neg (by omega), if_neg (by omega), if_neg (by omega), if_neg (by omega), if_neg (by omega), if_neg (by omega), if_neg (by omega), if_pos (by omega)]
theorem own7_n (h1 : h ≤ i) : own7 a b c d e f g h i = -1 := by unfold own7; rw [if_neg (by omega), if_neg (by omega), if_neg (by omega), if_neg (by omega), if_neg (by omega), if_neg (by omega), if_neg (by omega), if_neg (by omega)]
end
theorem ap7 {W : World} {b : Nat} {p0 p1 p2 p3 p4 p5 p6 : Option Addr} {n0 c0 n1 c1 n2 c2 n3 c3 n4 c4 n5 c5 n6 c6 : Nat} {L0 L1 L2 L3 L4 L5 L6 : List Int} {t0 t1 t2 t3 t4 t5 t6 t7 : Nat}
    (hB : Blk W b [.slice p0 n0 c0, .slice p1 n1 c1, .slice p2 n2 c2, .slice p3 n3 c3, .slice p4 n4 c4, .slice p5 n5 c5, .slice p6 n6 c6] 25)
    (o1 : t0 ≤ t1) (o2 : t1 ≤ t2) (o3 : t2 ≤ t3) (o4 : t3 ≤ t4) (o5 : t4 ≤ t5) (o6 : t5 ≤ t6) (o7 : t6 ≤ t7) (o8 : t7 ≤ b)
    (h0 : Lst W p0 n0 c0 L0 t0 t1) (h4 : Lst W p4 n4 c4 L4 t1 t2) (h2 : Lst W p2 n2 c2 L2 t2 t3) (h6 : Lst W p6 n6 c6 L6 t3 t4) (h1 : Lst W p1 n1 c1 L1 t4 t5) (h5 : Lst W p5 n5 c5 L5 t5 t6) (h3 : Lst W p3 n3 c3 L3 t6 t7) :
    Calls Try.prog 32 #[.slice (some ⟨b, 0, none⟩) 7 7] W fun e w' => e = .returned (.bool true) ∧ Keep (fun i => t0 ≤ i) W w' := by
  have hLs : Apart.Ls W (-1) (some ⟨b, 0, none⟩) 7 7 [(p0, n0, c0), (p1, n1, c1), (p2, n2, c2), (p3, n3, c3), (p4, n4, c4), (p5, n5, c5), (p6, n6, c6)] (fun _ _ => True) (own7 t0 t1 t2 t3 t4 t5 t6 t7) := by
    refine ⟨Or.inr ⟨b, _, rfl, hB, Nat.le_refl _, by decide, rfl, rfl⟩, fun k x hx => ?_, ?_, fun k x hx i hi => ?_⟩
    · match k, hx with
      | 0, hx => injection hx with hx; subst hx; exact ⟨L0, h0.own, trivial⟩
      | 1, hx => injection hx with hx; subst hx; exact ⟨L1, h1.own, trivial⟩
      | 2, hx => injection hx with hx; subst hx; exact ⟨L2, h2.own, trivial⟩
      | 3, hx => injection hx with hx; subst hx; exact ⟨L3, h3.own, trivial⟩
      | 4, hx => injection hx with hx; subst hx; exact ⟨L4, h4.own, trivial⟩
      | 5, hx => injection hx with hx; subst hx; exact ⟨L5, h5.own, trivial⟩
      | 6, hx => injection hx with hx; subst hx; exact ⟨L6, h6.own, trivial⟩
      | k + 7, hx => cases hx
    · rintro i ⟨a, ha, rfl⟩
      cases ha
      exact own7_n o1 o2 o3 o4 o5 o6 o7 o8
    · match k, hx with
      | 0, hx => injection hx with hx; subst hx; exact own7_0 o1 o2 o3 o4 o5 o6 o7 (h0.lo i hi)
      | 1, hx => injection hx with hx; subst hx; exact own7_1 o1 o2 o3 o4 o5 o6 o7 (h1.lo i hi)
      | 2, hx => injection hx with hx; subst hx; exact own7_2 o1 o2 o3 o4 o5 o6 o7 (h2.lo i hi)
      | 3, hx => injection hx with hx; subst hx; exact own7_3 o1 o2 o3 o4 o5 o6 o7 (h3.lo i hi)
      | 4, hx => injection hx with hx; subst hx; exact own7_4 o1 o2 o3 o4 o5 o6 o7 (h4.lo i hi)
      | 5, hx => injection hx with hx; subst hx; exact own7_5 o1 o2 o3 o4 o5 o6 o7 (h5.lo i hi)
      | 6, hx => injection hx with hx; subst hx; exact own7_6 o1 o2 o3 o4 o5 o6 o7 (h6.lo i hi)
      | k + 7, hx => cases hx
  refine (Apart.apart hLs (by omega) fun k x hx => ?_).mono fun e w' ⟨he, hk⟩ => ⟨he, hk.mono fun i _ hi => ?_⟩
  · match k, hx with
    | 0, hx => injection hx with hx; subst hx; have := h0.len; simp only []; omega
    | 1, hx => injection hx with hx; subst hx; have := h1.len; simp only []; omega
    | 2, hx => injection hx with hx; subst hx; have := h2.len; simp only []; omega
    | 3, hx => injection hx with hx; subst hx; have := h3.len; simp only []; omega
    | 4, hx => injection hx with hx; subst hx; have := h4.len; simp only []; omega
    | 5, hx => injection hx with hx; subst hx; have := h5.len; simp only []; omega
    | 6, hx => injection hx with hx; subst hx; have := h6.len; simp only []; omega
    | k + 7, hx => cases hx
  · have hi' : 0 ≤ own7 t0 t1 t2 t3 t4 t5 t6 t7 i := hi
    by_cases hlt : i < t0
    · unfold own7 at hi'; rw [if_pos hlt] at hi'; omega
    · omega
def T9C (b2 b9 : Nat) (x12 : Option Addr) (x12n x12c : Nat) (x16 : Option Addr) (x16n x16c : Nat) (x22 : Option Addr) (x22n x22c : Nat) (x56 : Option Addr) (x56n x56c : Nat) (x67 : Option Addr) (x67n x67c : Nat) (x72 : Option Addr) (x72n x72c : Nat) (x78 : Option Addr) (x78n x78c : Nat) (w38 : World) (R : Value → World → Prop) : Prop :=
        ldC (World.drew w38) ((⟨b9, 0, none⟩ : Addr).add 0) fun x132 x132n x132c =>
        ldC (World.drew w38) ((⟨b2, 0, none⟩ : Addr).add 2) fun x133 x133n x133c =>
        0 ≤ (x133n : Int) ∧ (x133n : Int) ≤ (x12c : Int) ∧
        cl Try.prog 20 [.slice x132 x132n x132c, .slice (slA x12 x12c 0 1) ((Int.toNat (x133n : Int)) - 0) (x12c - 0)] (World.drew w38) fun e137 w39 => ∃ (x134 : Option Addr) (x134n x134c : Nat), ∃ x135 : Int, ∃ x136 : Int, e137 = Ending.returned (.tuple #[.slice x134 x134n x134c, .int .i64 x135, .int .i64 x136]) ∧
        ldC (World.drew w39) ((⟨b9, 0, none⟩ : Addr).add 0) fun x138 x138n x138c =>
        ldC (World.drew w39) ((⟨b2, 0, none⟩ : Addr).add 2) fun x139 x139n x139c =>
        0 ≤ (x139n : Int) ∧ (x139n : Int) ≤ (x12c : Int) ∧
        cl Try.prog 21 [.slice x138 x138n x138c, .slice (slA x12 x12c 0 1) ((Int.toNat (x139n : Int)) - 0) (x12c - 0)] (World.drew w39) fun e143 w40 => ∃ (x140 : Option Addr) (x140n x140c : Nat), ∃ x141 : Int, ∃ x142 : Int, e143 = Ending.returned (.tuple #[.slice x140 x140n x140c, .int .i64 x141, .int .i64 x142]) ∧
        gd (α := Bool) (!(cond (x135 != x141) true (x136 != x142))) (fun k145 =>
          cl Try.prog 18 [.slice x134 x134n x134c, .slice x140 x140n x140c] w40 fun e147 w41 => ∃ x146 : Bool, e147 = Ending.returned (.bool x146) ∧
          k145 x146 w41) false w40 fun x148 w42 =>
        pif (cond (cond (x135 != x141) true (x136 != x142)) true (!x148)) (
          R (.bool false) w42) (
          ldC (World.drew w42) ((⟨b9, 0, none⟩ : Addr).add 0) fun x150 x150n x150c =>
          ldC (World.drew w42) ((⟨b2, 0, none⟩ : Addr).add 2) fun x151 x151n x151c =>
          0 ≤ (x151n : Int) ∧ (x151n : Int) ≤ (x12c : Int) ∧
          cl Try.prog 16 [.slice x150 x150n x150c, .slice (slA x12 x12c 0 1) ((Int.toNat (x151n : Int)) - 0) (x12c - 0)] (World.drew w42) fun e154 w43 => ∃ (x152 : Option Addr) (x152n x152c : Nat), ∃ x153 : Int, e154 = Ending.returned (.tuple #[.slice x152 x152n x152c, .int .i64 x153]) ∧
          ldC (World.drew w43) ((⟨b9, 0, none⟩ : Addr).add 0) fun x155 x155n x155c =>
          ldC (World.drew w43) ((⟨b2, 0, none⟩ : Addr).add 2) fun x156 x156n x156c =>
          0 ≤ (x156n : Int) ∧ (x156n : Int) ≤ (x12c : Int) ∧
          cl Try.prog 17 [.slice x155 x155n x155c, .slice (slA x12 x12c 0 1) ((Int.toNat (x156n : Int)) - 0) (x12c - 0)] (World.drew w43) fun e159 w44 => ∃ (x157 : Option Addr) (x157n x157c : Nat), ∃ x158 : Int, e159 = Ending.returned (.tuple #[.slice x157 x157n x157c, .int .i64 x158]) ∧
          ldC (World.drew w44) ((⟨b9, 0, none⟩ : Addr).add 0) fun x160 x160n x160c =>
          ldC (World.drew w44) ((⟨b2, 0, none⟩ : Addr).add 2) fun x161 x161n x161c =>
          0 ≤ (x161n : Int) ∧ (x161n : Int) ≤ (x12c : Int) ∧
          cl Try.prog 13 [.slice x160 x160n x160c, .slice (slA x12 x12c 0 1) ((Int.toNat (x161n : Int)) - 0) (x12c - 0)] (World.drew w44) fun e164 w45 => ∃ x162 : Int, ∃ x163 : Int, e164 = Ending.returned (.tuple #[.int .i64 x162, .int .i64 x163]) ∧
          ldC (World.drew w45) ((⟨b9, 0, none⟩ : Addr).add 0) fun x165 x165n x165c =>
          ldC (World.drew w45) ((⟨b2, 0, none⟩ : Addr).add 2) fun x166 x166n x166c =>
          0 ≤ (x166n : Int) ∧ (x166n : Int) ≤ (x12c : Int) ∧
          cl Try.prog 15 [.slice x165 x165n x165c, .slice (slA x12 x12c 0 1) ((Int.toNat (x166n : Int)) - 0) (x12c - 0)] (World.drew w45) fun e169 w46 => ∃ x167 : Int, ∃ x168 : Int, e169 = Ending.returned (.tuple #[.int .i64 x167, .int .i64 x168]) ∧
          gd (α := Bool) (!(x153 != x158)) (fun k170 =>
            cl Try.prog 18 [.slice x152 x152n x152c, .slice x157 x157n x157c] (World.drew w46) fun e172 w47 => ∃ x171 : Bool, e172 = Ending.returned (.bool x171) ∧
            k170 x171 w47) false (World.drew w46) fun x173 w48 =>
          gd (α := (Option Addr × Nat × Nat)) (!(cond (cond (cond (x153 != x158) true (!x173)) true (x162 != x167)) true (x163 != x168))) (fun k174 =>
            ldC w48 ((⟨b9, 0, none⟩ : Addr).add 0) fun x175 x175n x175c =>
            k174 (x175, x175n, x175c) w48) (none, 0, 0) w48 fun x176 _ =>
          gd (α := (Option Addr × Nat × Nat)) (!(cond (cond (cond (x153 != x158) true (!x173)) true (x162 != x167)) true (x163 != x168))) (fun k177 =>
            ldC w48 ((⟨b9, 0, none⟩ : Addr).add 0) fun x178 x178n x178c =>
            k177 (x178, x178n, x178c) w48) (none, 0, 0) w48 fun x179 _ =>
          gd (α := Bool) (!(cond (cond (cond (x153 != x158) true (!x173)) true (x162 != x167)) true (x163 != x168))) (fun k180 =>
            cl Try.prog 10 [.slice x176.1 x176.2.1 x176.2.2] w48 fun e182 w49 => ∃ x181 : Bool, e182 = Ending.returned (.bool x181) ∧
            k180 x181 w49) false w48 fun x183 w50 =>
          ((!(cond (cond (cond (x153 != x158) true (!x173)) true (x162 != x167)) true (x163 != x168))) = true →
            ldC w50 ((⟨b9, 0, none⟩ : Addr).add 0) fun x184 x184n x184c =>
            ((.slice x184 x184n x184c : Value) = .slice x179.1 x179.2.1 x179.2.2)) ∧
          gd (α := Bool) (!(cond (cond (cond (x153 != x158) true (!x173)) true (x162 != x167)) true (x163 != x168))) (fun k185 =>
            cl Try.prog 12 [.slice x179.1 x179.2.1 x179.2.2] w50 fun e187 w51 => ∃ x186 : Bool, e187 = Ending.returned (.bool x186) ∧
            k185 x186 w51) false w50 fun x188 w52 =>
          pif (cond (cond (cond (cond (x153 != x158) true (!x173)) true (x162 != x167)) true (x163 != x168)) true (!(x183 == x188))) (
            R (.bool false) w52) (
            alc w52 [.slice x16 x16n x16c, .slice x72 x72n x72c, .slice x56 x56n x56c, .slice x134 x134n x134c, .slice x22 x22n x22c, .slice x78 x78n x78c, .slice x67 x67n x67c] 25 fun b191 w53 =>
            cl Try.prog 32 [.slice (some (⟨b191, 0, none⟩ : Addr)) 7 7] w53 fun e193 w54 => ∃ x192 : Bool, e193 = Ending.returned (.bool x192) ∧
            R (.bool x192) w54))
theorem t9C {w W : World} {b2 b9 : Nat} {t u c d : Sl} {wp : Option Addr} {wc : Nat} {rp : Option Addr} {rc : Nat} {es : List En} {cs : List Int} {yp : Option Addr} {yn yc : Nat}
    {p0 p1 p2 p4 p5 p6 : Option Addr} {n0 c0 n1 c1 n2 c2 n4 c4 n5 c5 n6 c6 : Nat} {L0 L1 L2 L4 L5 L6 : List Int} {t0 t1 t2 t3 t4 t5 t6 : Nat}
    (env : Env w W b2 b9 t u c d wp wc rp rc) (hE : RdE W wp t.2.1 es) (hR : Rc W wp es) (hn : t.2.1 ≤ 1048576) (hc : t.2.1 ≤ wc) (hr : ∀ x ∈ es, x.rs.length ≤ 1048576)
    (hC : RdL W yp c.2.1 cs) (hm : c.2.1 ≤ 1048576) (hyc : c.2.1 ≤ yc) (hsl : slA yp yc 0 1 = yp)
    (h0t : w.heap.size ≤ t0) (o1 : t0 ≤ t1) (o2 : t1 ≤ t2) (o3 : t2 ≤ t3) (o4 : t3 ≤ t4) (o5 : t4 ≤ t5) (o6 : t5 ≤ t6) (o7 : t6 ≤ W.heap.size)
    (h0 : Lst W p0 n0 c0 L0 t0 t1) (h4 : Lst W p4 n4 c4 L4 t1 t2) (h2 : Lst W p2 n2 c2 L2 t2 t3) (h6 : Lst W p6 n6 c6 L6 t3 t4) (h1 : Lst W p1 n1 c1 L1 t4 t5) (h5 : Lst W p5 n5 c5 L5 t5 t6) :
    T9C b2 b9 yp yn yc p0 n0 c0 p4 n4 c4 p2 n2 c2 p6 n6 c6 p1 n1 c1 p5 n5 c5 W (Ans w (.bool true)) := by
  unfold T9C
  simp only [hsl, Int.toNat_natCast, Nat.sub_zero, add_mk, Nat.zero_add, Nat.add_zero]
  have hcl := hC.len
  have dr : ∀ V : World, Keep None V V.drew := fun V => (Keep.refl _ V).drew
  have k0 := dr W
  have rd : ∀ {V : World}, Keep None W V → ∀ {K : Option Addr → Nat → Nat → Option Addr → Nat → Nat → Prop}, K wp t.2.1 wc c.1 c.2.1 c.2.2 → ldC V ⟨b9, 0, none⟩ fun a b c' => ldC V ⟨b2, 2, none⟩ fun a' b' c'' => K a b c' a' b' c'' := fun hk K h =>
    ldC_of ((env.len.keep0 hk).cell 0) (ldC_of (x := c.1) (n := c.2.1) (c := c.2.2) ((env.ask.keep0 hk).cell 2) h)
  refine rd k0 ⟨by omega, by omega, ?_⟩
  refine cl_of ok20 (learn20 (hE.keep0 k0) hn hr (hC.keep0 k0) hm) fun e w39 ⟨v, he, u1, bk1, g3, n3, c3, L3, hv, hS1, hO3, hf3, k39⟩ => ⟨_, _, _, _, _, he.trans (congrArg Ending.returned hv), ?_⟩
  have l3 : Lst w39 g3 n3 c3 L3 t6 w39.heap.size := lst_of hO3 hS1.len hf3 o7
  have k1 := (k0.then0 k39).then0 (dr w39)
  have z39 := (k0.then0 k39).size
  refine rd k1 ⟨by omega, by omega, ?_⟩
  refine cl_of ok21 (learn21 (hE.keep0 k1) (hR.keep0 k1) hn hc hr (hC.keep0 k1) hm hyc) fun e w40 ⟨v, he, u2, bk2, g8, n8, c8, L8, hv, hS2, hO8, hf8, k40⟩ => ⟨_, _, _, _, _, he.trans (congrArg Ending.returned hv), ?_⟩
  obtain ⟨rfl, rfl, rfl⟩ := hS1.uniq hS2
  have e1 : (bk1 != bk1) = false := by simp
  have e2 : (u1 != u1) = false := by simp
  simp only [e1, e2, cond_false]
  have l3 := (l3.keep0 (dr w39)).keep0 k40
  refine gd_t rfl (cl_of ok18 (same (own_rdl l3.own) (own_rdl hO8) (by have := l3.len; omega)) fun e w41 ⟨he, k41⟩ => ⟨_, he, ?_⟩)
  rw [decide_eq_true rfl]
  refine pif_f rfl ?_
  have k2 := ((k1.then0 k40).then0 k41).then0 (dr w41)
  refine rd k2 ⟨by omega, by omega, ?_⟩
  refine cl_of ok16 (shrink16 (hE.keep0 k2) hn hr (hC.keep0 k2) hm) fun e w43 ⟨v, he, v1, q1, qn1, qc1, M1, hv, hu1, hM1, hg1, ha1, hb1, k43⟩ => ⟨_, _, _, _, he.trans (congrArg Ending.returned hv), ?_⟩
  have k3 := (k2.then0 k43).then0 (dr w43)
  refine rd k3 ⟨by omega, by omega, ?_⟩
  refine cl_of ok17 (shrink17 (hE.keep0 k3) hn hc hr (hC.keep0 k3) hm hyc) fun e w44 ⟨v, he, v2, q2, qn2, qc2, M2, hv, hu2, hM2, hg2, ha2, hb2, k44⟩ => ⟨_, _, _, _, he.trans (congrArg Ending.returned hv), ?_⟩
  obtain ⟨rfl, rfl⟩ := shrunk_uniq hu1 hu2 ha1 hb1 ha2 hb2
  have hMl := shrunk_len (es := es) (L := M1) (by omega) ha1 hb1
  have k4 := (k3.then0 k44).then0 (dr w44)
  refine rd k4 ⟨by omega, by omega, ?_⟩
  have hr' : ∀ x ∈ es, x.rs.length ≤ 1099511627776 := fun x hx => by have := hr x hx; omega
  refine cl_of ok13 (levels13 (hE.keep0 k4) hn hr' (hC.keep0 k4) hm) fun e w45 ⟨bb, he, hbb, k45⟩ => ?_
  obtain ⟨x, y, hxy⟩ : ∃ x y : Int, (if bb then ansV (runL es cs []) else .tuple #[I 0, I 1]) = (.tuple #[I x, I y] : Value) := by
    cases bb with
    | true => exact ans_tup _
    | false => exact ⟨_, _, rfl⟩
  refine ⟨x, y, he.trans (congrArg Ending.returned hxy), ?_⟩
  have k5 := (k4.then0 k45).then0 (dr w45)
  refine rd k5 ⟨by omega, by omega, ?_⟩
  refine cl_of ok15 (levels15 (hE.keep0 k5) hn hc hr' (hC.keep0 k5) hm) fun e w46 ⟨bb2, he4, hbb2, k46⟩ => ?_
  have eb : bb2 = bb := by rw [Bool.eq_iff_iff, hbb, hbb2]
  subst eb
  refine ⟨x, y, he4.trans (congrArg Ending.returned hxy), ?_⟩
  have e3 : (v1 != v1) = false := by simp
  have e4 : (x != x) = false := by simp
  have e5 : (y != y) = false := by simp
  simp only [e3, e4, e5, cond_false]
  have kk : Keep None w44 w46.drew := (((dr w44).then0 k45).then0 ((dr w45).then0 k46)).then0 (dr w46)
  refine gd_t rfl (cl_of ok18 (same (own_rdl (((hM1.keep0 (dr w43)).keep0 k44).keep0 kk)) (own_rdl (hM2.keep0 kk)) (by have := own_len hM1; omega)) fun e w47 ⟨he, k47⟩ => ⟨_, he, ?_⟩)
  rw [decide_eq_true rfl]
  have k6 := ((k5.then0 k46).then0 (dr w46)).then0 k47
  have e6 : cond (!true) true false = false := rfl
  refine gd_t rfl (ldC_of ((env.len.keep0 k6).cell 0) ?_)
  refine gd_t rfl (ldC_of ((env.len.keep0 k6).cell 0) ?_)
  refine gd_t rfl (cl_of ok10 (formed10 (hE.keep0 k6) (Nat.le_trans hn (by decide)) hr') fun e w49 ⟨fb, he, hfb, k49⟩ => ⟨_, he, ?_⟩)
  have k7 := k6.then0 k49
  refine ⟨fun _ => ldC_of ((env.len.keep0 k7).cell 0) rfl, ?_⟩
  refine gd_t rfl (cl_of ok12 (formed12 (hE.keep0 k7) (Nat.le_trans hn (by decide)) hc hr') fun e w51 ⟨fb2, he, hfb2, k51⟩ => ⟨_, he, ?_⟩)
  have ef : fb2 = fb := by rw [Bool.eq_iff_iff, hfb, hfb2]
  subst ef
  refine pif_f (by simp) ?_
  have k8 := k7.then0 k51
  refine alc_at fun b191 w53 hb191 hB k53 => ?_
  have k9 := k8.then0 k53
  have z8 := k8.size
  have k40' : Keep None w40 w53 := (((((k41.then0 (dr w41)).then0 k43).then0 (dr w43)).then0 k44).then0 kk).then0 (((k47.then0 k49).then0 k51).then0 k53)
  have z40 : w39.heap.size ≤ w51.heap.size := by
    have := ((((((((dr w39).then0 k40).then0 k41).then0 (dr w41)).then0 k43).then0 (dr w43)).then0 k44).then0 kk).then0 ((k47.then0 k49).then0 k51)
    exact this.size
  refine cl_of ok32 (ap7 hB o1 o2 o3 o4 o5 o6 (Nat.le_trans o7 z39) (by rw [hb191]; exact z40) (h0.keep0 k9) (h4.keep0 k9) (h2.keep0 k9) (h6.keep0 k9) (h1.keep0 k9) (h5.keep0 k9) (l3.keep0 k40')) fun e w54 ⟨he, k54⟩ => ⟨_, he, rfl, ?_⟩
  exact (env.kw.then0 k9).trans k54 fun i hi hh => by omega
end Go.Proofs.Ytlbpllpomdjooaa.Learn
