/- slices.SortFunc over ints: the pivot, the broken pattern, and the whole. -/
import Derived.Test.YtjpblaenebodlaaSort3
import Derived.Laws.Bits64
set_option linter.unusedVariables false
set_option linter.unusedSimpArgs false
set_option maxRecDepth 100000
namespace Go.Proofs.Ytjpblaenebodlaa.Sort
open Go Go.Proofs.Ytjpblaenebodlaa.Vc Go.Proofs.Ytjpblaenebodlaa.T

/-- how many binary digits -/
def blen (n : Nat) : Nat := if n = 0 then 0 else Nat.log2 n + 1
theorem blen_low {n : Nat} (h : 0 < n) : 2 ^ (blen n - 1) ≤ n := by
  unfold blen; rw [if_neg (by omega)]; exact Nat.log2_self_le (by omega)
theorem blen_high {n : Nat} (h : 0 < n) : n < 2 ^ blen n := by
  unfold blen; rw [if_neg (by omega)]; exact Nat.lt_log2_self
theorem blen_pos {n : Nat} (h : 0 < n) : 0 < blen n := by unfold blen; rw [if_neg (by omega)]; omega
theorem blen_of {n k : Nat} (h1 : 2 ^ k ≤ n) (h2 : n < 2 ^ (k + 1)) : blen n = k + 1 := by
  have hp : 0 < 2 ^ k := Nat.two_pow_pos k
  unfold blen
  rw [if_neg (by omega), (Nat.log2_eq_iff (by omega)).2 ⟨h1, h2⟩]
theorem blen_shift {n v s : Nat} (hv : 0 < v) (h1 : v * 2 ^ s ≤ n) (h2 : n < (v + 1) * 2 ^ s) : blen n = s + blen v := by
  have hb := blen_pos hv
  have hl := blen_low hv
  have hh := blen_high hv
  have e1 : s + blen v = (s + (blen v - 1)) + 1 := by omega
  rw [e1]
  apply blen_of
  · rw [Nat.pow_add, Nat.mul_comm]
    exact Nat.le_trans (Nat.mul_le_mul_right _ hl) h1
  · rw [← e1, Nat.pow_add, Nat.mul_comm (2 ^ s)]
    exact Nat.lt_of_lt_of_le h2 (Nat.mul_le_mul_right _ hh)
theorem blen_le {n k : Nat} (h : n < 2 ^ k) : blen n ≤ k := by
  rcases Nat.eq_zero_or_pos n with rfl | hp
  · simp [blen]
  · have h1 := blen_low hp
    have h2 : 2 ^ (blen n - 1) < 2 ^ k := Nat.lt_of_le_of_lt h1 h
    have := (Nat.pow_lt_pow_iff_right (by omega : 1 < 2)).1 h2
    omega

def tab : ByteArray := ⟨#[0, 1, 2, 2, 3, 3, 3, 3, 4, 4, 4, 4, 4, 4, 4, 4, 5, 5, 5, 5, 5, 5, 5, 5, 5, 5, 5, 5, 5, 5, 5, 5, 6, 6, 6, 6, 6, 6, 6, 6, 6, 6, 6, 6, 6, 6, 6, 6, 6, 6, 6, 6, 6, 6, 6, 6, 6, 6, 6, 6, 6, 6, 6, 6, 7, 7, 7, 7, 7, 7, 7, 7, 7, 7, 7, 7, 7, 7, 7, 7, 7, 7, 7, 7, 7, 7, 7, 7, 7, 7, 7, 7, 7, 7, 7, 7, 7, 7, 7, 7, 7, 7, 7, 7, 7, 7, 7, 7, 7, 7, 7, 7, 7, 7, 7, 7, 7, 7, 7, 7, 7, 7, 7, 7, 7, 7, 7, 7, 8, 8, 8, 8, 8, 8, 8, 8, 8, 8, 8, 8, 8, 8, 8, 8, 8, 8, 8, 8, 8, 8, 8, 8, 8, 8, 8, 8, 8, 8, 8, 8, 8, 8, 8, 8, 8, 8, 8, 8, 8, 8, 8, 8, 8, 8, 8, 8, 8, 8, 8, 8, 8, 8, 8, 8, 8, 8, 8, 8, 8, 8, 8, 8, 8, 8, 8, 8, 8, 8, 8, 8, 8, 8, 8, 8, 8, 8, 8, 8, 8, 8, 8, 8, 8, 8, 8, 8, 8, 8, 8, 8, 8, 8, 8, 8, 8, 8, 8, 8, 8, 8, 8, 8, 8, 8, 8, 8, 8, 8, 8, 8, 8, 8, 8, 8, 8, 8, 8, 8, 8, 8, 8, 8, 8, 8, 8, 8]⟩
theorem tab_at (v : Nat) (h : v < 256) : byteAt tab (v : Int) = (blen v : Int) := by
  have : ∀ v : Fin 256, byteAt tab ((v.val : Nat) : Int) = (blen v.val : Int) := by decide +kernel
  exact this ⟨v, h⟩
theorem fdiv_nat (n m : Nat) : Int.fdiv (n : Int) (m : Int) = ((n / m : Nat) : Int) := by
  rw [Int.fdiv_eq_ediv_of_nonneg _ (by omega)]; rfl

theorem lenL {n v s : Nat} {R : Value → World → Prop} {w : World} (hv : 0 < v) (hv2 : v < 256) (h1 : v * 2 ^ s ≤ n) (h2 : n < (v + 1) * 2 ^ s) (hs : s ≤ 56) (h : R (.int .i64 (blen n : Int)) w) :
    0 ≤ (IntKind.wrap .u8 (v : Int)) ∧ (IntKind.wrap .u8 (v : Int)) < (tab.size : Int) ∧
      R (.int .i64 (IntKind.wrap .i64 ((s : Int) + (IntKind.wrap .i64 (byteAt tab (IntKind.wrap .u8 (v : Int))))))) w := by
  have hw : IntKind.wrap .u8 (v : Int) = v := by rw [IntKind.wrap_u8]; omega
  rw [hw, tab_at v hv2]
  have ht : tab.size = 256 := by decide +kernel
  have hb := blen_le (n := v) (k := 8) (by omega)
  have e1 : IntKind.wrap .i64 (blen v : Int) = blen v := by rw [IntKind.wrap_i64]; omega
  have e2 : IntKind.wrap .i64 ((s : Int) + blen v) = ((s + blen v : Nat) : Int) := by rw [IntKind.wrap_i64]; omega
  rw [e1, e2, ← blen_shift hv h1 h2]
  exact ⟨by omega, by rw [ht]; omega, h⟩

theorem len64 (n : Nat) (w : World) (h0 : 0 < n) (h1 : n < 18446744073709551616) :
    Calls Try.prog 84 #[.int .u64 (n : Int)] w fun e w' => e = .returned (.int .i64 (blen n)) ∧ w' = w := by
  refine (V84_calls n w (fun v w' => v = .int .i64 (blen n) ∧ w' = w) ?_).mono fun e w' ⟨x, he, hv, hk⟩ => ⟨by rw [he, hv], hk⟩
  unfold V84
  have p32 : (2 : Int) ^ (min (Int.toNat 32) (IntKind.bits .u64)) = ((4294967296 : Nat) : Int) := by decide +kernel
  have p16 : (2 : Int) ^ (min (Int.toNat 16) (IntKind.bits .u64)) = ((65536 : Nat) : Int) := by decide +kernel
  have p8 : (2 : Int) ^ (min (Int.toNat 8) (IntKind.bits .u64)) = ((256 : Nat) : Int) := by decide +kernel
  have w1 : IntKind.wrap .i64 (32 + 16) = 48 := by decide +kernel
  have w2 : IntKind.wrap .i64 (0 + 16) = 16 := by decide +kernel
  have w3 : IntKind.wrap .i64 (48 + 8) = 56 := by decide +kernel
  have w4 : IntKind.wrap .i64 (16 + 8) = 24 := by decide +kernel
  have w5 : IntKind.wrap .i64 (32 + 8) = 40 := by decide +kernel
  have w6 : IntKind.wrap .i64 (0 + 8) = 8 := by decide +kernel
  refine jn_of ?_
  rw [p32, fdiv_nat]
  refine pif_of (fun a1 => ?_) (fun a1 => ?_)
  · have a1 : 4294967296 ≤ n := by simp at a1; omega
    refine jn_of ?_
    rw [p16, fdiv_nat, w1]
    refine pif_of (fun a2 => ?_) (fun a2 => ?_)
    · have a2 : 65536 ≤ n / 4294967296 := by simp at a2; omega
      refine jn_of ?_
      rw [p8, fdiv_nat, w3]
      refine pif_of (fun a3 => ?_) (fun a3 => ?_)
      · have a3 : 256 ≤ n / 4294967296 / 65536 := by simp at a3; omega
        exact lenL (R := fun v w' => v = .int .i64 (blen n) ∧ w' = w) (n := n) (v := n / 4294967296 / 65536 / 256) (s := 56) (by omega) (by omega) (by omega) (by omega) (by omega) ⟨rfl, rfl⟩
      · have a3 : ¬ 256 ≤ n / 4294967296 / 65536 := by simp at a3; omega
        exact lenL (R := fun v w' => v = .int .i64 (blen n) ∧ w' = w) (n := n) (v := n / 4294967296 / 65536) (s := 48) (by omega) (by omega) (by omega) (by omega) (by omega) ⟨rfl, rfl⟩
    · have a2 : ¬ 65536 ≤ n / 4294967296 := by simp at a2; omega
      refine jn_of ?_
      rw [p8, fdiv_nat, w5]
      refine pif_of (fun a3 => ?_) (fun a3 => ?_)
      · have a3 : 256 ≤ n / 4294967296 := by simp at a3; omega
        exact lenL (R := fun v w' => v = .int .i64 (blen n) ∧ w' = w) (n := n) (v := n / 4294967296 / 256) (s := 40) (by omega) (by omega) (by omega) (by omega) (by omega) ⟨rfl, rfl⟩
      · have a3 : ¬ 256 ≤ n / 4294967296 := by simp at a3; omega
        exact lenL (R := fun v w' => v = .int .i64 (blen n) ∧ w' = w) (n := n) (v := n / 4294967296) (s := 32) (by omega) (by omega) (by omega) (by omega) (by omega) ⟨rfl, rfl⟩
  · have a1 : ¬ 4294967296 ≤ n := by simp at a1; omega
    refine jn_of ?_
    rw [p16, fdiv_nat, w2]
    refine pif_of (fun a2 => ?_) (fun a2 => ?_)
    · have a2 : 65536 ≤ n := by simp at a2; omega
      refine jn_of ?_
      rw [p8, fdiv_nat, w4]
      refine pif_of (fun a3 => ?_) (fun a3 => ?_)
      · have a3 : 256 ≤ n / 65536 := by simp at a3; omega
        exact lenL (R := fun v w' => v = .int .i64 (blen n) ∧ w' = w) (n := n) (v := n / 65536 / 256) (s := 24) (by omega) (by omega) (by omega) (by omega) (by omega) ⟨rfl, rfl⟩
      · have a3 : ¬ 256 ≤ n / 65536 := by simp at a3; omega
        exact lenL (R := fun v w' => v = .int .i64 (blen n) ∧ w' = w) (n := n) (v := n / 65536) (s := 16) (by omega) (by omega) (by omega) (by omega) (by omega) ⟨rfl, rfl⟩
    · have a2 : ¬ 65536 ≤ n := by simp at a2; omega
      refine jn_of ?_
      rw [p8, fdiv_nat, w6]
      refine pif_of (fun a3 => ?_) (fun a3 => ?_)
      · have a3 : 256 ≤ n := by simp at a3; omega
        exact lenL (R := fun v w' => v = .int .i64 (blen n) ∧ w' = w) (n := n) (v := n / 256) (s := 8) (by omega) (by omega) (by omega) (by omega) (by omega) ⟨rfl, rfl⟩
      · have a3 : ¬ 256 ≤ n := by simp at a3; omega
        exact lenL (R := fun v w' => v = .int .i64 (blen n) ∧ w' = w) (n := n) (v := n) (s := 0) (by omega) (by omega) (by omega) (by omega) (by omega) ⟨rfl, rfl⟩

theorem len64z (w : World) : Calls Try.prog 84 #[.int .u64 0] w fun e w' => e = .returned (.int .i64 0) ∧ w' = w := by
  refine (V84_calls 0 w (fun v w' => v = .int .i64 0 ∧ w' = w) ?_).mono fun e w' ⟨x, he, hv, hk⟩ => ⟨by rw [he, hv], hk⟩
  unfold V84
  refine jn_of (pif_f rfl (jn_of (pif_f rfl (jn_of (pif_f rfl ?_)))))
  exact ⟨by decide +kernel, by decide +kernel, congrArg (Value.int .i64) (by decide +kernel), rfl⟩
theorem bits_len (n : Nat) (w : World) (h1 : n < 18446744073709551616) :
    Calls Try.prog 71 #[.int .u64 (n : Int)] w fun e w' => e = .returned (.int .i64 (blen n)) ∧ w' = w := by
  refine (V71_calls n w (fun v w' => v = .int .i64 (blen n) ∧ w' = w) ?_).mono fun e w' ⟨x, he, hv, hk⟩ => ⟨by rw [he, hv], hk⟩
  unfold V71
  refine pif_f rfl ?_
  by_cases h0 : n = 0
  · subst h0
    exact cl_of ok84 (len64z w) fun e w1 ⟨he, hw⟩ => ⟨_, he, by simp [blen], hw⟩
  · exact cl_of ok84 (len64 n w (by omega) h1) fun e w1 ⟨he, hw⟩ => ⟨_, he, rfl, hw⟩
theorem and_range (x : Int) (y : Nat) (hy : y < 18446744073709551616) : 0 ≤ bits .and .u64 x (y : Int) ∧ bits .and .u64 x (y : Int) ≤ y := by
  have h2 : (BitVec.ofInt 64 (y : Int)).toNat = y := by
    rw [BitVec.ofInt_natCast, BitVec.toNat_ofNat]; exact Nat.mod_eq_of_lt (by omega)
  have e : bits .and .u64 x (y : Int) = IntKind.u64.wrap ((BitVec.ofInt 64 x &&& BitVec.ofInt 64 (y : Int)).toNat : Int) := rfl
  rw [e, BitVec.toNat_and, h2]
  have : (BitVec.ofInt 64 x).toNat &&& y ≤ y := Nat.and_le_right
  generalize (BitVec.ofInt 64 x).toNat &&& y = q at *
  rw [IntKind.wrap_u64]
  omega
theorem npow (n : Nat) (w : World) (h0 : 0 < n) (h1 : n ≤ 1152921504606846976) :
    Calls Try.prog 90 #[.int .i64 (n : Int)] w fun e w' => e = .returned (.int .u64 ((2 ^ blen n : Nat) : Int)) ∧ w' = w := by
  refine (V90_calls n w (fun v w' => v = .int .u64 ((2 ^ blen n : Nat) : Int) ∧ w' = w) ?_).mono fun e w' ⟨x, he, hv, hk⟩ => ⟨by rw [he, hv], hk⟩
  unfold V90
  have e1 : IntKind.wrap .u64 (n : Int) = (n : Int) := by rw [IntKind.wrap_u64]; omega
  rw [e1]
  refine cl_of ok71 (bits_len n w (by omega)) fun e w1 ⟨he, hw⟩ => ⟨_, he, by omega, ?_, hw⟩
  have hb := blen_le (n := n) (k := 61) (by omega)
  have e2 : min (Int.toNat (blen n : Int)) (IntKind.bits .u64) = blen n := by
    rw [Int.toNat_natCast]; exact Nat.min_eq_left (Nat.le_trans hb (by decide))
  rw [e2]
  have hp : (2 : Nat) ^ blen n ≤ 2 ^ 61 := Nat.pow_le_pow_right (by omega) hb
  have e3 : (1 : Int) * 2 ^ blen n = ((2 ^ blen n : Nat) : Int) := by rw [Int.one_mul, Int.natCast_pow]; rfl
  rw [e3, IntKind.wrap_u64]
  congr 1
  generalize 2 ^ blen n = q at *
  omega
theorem next {w : World} {b : Nat} {x : Int} (h : Blk w b [.int .u64 x] 115) :
    Calls Try.prog 91 #[.pointer (some ⟨b, 0, none⟩)] w fun e w' => ∃ y : Int, e = .returned (.int .u64 y) ∧ Blk w' b [.int .u64 y] 115 ∧ Keep (One b) w w' := by
  refine (V91_calls (some ⟨b, 0, none⟩) w (fun v w' => ∃ y : Int, v = .int .u64 y ∧ Blk w' b [.int .u64 y] 115 ∧ Keep (One b) w w') ?_).mono fun e w' ⟨v, he, y, hv, hk⟩ => ⟨y, by rw [he, hv], hk⟩
  unfold V91
  simp only [add_mk, Nat.zero_add, Nat.add_zero]
  have hd := h.drew
  refine nn_of (ldI_of (hd.cell 0) (nn_of (ldI_of (hd.cell 0) (nn_of ?_))))
  simp only [add_mk, Nat.zero_add, Nat.add_zero]
  refine st_of hd (by simp) rfl fun w1 h1 k1 _ => ?_
  have h1 := h1.drew
  refine nn_of (ldI_of (h1.cell 0) (nn_of (ldI_of (h1.cell 0) (nn_of ?_))))
  simp only [add_mk, Nat.zero_add, Nat.add_zero]
  refine st_of h1 (by simp) rfl fun w2 h2 k2 _ => ?_
  have h2 := h2.drew
  refine nn_of (ldI_of (h2.cell 0) (nn_of (ldI_of (h2.cell 0) (nn_of ?_))))
  simp only [add_mk, Nat.zero_add, Nat.add_zero]
  refine st_of h2 (by simp) rfl fun w3 h3 k3 _ => ?_
  refine nn_of (ldI_of (h3.cell 0) ⟨_, rfl, h3, ?_⟩)
  exact ((Keep.refl _ w).drew.trans k1 fun _ _ h => h).drew.trans (k2.drew.trans k3 fun _ _ h => h) fun _ _ h => h

section
variable {w0 w : World} {p : Option Addr} {n c : Nat} {S : Int → Prop} {lt : Int → Int → Bool} {f : Value} {z : List Int}
theorem Ar.other {w' : World} {b : Nat} (h : Ar w0 p n c S w z) (hk : Keep (One b) w w') (hb : w0.heap.size ≤ b) (hp : ¬ ob p b) : Ar w0 p n c S w' z :=
  ⟨h.own.keep hk fun i hi (e : i = b) => hp (e ▸ hi), h.kp.then1 hk hb, h.all⟩
theorem brk (hn : n ≤ 1152921504606846976) (h : Ar w0 p n c S w z) {a b : Nat} (hab : a < b) (hb : b ≤ n) :
    Calls Try.prog 77 #[.slice p n c, J a, J b, f] w fun e w' => e = .returned (.tuple #[]) ∧ Res w0 p n c S a b z (fun _ => True) w w' := by
  refine (V77_calls p n c a b f w (fun v w' => v = .tuple #[] ∧ Res w0 p n c S a b z (fun _ => True) w w') ?_).mono fun e w' ⟨v, he, hv, hk⟩ => ⟨by rw [he, hv], hk⟩
  unfold V77
  obtain ⟨l, rfl⟩ : ∃ l, b = a + l := ⟨b - a, by omega⟩
  have e1 : IntKind.wrap .i64 (((a + l : Nat) : Int) - (a : Int)) = (l : Int) := by rw [wrp (by omega)]; omega
  rw [e1]
  refine pif_of (fun hge => ?_) fun hlt => ⟨by first | rfl | trivial, z, h, SP.refl _ _ _, trivial, Keep.refl _ _⟩
  have hl8 : 8 ≤ l := by simp at hge; omega
  refine alc_at fun r w1 hr hB k1 => ?_
  simp only [add_mk, Nat.zero_add, Nat.add_zero]
  have e2 : IntKind.wrap .u64 (l : Int) = (l : Int) := by rw [IntKind.wrap_u64]; omega
  rw [e2]
  have hrp : ¬ ob p r := fun hh => by have := h.own.lt r hh; omega
  have hr0 : w0.heap.size ≤ r := by have := h.kp.size; omega
  refine st_of hB (by simp) rfl fun w2 h2 k2 _ => ?_
  refine cl_of ok90 (npow l w2 (by omega) (by omega)) fun e w3 ⟨he, hw⟩ => ⟨_, he, ?_⟩
  subst hw
  have hA : Ar w0 p n c S w3 z := (h.keep0 k1).other k2 hr0 hrp
  have kk : Keep (ob p) w w3 := (k1.then1 k2 (by omega)).none
  have hbl := blen_low (n := l) (by omega)
  have hbh := blen_high (n := l) (by omega)
  have hbp := blen_pos (n := l) (by omega)
  have hb2 := blen_le (n := l) (k := 61) (by omega)
  have hpow : 2 ^ blen l = 2 * 2 ^ (blen l - 1) := by rw [← Nat.pow_succ']; congr 1; omega
  have hp61 : (2 : Nat) ^ blen l ≤ 2 ^ 61 := Nat.pow_le_pow_right (by omega) hb2
  generalize 2 ^ (blen l - 1) = half at *
  generalize 2 ^ blen l = M at *
  have e3 : IntKind.wrap .u64 ((M : Int) - 1) = ((M - 1 : Nat) : Int) := by rw [IntKind.wrap_u64]; omega
  have e4 : Int.tdiv (l : Int) 4 = ((l / 4 : Nat) : Int) := by rw [Int.tdiv_eq_ediv_of_nonneg (by omega)]; rfl
  have e5 : IntKind.wrap .i64 ((a : Int) + (IntKind.wrap .i64 ((IntKind.wrap .i64 (Int.tdiv (l : Int) 4)) * 2))) = ((a + l / 4 * 2 : Nat) : Int) := by
    rw [e4, wrp (x := ((l / 4 : Nat) : Int)) (by omega), wrp (x := ((l / 4 : Nat) : Int) * 2) (by omega), wrp (by omega)]; omega
  rw [e5, e3]
  have e6 : IntKind.wrap .i64 (((a + l / 4 * 2 : Nat) : Int) - 1) = ((a + l / 4 * 2 - 1 : Nat) : Int) := wrm1 (by omega) (by omega)
  have e7 : IntKind.wrap .i64 (((a + l / 4 * 2 : Nat) : Int) + 1) = ((a + l / 4 * 2 + 1 : Nat) : Int) := wrp1 (by omega)
  rw [e6, e7]
  have hl := h.len
  refine lp_of (fun s w4 => ∃ (i : Nat) (z1 : List Int) (y : Int), s.1 = i ∧ a ≤ i ∧ i ≤ a + l / 4 * 2 + 2 ∧ Ar w0 p n c S w4 z1 ∧ SP a (a + l) z z1 ∧ Blk w4 r [.int .u64 y] 115 ∧ Keep (ob p) w w4) (fun s _ => (((a + l / 4 * 2 + 2 : Nat) : Int) - s.1).toNat)
    ⟨a + l / 4 * 2 - 1, z, _, rfl, by omega, by omega, hA, SP.refl _ _ _, h2, kk⟩ ?_
  rintro ⟨i', ⟨⟩⟩ w4 ⟨i, z1, y, rfl, hi1, hi2, h4, sp4, hB4, k4⟩
  simp only []
  have hl4 := h4.len
  refine pif_of (fun hle => ?_) fun hgt => ⟨by first | rfl | trivial, z1, h4, sp4, trivial, k4⟩
  have hle : i ≤ a + l / 4 * 2 + 1 := by simp at hle; omega
  refine cl_of ok91 (next hB4) fun e w5 ⟨y5, he, hB5, k5⟩ => ⟨_, he, ?_⟩
  have h5 : Ar w0 p n c S w5 z1 := h4.other k5 hr0 hrp
  have k05 : Keep (ob p) w w5 := k4.trans k5 fun j hj (e : j = r) => by omega
  have hra := and_range y5 (M - 1) (by omega)
  generalize bits .and .u64 y5 ((M - 1 : Nat) : Int) = o at *
  rw [wrp (x := o) (by omega)]
  refine ⟨fun s w6 => ∃ q : Nat, s.1 = q ∧ q < l ∧ w6 = w5, ?_, ?_⟩
  · refine pif_of (fun hc => ?_) fun hc => ?_
    · have hc : (l : Int) ≤ o := by simp at hc; omega
      exact ⟨(o - l).toNat, by show IntKind.wrap .i64 (o - (l : Int)) = _; rw [wrp (by omega)]; omega, by omega, rfl⟩
    · have hc : o < (l : Int) := by simp at hc; omega
      exact ⟨o.toNat, by show o = _; omega, by omega, rfl⟩
  · rintro ⟨q', ⟨⟩⟩ w6 ⟨q, rfl, hq, rfl⟩
    simp only []
    have e8 : IntKind.wrap .i64 ((a : Int) + (q : Int)) = ((a + q : Nat) : Int) := by rw [wrp (by omega)]; omega
    rw [e8]
    refine h5.drew.swap (by omega) (by omega) fun w7 h7 k7 => ?_
    rw [wrp1 (by omega)]
    exact ⟨⟨i + 1, swp z1 (a + q) i, y5, rfl, by omega, by omega, h7, sp4.trans (SP.swap (by omega) ⟨by omega, by omega⟩ ⟨by omega, by omega⟩), hB5.drew.keep k7 hrp, k05.drew.trans k7 fun _ _ h => h⟩, by omega⟩

/-- the pivot's count -/
def Cn (w0 : World) (p : Option Addr) (n c : Nat) (S : Int → Prop) (z : List Int) (r : Nat) (w w' : World) : Prop := Ar w0 p n c S w' z ∧ (∃ v : Int, Blk w' r [J v] 3) ∧ Keep (One r) w w'
theorem ord2 (cm : Cm w0 p f S lt) (h : Ar w0 p n c S w z) {r : Nat} {v : Int} (hB : Blk w r [J v] 3) (hr : w0.heap.size ≤ r) (hrp : ¬ ob p r) {i j : Nat} (hi : i < n) (hj : j < n) :
    Calls Try.prog 95 #[.slice p n c, J i, J j, .pointer (some ⟨r, 0, none⟩), f] w fun e w' => ∃ x y : Nat, e = .returned (.tuple #[J x, J y]) ∧ ((x = i ∧ y = j) ∨ (x = j ∧ y = i)) ∧ Cn w0 p n c S z r w w' := by
  refine (V95_calls p n c i j (some ⟨r, 0, none⟩) f w (fun u w' => ∃ x y : Nat, u = .tuple #[J x, J y] ∧ ((x = i ∧ y = j) ∨ (x = j ∧ y = i)) ∧ Cn w0 p n c S z r w w') ?_).mono fun e w' ⟨u, he, x, y, hv, hk⟩ => ⟨x, y, by rw [he, hv], hk⟩
  unfold V95
  refine h.drew.cmp cm hj hi fun x w1 hx h1 k1 => ?_
  have k01 : Keep None w w1 := (Keep.refl _ w).drew.then0 k1
  have hB1 := hB.keep0 k01
  refine pif_of (fun _ => ?_) fun _ => ⟨i, j, rfl, Or.inl ⟨rfl, rfl⟩, h1, ⟨v, hB1⟩, k01.none⟩
  refine nn_of (ldI_of (hB1.cell 0) (nn_of ?_))
  simp only [add_mk, Nat.zero_add, Nat.add_zero]
  refine st_of hB1 (by simp) rfl fun w2 h2 k2 _ => ⟨j, i, rfl, Or.inr ⟨rfl, rfl⟩, h1.other k2 hr hrp, ⟨_, h2⟩, k01.none.trans k2 fun _ _ h => h⟩
theorem med (cm : Cm w0 p f S lt) (h : Ar w0 p n c S w z) {r : Nat} {v : Int} (hB : Blk w r [J v] 3) (hr : w0.heap.size ≤ r) (hrp : ¬ ob p r) {i j k : Nat} (hi : i < n) (hj : j < n) (hk : k < n) :
    Calls Try.prog 93 #[.slice p n c, J i, J j, J k, .pointer (some ⟨r, 0, none⟩), f] w fun e w' => ∃ x : Nat, e = .returned (J x) ∧ (x = i ∨ x = j ∨ x = k) ∧ Cn w0 p n c S z r w w' := by
  refine (V93_calls p n c i j k (some ⟨r, 0, none⟩) f w (fun u w' => ∃ x : Nat, u = J x ∧ (x = i ∨ x = j ∨ x = k) ∧ Cn w0 p n c S z r w w') ?_).mono fun e w' ⟨u, he, x, hv, hk⟩ => ⟨x, by rw [he, hv], hk⟩
  unfold V93
  refine cl_of ok95 (ord2 cm h hB hr hrp hi hj) fun e w1 ⟨x1, y1, he, d1, h1, ⟨v1, b1⟩, k1⟩ => ⟨_, _, he, ?_⟩
  have : x1 < n ∧ y1 < n := by rcases d1 with ⟨rfl, rfl⟩ | ⟨rfl, rfl⟩ <;> omega
  refine cl_of ok95 (ord2 cm h1 b1 hr hrp this.2 hk) fun e w2 ⟨x2, y2, he, d2, h2, ⟨v2, b2⟩, k2⟩ => ⟨_, _, he, ?_⟩
  have : x2 < n ∧ y2 < n := by rcases d2 with ⟨rfl, rfl⟩ | ⟨rfl, rfl⟩ <;> omega
  refine cl_of ok95 (ord2 cm h2 b2 hr hrp (by omega) this.1) fun e w3 ⟨x3, y3, he, d3, h3, b3, k3⟩ => ⟨_, _, he, y3, rfl, by omega, h3, b3, (k1.trans k2 fun _ _ h => h).trans k3 fun _ _ h => h⟩
theorem madj (cm : Cm w0 p f S lt) (hn : n ≤ 1152921504606846976) (h : Ar w0 p n c S w z) {r : Nat} {v : Int} (hB : Blk w r [J v] 3) (hr : w0.heap.size ≤ r) (hrp : ¬ ob p r) {i : Nat} (hi : 1 ≤ i ∧ i + 1 < n) :
    Calls Try.prog 92 #[.slice p n c, J i, .pointer (some ⟨r, 0, none⟩), f] w fun e w' => ∃ x : Nat, e = .returned (J x) ∧ (i - 1 ≤ x ∧ x ≤ i + 1) ∧ Cn w0 p n c S z r w w' := by
  refine (V92_calls p n c i (some ⟨r, 0, none⟩) f w (fun u w' => ∃ x : Nat, u = J x ∧ (i - 1 ≤ x ∧ x ≤ i + 1) ∧ Cn w0 p n c S z r w w') ?_).mono fun e w' ⟨u, he, x, hv, hk⟩ => ⟨x, by rw [he, hv], hk⟩
  unfold V92
  rw [wrm1 (by omega) hi.1, wrp1 (by omega)]
  exact cl_of ok93 (med cm h hB hr hrp (by omega) (by omega) hi.2) fun e w1 ⟨x, he, d, hc⟩ => ⟨_, he, x, rfl, by omega, hc⟩
theorem cho (cm : Cm w0 p f S lt) (hn : n ≤ 1152921504606846976) (h : Ar w0 p n c S w z) {a b : Nat} (hab : a < b) (hb : b ≤ n) :
    Calls Try.prog 78 #[.slice p n c, J a, J b, f] w fun e w' => ∃ (q : Nat) (t : Int), e = .returned (.tuple #[J q, J t]) ∧ a ≤ q ∧ q < b ∧ Ar w0 p n c S w' z ∧ Keep None w w' := by
  refine (V78_calls p n c a b f w (fun v w' => ∃ (q : Nat) (t : Int), v = .tuple #[J q, J t] ∧ a ≤ q ∧ q < b ∧ Ar w0 p n c S w' z ∧ Keep None w w') ?_).mono fun e w' ⟨v, he, q, t, hv, hk⟩ => ⟨q, t, by rw [he, hv], hk⟩
  unfold V78
  obtain ⟨l, rfl⟩ : ∃ l, b = a + l := ⟨b - a, by omega⟩
  refine alc_at fun r w1 hr hB k1 => ?_
  have e1 : IntKind.wrap .i64 (((a + l : Nat) : Int) - (a : Int)) = (l : Int) := by rw [wrp (by omega)]; omega
  have e4 : Int.tdiv (l : Int) 4 = ((l / 4 : Nat) : Int) := by rw [Int.tdiv_eq_ediv_of_nonneg (by omega)]; rfl
  have e5 : ∀ m : Nat, m ≤ 3 → IntKind.wrap .i64 ((a : Int) + (IntKind.wrap .i64 ((IntKind.wrap .i64 (Int.tdiv (l : Int) 4)) * (m : Int)))) = ((a + l / 4 * m : Nat) : Int) := fun m hm => by
    have hm4 : l / 4 * m ≤ l := by
      have : l / 4 * m ≤ l / 4 * 3 := Nat.mul_le_mul_left _ hm
      omega
    have ec : ((l / 4 : Nat) : Int) * (m : Int) = ((l / 4 * m : Nat) : Int) := by rw [Int.natCast_mul]
    rw [e4, wrp (x := ((l / 4 : Nat) : Int)) (by omega), ec, wrp (x := ((l / 4 * m : Nat) : Int)) (by omega), wrp (by omega)]; omega
  have e51 := e5 1 (by omega)
  have e52 := e5 2 (by omega)
  have e53 := e5 3 (by omega)
  simp only [Int.natCast_one, Int.cast_ofNat_Int] at e51 e52 e53
  have h51 : ((1 : Nat) : Int) = 1 := rfl
  have h52 : ((2 : Nat) : Int) = 2 := rfl
  have h53 : ((3 : Nat) : Int) = 3 := rfl
  rw [e1, e51, e52, e53]
  have hrp : ¬ ob p r := fun hh => by have := h.own.lt r hh; omega
  have hr0 : w0.heap.size ≤ r := by have := h.kp.size; omega
  have h1 := h.keep0 k1
  refine ⟨fun s w2 => ∃ (q : Nat) (v : Int), s.1 = q ∧ a ≤ q ∧ q < a + l ∧ Ar w0 p n c S w2 z ∧ Blk w2 r [J v] 3 ∧ Keep None w w2, ?_, ?_⟩
  · refine pif_of (fun h8 => ?_) fun h8 => ⟨a + l / 4 * 2, 0, rfl, by omega, by omega, h1, hB, k1⟩
    have h8 : 8 ≤ l := by simp at h8; omega
    refine ⟨fun s w3 => ∃ (x y u : Nat) (v : Int), s.1 = x ∧ s.2.1 = y ∧ s.2.2.1 = u ∧ (a ≤ x ∧ x < a + l) ∧ (a ≤ y ∧ y < a + l) ∧ (a ≤ u ∧ u < a + l) ∧ Ar w0 p n c S w3 z ∧ Blk w3 r [J v] 3 ∧ Keep None w w3, ?_, ?_⟩
    · refine pif_of (fun h50 => ?_) fun h50 => ⟨_, _, _, 0, rfl, rfl, rfl, ⟨by omega, by omega⟩, ⟨by omega, by omega⟩, ⟨by omega, by omega⟩, h1, hB, k1⟩
      have h50 : 50 ≤ l := by simp at h50; omega
      refine cl_of ok92 (madj cm hn h1 hB hr0 hrp (by omega)) fun e w2 ⟨x, he, d1, h2, ⟨v2, b2⟩, k2⟩ => ⟨_, he, ?_⟩
      refine cl_of ok92 (madj cm hn h2 b2 hr0 hrp (by omega)) fun e w3 ⟨y, he, d2, h3, ⟨v3, b3⟩, k3⟩ => ⟨_, he, ?_⟩
      refine cl_of ok92 (madj cm hn h3 b3 hr0 hrp (by omega)) fun e w4 ⟨u, he, d3, h4, ⟨v4, b4⟩, k4⟩ => ⟨_, he, ?_⟩
      exact ⟨x, y, u, v4, rfl, rfl, rfl, ⟨by omega, by omega⟩, ⟨by omega, by omega⟩, ⟨by omega, by omega⟩, h4, b4, ((k1.then1 k2 (by omega)).then1 k3 (by omega)).then1 k4 (by omega)⟩
    · rintro ⟨x', y', u', ⟨⟩⟩ w3 ⟨x, y, u, v3, rfl, rfl, rfl, dx, dy, du, h3, b3, k3⟩
      simp only []
      refine cl_of ok93 (med cm h3 b3 hr0 hrp (by omega) (by omega) (by omega)) fun e w4 ⟨q, he, d, h4, ⟨v4, b4⟩, k4⟩ => ⟨_, he, q, v4, rfl, by omega, by omega, h4, b4, k3.then1 k4 (by omega)⟩
  · rintro ⟨q', ⟨⟩⟩ w2 ⟨q, v, rfl, q1, q2, h2, b2, k2⟩
    simp only []
    refine ldI_of (b2.cell 0) (pif_of (fun _ => ⟨q, 1, rfl, q1, q2, h2, k2⟩) fun _ => pif_of (fun _ => ⟨q, 2, rfl, q1, q2, h2, k2⟩) fun _ => ⟨q, 0, rfl, q1, q2, h2, k2⟩)

/-- what lies outside of the range is where it belongs -/
def Pw (lt : Int → Int → Bool) (a a1 b1 b : Nat) (z : List Int) : Prop := ∀ i j, a ≤ i → i < j → j < b → (i < a1 ∨ b1 ≤ j) → lt (g z j) (g z i) = false
theorem Pw.sp {a a1 b1 b : Nat} {z1 z2 : List Int} (h : Pw lt a a1 b1 b z1) (sp : SP a1 b1 z1 z2) (ha : a ≤ a1) (hb : b1 ≤ b) (hbl : b ≤ z1.length) (hab : a1 ≤ b1) : Pw lt a a1 b1 b z2 := by
  intro i j hi hij hj hd
  rcases hd with hd | hd
  · rw [sp.out i (Or.inl hd)]
    by_cases hja : a1 ≤ j ∧ j < b1
    · exact sp.all (by omega) (P := fun y => lt y (g z1 i) = false) (fun k k1 k2 => h i k hi (by omega) (by omega) (Or.inl hd)) j hja.1 hja.2
    · rw [sp.out j (by omega)]; exact h i j hi hij hj (Or.inl hd)
  · rw [sp.out j (Or.inr hd)]
    by_cases hia : a1 ≤ i ∧ i < b1
    · exact sp.all (by omega) (P := fun y => lt (g z1 j) y = false) (fun k k1 k2 => h k j (by omega) (by omega) hj (Or.inr hd)) i hia.1 hia.2
    · rw [sp.out i (by omega)]; exact h i j hi hij hj (Or.inr hd)
theorem Pw.sorted {a a1 b1 b : Nat} {z1 : List Int} (h : Pw lt a a1 b1 b z1) (so : Sorted lt a1 b1 z1) : Sorted lt a b z1 := by
  intro i j hi hij hj
  by_cases hd : i < a1 ∨ b1 ≤ j
  · exact h i j hi hij hj hd
  · exact so i j (by omega) hij (by omega)
/-- amid the sort -/
def Inv (w0 : World) (p : Option Addr) (n c : Nat) (S : Int → Prop) (lt : Int → Int → Bool) (a b a1 b1 : Nat) (z : List Int) (w w' : World) (z1 : List Int) : Prop :=
  Ar w0 p n c S w' z1 ∧ SP a b z z1 ∧ Pw lt a a1 b1 b z1 ∧ Keep (ob p) w w'
theorem Inv.step {a b a1 b1 : Nat} {w1 w2 : World} {z1 : List Int} {Q : List Int → Prop} (h : Inv w0 p n c S lt a b a1 b1 z w w1 z1) (ha : a ≤ a1) (hb : b1 ≤ b) (hbn : b ≤ n) (hab : a1 ≤ b1) (hr : Res w0 p n c S a1 b1 z1 Q w1 w2) :
    ∃ z2, Inv w0 p n c S lt a b a1 b1 z w w2 z2 ∧ Q z2 ∧ SP a1 b1 z1 z2 := by
  obtain ⟨h1, sp1, pw1, k1⟩ := h
  obtain ⟨z2, h2, sp2, q2, k2⟩ := hr
  exact ⟨z2, ⟨h2, sp1.trans (sp2.mono ha hb), pw1.sp sp2 ha hb (by rw [h1.len]; exact hbn) hab, k1.trans k2 fun _ _ h => h⟩, q2, sp2⟩

theorem pdq (cm : Cm w0 p f S lt) (hn : n ≤ 1152921504606846976) : ∀ (N : Nat) (w : World) (z : List Int) (a b : Nat) (lim : Int), b ≤ a + N → Ar w0 p n c S w z → a ≤ b → b ≤ n → (0 < a → ∀ k, a ≤ k → k < b → lt (g z k) (g z (a - 1)) = false) →
    Calls Try.prog 70 #[.slice p n c, J a, J b, J lim, f] w fun e w' => e = .returned (.tuple #[]) ∧ Res w0 p n c S a b z (Sorted lt a b) w w' := by
  intro N
  induction N using Nat.strongRecOn with
  | ind N ih =>
  intro w z a b lim hN h hab hb hpre
  refine (V70_calls p n c a b lim f w (fun v w' => v = .tuple #[] ∧ Res w0 p n c S a b z (Sorted lt a b) w w') ?_).mono fun e w' ⟨v, he, hv, hk⟩ => ⟨by rw [he, hv], hk⟩
  unfold V70
  have hl := h.len
  refine lp_of (fun s w1 => ∃ (a1 b1 : Nat) (z1 : List Int), s.1 = a1 ∧ s.2.1 = b1 ∧ a ≤ a1 ∧ a1 ≤ b1 ∧ b1 ≤ b ∧ Inv w0 p n c S lt a b a1 b1 z w w1 z1) (fun s _ => (s.2.1 - s.1).toNat)
    ⟨a, b, z, rfl, rfl, Nat.le_refl _, hab, Nat.le_refl _, h, SP.refl _ _ _, fun i j h1 h2 h3 h4 => by omega, Keep.refl _ _⟩ ?_
  rintro ⟨a', b', lim1, t1, t2, ⟨⟩⟩ w1 ⟨a1, b1, z1, rfl, rfl, ha1, hab1, hb1, I1⟩
  simp only []
  have e1 : IntKind.wrap .i64 ((b1 : Int) - (a1 : Int)) = ((b1 - a1 : Nat) : Int) := by rw [wrp (by omega)]; omega
  rw [e1]
  have fin : ∀ {w2 : World}, Res w0 p n c S a1 b1 z1 (Sorted lt a1 b1) w1 w2 → Res w0 p n c S a b z (Sorted lt a b) w w2 := fun hr => by
    obtain ⟨z2, ⟨h2, sp2, pw2, k2⟩, so2, _⟩ := I1.step ha1 hb1 hb hab1 hr
    exact ⟨z2, h2, sp2, pw2.sorted so2, k2⟩
  refine pif_of (fun h12 => ?_) fun h12 => ?_
  · exact cl_of ok75 (ins cm hn I1.1 hab1 (by omega)) fun e w2 ⟨he, hr⟩ => ⟨he, by first | rfl | trivial, fin hr⟩
  have h12 : a1 + 12 < b1 := by simp at h12; omega
  refine pif_of (fun h0 => ?_) fun h0 => ?_
  · exact cl_of ok76 (heap cm hn I1.1 (by omega) (by omega)) fun e w2 ⟨he, hr⟩ => ⟨he, by first | rfl | trivial, fin hr⟩
  refine ⟨fun s w4 => ∃ z2, Inv w0 p n c S lt a b a1 b1 z w w4 z2, ?_, ?_⟩
  · refine pif_of (fun _ => ?_) fun _ => ⟨z1, I1⟩
    refine cl_of ok77 (brk hn I1.1 (by omega) (by omega)) fun e w2 ⟨he, hr⟩ => ⟨he, ?_⟩
    obtain ⟨z2, I2, _⟩ := I1.step ha1 hb1 hb hab1 hr
    exact ⟨z2, I2⟩
  clear fin
  rintro ⟨lim2, ⟨⟩⟩ w4 ⟨z2, I2⟩
  simp only []
  refine cl_of ok78 (cho cm hn I2.1 (by omega) (by omega)) fun e w6 ⟨q0, t0, he, q1, q2, h6, k6⟩ => ⟨_, _, he, ?_⟩
  have I6 : Inv w0 p n c S lt a b a1 b1 z w w6 z2 := ⟨h6, I2.2.1, I2.2.2.1, I2.2.2.2.then0 k6⟩
  refine ⟨fun s w7 => ∃ (q : Nat) (z3 : List Int), s.1 = q ∧ a1 ≤ q ∧ q < b1 ∧ Inv w0 p n c S lt a b a1 b1 z w w7 z3, ?_, ?_⟩
  · refine pif_of (fun _ => ?_) fun _ => ⟨q0, z2, rfl, q1, q2, I6⟩
    refine cl_of ok79 (rev (f := f) hn h6 (by omega) (by omega)) fun e w8 ⟨he, hr⟩ => ⟨he, ?_⟩
    obtain ⟨z3, I3, _⟩ := I6.step ha1 hb1 hb hab1 hr
    refine ⟨b1 - 1 - (q0 - a1), z3, ?_, by omega, by omega, I3⟩
    show IntKind.wrap .i64 ((IntKind.wrap .i64 ((b1 : Int) - 1)) - (IntKind.wrap .i64 ((q0 : Int) - (a1 : Int)))) = _
    rw [wrp (x := (b1 : Int) - 1) (by omega), wrp (x := (q0 : Int) - (a1 : Int)) (by omega), wrp (by omega)]
    omega
  rintro ⟨q', t3, ⟨⟩⟩ w7 ⟨q, z3, rfl, hq1, hq2, I3⟩
  simp only []
  -- what lies ahead
  have ahead : ∀ {w' : World} {z' : List Int}, Inv w0 p n c S lt a b a1 b1 z w w' z' → 0 < a1 → ∀ k, a1 ≤ k → k < b1 → lt (g z' k) (g z' (a1 - 1)) = false := by
    intro w' z' I ha0 k k1 k2
    by_cases haa : a1 = a
    · have ee : g z' (a1 - 1) = g z (a1 - 1) := I.2.1.out _ (Or.inl (by omega))
      rw [ee, haa]
      exact I.2.1.all (by omega) (P := fun y => lt y (g z (a - 1)) = false) (hpre (by omega)) k (by omega) (by omega)
    · exact I.2.2.1 (a1 - 1) k (by omega) (by omega) (by omega) (Or.inl (by omega))
  refine ⟨fun s w9 => ∃ z4, Inv w0 p n c S lt a b a1 b1 z w w9 z4, ?_, ?_⟩
  · refine pif_of (fun _ => ?_) fun _ => ⟨z3, I3⟩
    refine cl_of ok80 (pin cm hn I3.1 (by omega) (by omega) (ahead I3)) fun e w8 ⟨t, he, hr⟩ => ⟨_, he, ?_⟩
    obtain ⟨z4, I4, so4, _⟩ := I3.step ha1 hb1 hb hab1 hr
    refine pif_of (fun ht => ?_) fun _ => ⟨z4, I4⟩
    exact ⟨by first | rfl | trivial, z4, I4.1, I4.2.1, I4.2.2.1.sorted (so4 ht), I4.2.2.2⟩
  rintro ⟨⟩ w9 ⟨z4, I4⟩
  have hl4 := I4.1.len
  -- where it is parted in two
  have part : ∀ {w12 : World}, Inv w0 p n c S lt a b a1 b1 z w w12 z4 → ∀ (t1' t2' : Bool) (K : Int × Int × Int × Bool × Bool × Unit → World → Prop),
      (∀ (a2 b2 : Nat) (w' : World) (z' : List Int) (u1 u2 : Bool), a1 ≤ a2 → a2 ≤ b2 → b2 ≤ b1 → b2 - a2 < b1 - a1 → Inv w0 p n c S lt a b a2 b2 z w w' z' → K ((a2 : Int), (b2 : Int), lim2, u1, u2, ()) w') →
      cl Try.prog 82 [.slice p n c, .int .i64 a1, .int .i64 b1, .int .i64 q, f] w12 fun e66 w14 => ∃ x64 : Int, ∃ x65 : Bool, e66 = Ending.returned (.tuple #[.int .i64 x64, .bool x65]) ∧
        pif (decide ((IntKind.wrap .i64 (x64 - a1)) < (IntKind.wrap .i64 (b1 - x64)))) (
          cl Try.prog 70 [.slice p n c, .int .i64 a1, .int .i64 x64, .int .i64 lim2, f] w14 fun e73 w15 => e73 = Ending.returned (.tuple #[]) ∧
          K ((IntKind.wrap .i64 (x64 + 1)), (b1 : Int), lim2, (decide ((IntKind.wrap .i64 (x64 - a1)) ≥ (IntKind.wrap .i64 (Int.tdiv ((b1 - a1 : Nat) : Int) 8)))), x65, ()) w15) (
          cl Try.prog 70 [.slice p n c, .int .i64 (IntKind.wrap .i64 (x64 + 1)), .int .i64 b1, .int .i64 lim2, f] w14 fun e77 w16 => e77 = Ending.returned (.tuple #[]) ∧
          K ((a1 : Int), x64, lim2, (decide ((IntKind.wrap .i64 (b1 - x64)) ≥ (IntKind.wrap .i64 (Int.tdiv ((b1 - a1 : Nat) : Int) 8)))), x65, ()) w16) := by
    intro w12 I12 t1' t2' K hK
    refine cl_of ok82 (par cm hn I12.1 (by omega) (by omega) ⟨hq1, hq2⟩) fun e w14 ⟨m, t, he, hr⟩ => ⟨_, _, he, ?_⟩
    obtain ⟨z5, I5, ⟨m1, m2, lo5, hi5⟩, _⟩ := I12.step ha1 hb1 hb hab1 hr
    have hl5 := I5.1.len
    have sx : ∀ {k : Nat}, k < n → S (g z5 k) := fun hk => I5.1.s hk
    have lo5' : ∀ k, a1 ≤ k → k < m → lt (g z5 m) (g z5 k) = false := fun k k1 k2 => cm.asym _ _ (sx (by omega)) (sx (by omega)) (lo5 k k1 k2)
    refine pif_of (fun _ => ?_) fun _ => ?_
    · -- the left part
      have hrec := ih (m - a1) (by omega) w14 z5 a1 m lim2 (by omega) I5.1 m1 (by omega) (fun ha0 k k1 k2 => ahead I5 ha0 k k1 (by omega))
      refine cl_of ok70 hrec fun e w15 ⟨he, z6, h6, sp6, so6, k6⟩ => ⟨he, ?_⟩
      rw [wrp1 (by omega)]
      refine hK (m + 1) b1 w15 z6 _ _ (by omega) (by omega) (Nat.le_refl _) (by omega) ⟨h6, I5.2.1.trans (sp6.mono (by omega) (by omega)), ?_, I5.2.2.2.trans k6 fun _ _ h => h⟩
      have pw6 : Pw lt a a1 b1 b z6 := I5.2.2.1.sp (sp6.mono (Nat.le_refl _) (by omega)) ha1 hb1 (by omega) (by omega)
      have lo6 : ∀ k, a1 ≤ k → k < m → lt (g z5 m) (g z6 k) = false := sp6.all (by omega) (P := fun y => lt (g z5 m) y = false) lo5'
      have s6 : ∀ {k : Nat}, k < n → S (g z6 k) := fun hk => h6.s hk
      intro i j i1 ij jb hd
      by_cases hd1 : i < a1 ∨ b1 ≤ j
      · exact pw6 i j i1 ij jb hd1
      · have e6 : ∀ k, m ≤ k → g z6 k = g z5 k := fun k hk => sp6.out k (Or.inr hk)
        by_cases him : i < m
        · by_cases hjm : j < m
          · exact so6 i j (by omega) ij hjm
          · rw [e6 j (by omega)]
            by_cases hjm2 : j = m
            · rw [hjm2]; exact lo6 i (by omega) him
            · exact cm.trans _ _ _ (s6 (by omega)) (sx (k := m) (by omega)) (sx (by omega)) (lo6 i (by omega) him) (hi5 j (by omega) (by omega))
        · obtain rfl : i = m := by omega
          rw [e6 j (by omega), e6 i (by omega)]
          exact hi5 j (by omega) (by omega)
    · -- the right part
      rw [wrp1 (by omega)]
      have hrec := ih (b1 - (m + 1)) (by omega) w14 z5 (m + 1) b1 lim2 (by omega) I5.1 (by omega) (by omega) (fun ha0 k k1 k2 => by
        rw [Nat.add_sub_cancel]; exact hi5 k (by omega) k2)
      refine cl_of ok70 hrec fun e w15 ⟨he, z6, h6, sp6, so6, k6⟩ => ⟨he, ?_⟩
      refine hK a1 m w15 z6 _ _ (Nat.le_refl _) m1 (by omega) (by omega) ⟨h6, I5.2.1.trans (sp6.mono (by omega) (by omega)), ?_, I5.2.2.2.trans k6 fun _ _ h => h⟩
      have pw6 : Pw lt a a1 b1 b z6 := I5.2.2.1.sp (sp6.mono (by omega) (Nat.le_refl _)) ha1 hb1 (by omega) (by omega)
      have hi6 : ∀ k, m + 1 ≤ k → k < b1 → lt (g z6 k) (g z5 m) = false := sp6.all (by omega) (P := fun y => lt y (g z5 m) = false) (fun k k1 k2 => hi5 k (by omega) k2)
      have s6 : ∀ {k : Nat}, k < n → S (g z6 k) := fun hk => h6.s hk
      intro i j i1 ij jb hd
      by_cases hd1 : i < a1 ∨ b1 ≤ j
      · exact pw6 i j i1 ij jb hd1
      · have e6 : ∀ k, k ≤ m → g z6 k = g z5 k := fun k hk => sp6.out k (Or.inl (by omega))
        by_cases hjm : j = m
        · rw [e6 j (by omega), e6 i (by omega), hjm]
          exact lo5' i (by omega) (by omega)
        · by_cases him : i < m
          · rw [e6 i (by omega)]
            exact cm.trans _ _ _ (sx (by omega)) (sx (k := m) (by omega)) (s6 (by omega)) (lo5' i (by omega) him) (hi6 j (by omega) (by omega))
          · by_cases him2 : i = m
            · rw [e6 i (by omega), him2]; exact hi6 j (by omega) (by omega)
            · exact so6 i j (by omega) ij (by omega)
  have e8 : IntKind.wrap .i64 ((a1 : Int) - 1) = (a1 : Int) - 1 := by rw [wrp (by omega)]
  rw [e8]
  have goOn : ∀ (a2 b2 : Nat) (w' : World) (z' : List Int) (u1 u2 : Bool), a1 ≤ a2 → a2 ≤ b2 → b2 ≤ b1 → b2 - a2 < b1 - a1 → Inv w0 p n c S lt a b a2 b2 z w w' z' →
      (∃ (a3 b3 : Nat) (z3 : List Int), ((a2 : Int)) = a3 ∧ ((b2 : Int)) = b3 ∧ a ≤ a3 ∧ a3 ≤ b3 ∧ b3 ≤ b ∧ Inv w0 p n c S lt a b a3 b3 z w w' z3) ∧ ((b2 : Int) - (a2 : Int)).toNat < ((b1 : Int) - (a1 : Int)).toNat := fun a2 b2 w' z' u1 u2 h1 h2 h3 h4 hI =>
    ⟨⟨a2, b2, z', rfl, rfl, by omega, h2, by omega, hI⟩, by omega⟩
  refine I4.1.drew.cmpG cm (i := a1 - 1) (j := q) (fun hbb => ?_) (fun hbb x w12 hx h12 k12 => ?_) (fun hbb => ?_)
  · have hbb : 0 < a1 := by simp at hbb; omega
    exact ⟨by omega, rfl, by omega, by omega⟩
  · have ha0 : 0 < a1 := by simp at hbb; omega
    have I12 : Inv w0 p n c S lt a b a1 b1 z w w12 z4 := ⟨h12, I4.2.1, I4.2.2.1, I4.2.2.2.drew.then0 k12⟩
    rw [hbb]
    refine pif_of (fun hc => ?_) fun hc => ?_
    · have hc : ¬ x < 0 := by simpa using hc
      have hno := not_lt_of hx hc
      refine cl_of ok81 (peq cm hn h12 (by omega) (by omega) ⟨hq1, hq2⟩) fun e w13 ⟨m, he, hr⟩ => ⟨_, he, ?_⟩
      obtain ⟨z5, I5, ⟨m1, m2, lo5, hi5⟩, sp5⟩ := I12.step ha1 hb1 hb hab1 hr
      refine goOn m b1 w13 z5 t1 t2 (by omega) m2 (Nat.le_refl _) (by omega) ⟨I5.1, I5.2.1, ?_, I5.2.2.2⟩
      have hah := ahead I5 ha0
      have ee : g z5 (a1 - 1) = g z4 (a1 - 1) := sp5.out _ (Or.inl (by omega))
      have sx : ∀ {k : Nat}, k < n → S (g z5 k) := fun hk => I5.1.s hk
      have sq : S (g z4 q) := I12.1.s (by omega)
      have s1 : S (g z4 (a1 - 1)) := I12.1.s (by omega)
      intro i j i1 ij jb hd
      by_cases hd1 : i < a1 ∨ b1 ≤ j
      · exact I5.2.2.1 i j i1 ij jb hd1
      · have lei := lo5 i (by omega) (by omega)
        have lej : lt (g z5 j) (g z4 q) = false := by
          have := hah j (by omega) (by omega)
          rw [ee] at this
          exact cm.trans _ _ _ sq s1 (sx (by omega)) hno this
        exact cm.trans _ _ _ (sx (by omega)) sq (sx (by omega)) lei lej
    · exact part I12 t1 t2 (fun s w' => (∃ (a3 b3 : Nat) (z3 : List Int), s.1 = a3 ∧ s.2.1 = b3 ∧ a ≤ a3 ∧ a3 ≤ b3 ∧ b3 ≤ b ∧ Inv w0 p n c S lt a b a3 b3 z w w' z3) ∧ (s.2.1 - s.1).toNat < ((b1 : Int) - (a1 : Int)).toNat) goOn
  · rw [hbb]
    refine pif_f rfl ?_
    exact part ⟨I4.1.drew, I4.2.1, I4.2.2.1, I4.2.2.2.drew⟩ t1 t2 (fun s w' => (∃ (a3 b3 : Nat) (z3 : List Int), s.1 = a3 ∧ s.2.1 = b3 ∧ a ≤ a3 ∧ a3 ≤ b3 ∧ b3 ≤ b ∧ Inv w0 p n c S lt a b a3 b3 z w w' z3) ∧ (s.2.1 - s.1).toNat < ((b1 : Int) - (a1 : Int)).toNat) goOn

theorem sortFunc (cm : Cm w0 p f S lt) (hn : n ≤ 1152921504606846976) (h : Ar w0 p n c S w z) :
    Calls Try.prog 56 #[.slice p n c, f] w fun e w' => e = .returned (.tuple #[]) ∧ ∃ z', Ar w0 p n c S w' z' ∧ z'.Perm z ∧ Sorted lt 0 n z' ∧ Keep (ob p) w w' := by
  refine (V56_calls p n c f w (fun v w' => v = .tuple #[] ∧ ∃ z', Ar w0 p n c S w' z' ∧ z'.Perm z ∧ Sorted lt 0 n z' ∧ Keep (ob p) w w') ?_).mono fun e w' ⟨v, he, hv, hk⟩ => ⟨by rw [he, hv], hk⟩
  unfold V56
  have e1 : IntKind.wrap .u64 (n : Int) = (n : Int) := by rw [IntKind.wrap_u64]; omega
  rw [e1]
  refine cl_of ok71 (bits_len n w (by omega)) fun e w1 ⟨he, hw⟩ => ⟨_, he, ?_⟩
  subst hw
  have hp := pdq cm hn n w1 z 0 n (blen n) (by omega) h (Nat.zero_le _) (Nat.le_refl _) (fun h => by omega)
  exact cl_of ok70 hp fun e w2 ⟨he, z', h2, sp2, so2, k2⟩ => ⟨he, rfl, z', h2, sp2.perm, so2, k2⟩
end
end Go.Proofs.Ytjpblaenebodlaa.Sort
