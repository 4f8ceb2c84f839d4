/- heat.New lays all variables within, none warm: what In, Score and own answer of a heat. -/
import Derived.Test.YtfifgopmegbifaaVcO
import Derived.Test.YtfifgopmegbifaaTBegins
set_option linter.unusedVariables false
set_option linter.unusedSimpArgs false
namespace Go.Proofs.Ytfifgopmegbifaa.Heat
open Go Go.Proofs.Ytfifgopmegbifaa.Vc Go.Proofs.Ytfifgopmegbifaa.T

abbrev I (n : Int) : Value := .int .i64 n
abbrev F (n : Nat) : Value := .float .f64 n
abbrev S (b n c : Nat) : Value := .slice (some ⟨b, 0, none⟩) n c

/-- a heat in memory: its scores, step and decay, the heap's items (and what lies behind them) and places -/
structure Rep (w : World) (h sb ib pb : Nat) (sc : List Nat) (step decay : Nat) (it rest : List Int) (pl : List Int) : Prop where
  obj : Blk w h [S sb sc.length sc.length, F step, F decay, S ib it.length (it.length + rest.length), S pb pl.length pl.length, .func (.func 27) #[.pointer (some ⟨h, 0, none⟩)] #[]] 69
  scores : Blk w sb (sc.map F) 22
  items : Blk w ib ((it ++ rest).map I) 3
  places : Blk w pb (pl.map I) 3
  len : pl.length = sc.length
  hs : h ≠ sb
  hi : h ≠ ib
  hp : h ≠ pb
  si : sb ≠ ib
  sp : sb ≠ pb
  ip : ib ≠ pb

theorem lay28 {w : World} {h o ib pb ni ci np cp : Nat} {its pls : List Int} {a b c : Value} {at' x : Int} {ho : List Value}
    (hO : w.cell? ⟨h, o, none⟩ = some (S ib ni ci)) (hP : w.cell? ⟨h, o + 1, none⟩ = some (S pb np cp)) (hI : Blk w ib (its.map I) 3) (hPl : Blk w pb (pls.map I) 3)
    (hne : ib ≠ pb) (hhi : h ≠ ib) (h0 : 0 ≤ at') (h1 : at' < ni) (h2 : ni ≤ its.length) (h3 : 1 ≤ x) (h4 : x ≤ np) (h5 : np ≤ pls.length) (h6 : x ≤ 9223372036854775807) :
    Calls Try.prog 28 #[.pointer (some ⟨h, o, none⟩), I at', I x] w fun e w' => e = .returned (.tuple #[]) ∧ Keep (fun i => i = ib ∨ i = pb) w w' ∧
      Blk w' ib ((its.set at'.toNat x).map I) 3 ∧ Blk w' pb ((pls.set (x - 1).toNat at').map I) 3 := by
  refine (V28_calls (some ⟨h, o, none⟩) at' x w (fun v w' => v = .tuple #[] ∧ Keep (fun i => i = ib ∨ i = pb) w w' ∧
      Blk w' ib ((its.set at'.toNat x).map I) 3 ∧ Blk w' pb ((pls.set (x - 1).toNat at').map I) 3) ?_).mono fun e w' ⟨v, he, hv, hk⟩ => ⟨by rw [he, hv], hk⟩
  unfold V28
  have hx : IntKind.wrap .i64 (x - 1) = x - 1 := by rw [IntKind.wrap_i64]; omega
  simp only [add_mk, Nat.zero_add, Nat.add_zero, hx]
  refine nn_of (ldC_of hO (ixA_of1 h0 h1 ?_))
  simp only [add_mk, Nat.add_zero]
  refine st_of hI (by simp; omega) rfl fun w1 hI1 k1 _ => ?_
  have hP1 := k1.cell hP (fun e => hhi e)
  refine nn_of (ldC_of hP1 (ixA_of1 (by omega) (by omega) ?_))
  simp only [add_mk, Nat.add_zero]
  have hPl1 := hPl.keep1 k1 (Ne.symm hne)
  refine st_of hPl1 (by simp; omega) rfl fun w2 hP2 k2 _ => ?_
  refine ⟨trivial, ?_, ?_, ?_⟩
  · exact (k1.mono fun _ _ h => Or.inl h).thenS k2 (Or.inr rfl)
  · have := hI1.keep1 k2 hne
    rwa [← List.map_set] at this
  · rwa [← List.map_set] at hP2

/-- numbers as far as i by g, noughts behind -/
def upto (i n : Nat) (g : Nat → Int) : List Int := (List.range n).map fun k => if k < i then g k else 0
theorem upto_zero (n : Nat) (g : Nat → Int) : upto 0 n g = List.replicate n 0 := by
  apply List.ext_getElem <;> simp [upto]
theorem upto_len (i n : Nat) (g : Nat → Int) : (upto i n g).length = n := by simp [upto]
theorem upto_set (i n : Nat) (g : Nat → Int) (h : i < n) : (upto i n g).set i (g i) = upto (i + 1) n g := by
  apply List.ext_getElem
  · simp [upto]
  · intro k h1 h2
    simp only [upto, List.getElem_set, List.getElem_map, List.getElem_range]
    by_cases hk : i = k
    · subst hk; simp
    · rw [if_neg hk]
      by_cases hk2 : k < i
      · rw [if_pos hk2, if_pos (by omega)]
      · rw [if_neg hk2, if_neg (by omega)]
theorem upto_all (n : Nat) (g : Nat → Int) : upto n n g = (List.range n).map g := by
  apply List.map_congr_left
  intro k hk
  simp at hk
  simp [hk]

def one : Nat := 4607182418800017408
def fine (n : Int) (d : Nat) : Bool := decide (0 ≤ n) && decide (n ≤ 1048576) &&
  (((FloatKind.format .f64).order d 4602678819172646912 == some .gt || (FloatKind.format .f64).order d 4602678819172646912 == some .eq) &&
   ((FloatKind.format .f64).order d 4607182418800017408 == some .lt || (FloatKind.format .f64).order d 4607182418800017408 == some .eq))

/-- the loop of New: it lays i + 1 at place i -/
theorem new_loop {w0 w7 : World} {h sb ib pb n : Nat} {d : Nat} {R : Value → World → Prop} (hn : n ≤ 1048576)
    (hO : Blk w7 h [S sb n n, F one, F d, S ib n n, S pb n n, .func (.func 27) #[.pointer (some ⟨h, 0, none⟩)] #[]] 69)
    (hS : Blk w7 sb ((List.replicate n 0).map F) 22) (hI : Blk w7 ib ((List.replicate n (0 : Int)).map I) 3) (hP : Blk w7 pb ((List.replicate n (0 : Int)).map I) 3)
    (d1 : h ≠ sb) (d2 : h ≠ ib) (d3 : h ≠ pb) (d4 : sb ≠ ib) (d5 : sb ≠ pb) (d6 : ib ≠ pb) (hib : w0.heap.size ≤ ib) (hpb : w0.heap.size ≤ pb) (hK : Keep None w0 w7)
    (hR : ∀ w', Keep None w0 w' → Rep w' h sb ib pb (List.replicate n 0) one d ((List.range n).map fun k : Nat => (k : Int) + 1) [] ((List.range n).map fun k : Nat => (k : Int)) → R (.tuple #[.pointer (some ⟨h, 0, none⟩), .int .i64 0]) w') :
    lp (σ := Int × Unit) (fun s12 w8 k11 =>
        pif (decide (s12.1 < (n : Int))) (
          cl Try.prog 28 [.pointer (some (⟨h, 3, none⟩ : Addr)), .int .i64 s12.1, .int .i64 (IntKind.wrap .i64 (s12.1 + 1))] w8 fun e16 w9 => e16 = Ending.returned (.tuple #[]) ∧
          k11 ((IntKind.wrap .i64 (s12.1 + 1)), ()) w9) (
          R (.tuple #[.pointer (some (⟨h, 0, none⟩ : Addr)), .int .i64 0]) w8)) (0, ()) w7 := by
  refine lp_of (fun s w => 0 ≤ s.1 ∧ s.1 ≤ n ∧ Keep None w0 w ∧ Blk w h [S sb n n, F one, F d, S ib n n, S pb n n, .func (.func 27) #[.pointer (some ⟨h, 0, none⟩)] #[]] 69 ∧ Blk w sb ((List.replicate n 0).map F) 22 ∧
    Blk w ib ((upto s.1.toNat n fun k => (k : Int) + 1).map I) 3 ∧ Blk w pb ((upto s.1.toNat n fun k => (k : Int)).map I) 3) (fun s _ => (n - s.1).toNat)
    ⟨by simp, by simp, hK, hO, hS, by simpa [upto_zero] using hI, by simpa [upto_zero] using hP⟩ ?_
  rintro ⟨i, ⟨⟩⟩ w8 ⟨h0, h1, hK8, hO8, hS8, hI8, hP8⟩
  simp only [] at h0 h1 hI8 hP8 ⊢
  refine pif_of (fun hlt => ?_) (fun hge => ?_)
  · have hlt : i < n := by simpa using hlt
    have hw : IntKind.wrap .i64 (i + 1) = i + 1 := by rw [IntKind.wrap_i64]; omega
    rw [hw]
    refine cl_of ok28 (lay28 (a := .bool true) (b := .bool true) (c := .bool true) (ho := []) (hO8.cell 3) (hO8.cell 4) hI8 hP8 d6 d2 h0 (by omega) (by rw [upto_len]; omega) (by omega) (by omega) (by rw [upto_len]; omega) (by omega)) fun e w9 ⟨he, k9, hI9, hP9⟩ => ⟨he, ⟨by omega, by omega, ?_, ?_, ?_, ?_, ?_⟩, by omega⟩
    · exact hK8.trans k9 fun j hj h => by rcases h with rfl | rfl <;> omega
    · exact hO8.keep k9 fun h => by rcases h with h | h <;> contradiction
    · exact hS8.keep k9 fun h => by rcases h with h | h <;> contradiction
    · have e1 := upto_set i.toNat n (fun k => (k : Int) + 1) (by omega)
      rw [show ((i.toNat : Nat) : Int) + 1 = i + 1 by omega] at e1
      rw [e1] at hI9
      rwa [show (i + 1).toNat = i.toNat + 1 by omega]
    · have e1 := upto_set i.toNat n (fun k => (k : Int)) (by omega)
      rw [show ((i.toNat : Nat) : Int) = i by omega] at e1
      rw [show (i + 1 - 1).toNat = i.toNat by omega, e1] at hP9
      rwa [show (i + 1).toNat = i.toNat + 1 by omega]
  · have hge : ¬ i < n := by simpa using hge
    obtain rfl : i = n := by omega
    simp only [Int.toNat_natCast, upto_all] at hI8 hP8
    refine hR w8 hK8 ⟨?_, hS8, ?_, hP8, by simp, d1, d2, d3, d4, d5, d6⟩
    · simpa using hO8
    · simpa using hI8

def New9 (n : Int) (d : Nat) (w : World) (v : Value) (w' : World) : Prop := Keep None w w' ∧
      ((fine n d = false ∧ v = (.tuple #[.pointer none, I 2])) ∨
       (fine n d = true ∧ ∃ h sb ib pb, w.heap.size ≤ h ∧ w.heap.size ≤ sb ∧ w.heap.size ≤ ib ∧ w.heap.size ≤ pb ∧ v = (.tuple #[.pointer (some ⟨h, 0, none⟩), I 0]) ∧
        Rep w' h sb ib pb (List.replicate n.toNat 0) one d ((List.range n.toNat).map fun k : Nat => (k : Int) + 1) [] ((List.range n.toNat).map fun k : Nat => (k : Int))))
theorem new9 (n : Int) (d : Nat) (w : World) (hn : -9223372036854775808 ≤ n ∧ n ≤ 9223372036854775807) :
    Calls Try.prog 9 #[I n, F d] w fun e w' => ∃ v, e = .returned v ∧ New9 n d w v w' := by
  refine V9_calls n d w (New9 n d w) ?_
  unfold V9
  have hf : (cond (cond (decide (n < 0)) true (decide (n > 1048576))) true (!(cond ((FloatKind.format .f64).order d 4602678819172646912 == some .gt || (FloatKind.format .f64).order d 4602678819172646912 == some .eq) ((FloatKind.format .f64).order d 4607182418800017408 == some .lt || (FloatKind.format .f64).order d 4607182418800017408 == some .eq) false))) = !fine n d := by
    unfold fine
    by_cases h1 : n < 0
    · have : ¬ 0 ≤ n := by omega
      simp [h1, this]
    · by_cases h2 : n > 1048576
      · have : ¬ n ≤ 1048576 := by omega
        simp [h1, h2, this]
      · have e1 : 0 ≤ n := by omega
        have e2 : n ≤ 1048576 := by omega
        simp [h1, h2, e1, e2]
  rw [hf]
  refine pif_of (fun h => ⟨Keep.refl _ _, Or.inl ⟨by simpa using h, rfl⟩⟩) fun h => ?_
  have hfine : fine n d = true := by simpa using h
  have hn0 : 0 ≤ n ∧ n ≤ 1048576 := by
    simp only [fine, Bool.and_eq_true, decide_eq_true_eq] at hfine
    exact hfine.1
  obtain ⟨m, rfl⟩ : ∃ m : Nat, n = m := ⟨n.toNat, by omega⟩
  refine mk_of Try.underlying64 (z := F 0) (B := 8) (by kernel_rfl) rfl (by omega) (by omega) (by omega) fun sb w1 hsb hS k1 => ?_
  rw [Int.toNat_natCast] at hS ⊢
  refine alc_at fun h w2 hh hO k2 => ?_
  have hK2 : Keep None w w2 := k1.then0 k2
  have hS2 := hS.keep0 k2
  have l1 := hS.lt
  have l2 := hO.lt
  have z1 := k1.size
  have z2 := k2.size
  have hd := (Keep.refl None w2).drew
  have hS2' := hS2.drew
  have hO2' := hO.drew
  simp only [add_mk, Nat.zero_add, Nat.add_zero, Nat.reduceAdd]
  refine ⟨?_, ?_⟩
  · refine mk_of Try.underlying33 (z := I 0) (B := 8) (by kernel_rfl) rfl (by omega) (by omega) (by omega) fun ib w3 hib hI k3 => ?_
    rw [Int.toNat_natCast] at hI ⊢
    refine mk_of Try.underlying33 (z := I 0) (B := 8) (by kernel_rfl) rfl (by omega) (by omega) (by omega) fun pb w4 hpb hP k4 => ?_
    rw [Int.toNat_natCast] at hP ⊢
    have e2 : w2.drew.heap.size = w2.heap.size := rfl
    have l3 := hI.lt
    have z3 := k3.size
    have hO4 := (hO2'.keep0 k3).keep0 k4
    have hK4 := (hK2.drew.then0 k3).then0 k4
    have hS4 := (hS2'.keep0 k3).keep0 k4
    have hI4 := hI.keep0 k4
    refine st_of hO4 (by simp) rfl fun w5 hO5 k5 _ => ?_
    refine st_of hO5 (by simp) rfl fun w6 hO6 k6 _ => ?_
    refine st_of hO6 (by simp) rfl fun w7 hO7 k7 _ => ?_
    have hK7 := ((hK4.then1 k5 (by omega)).then1 k6 (by omega)).then1 k7 (by omega)
    refine new_loop (R := New9 m d w) (w0 := w) (ib := ib) (pb := pb) (sb := sb) (d := d) (by omega) hO7 ?_ ?_ ?_ (by omega) (by omega) (by omega) (by omega) (by omega) (by omega) (by omega) (by omega) hK7 ?_
    · have := ((hS4.keep1 k5 (by omega)).keep1 k6 (by omega)).keep1 k7 (by omega)
      simpa using this
    · have := ((hI4.keep1 k5 (by omega)).keep1 k6 (by omega)).keep1 k7 (by omega)
      simpa using this
    · have := ((hP.keep1 k5 (by omega)).keep1 k6 (by omega)).keep1 k7 (by omega)
      simpa using this
    · exact fun w' hK' hRep => ⟨hK', Or.inr ⟨hfine, h, sb, ib, pb, by omega, by omega, by omega, by omega, rfl, by simpa using hRep⟩⟩
  · refine mk_of Try.underlying33 (z := I 0) (B := 8) (by kernel_rfl) rfl (by omega) (by omega) (by omega) fun pb w3 hib hI k3 => ?_
    rw [Int.toNat_natCast] at hI ⊢
    refine mk_of Try.underlying33 (z := I 0) (B := 8) (by kernel_rfl) rfl (by omega) (by omega) (by omega) fun ib w4 hpb hP k4 => ?_
    rw [Int.toNat_natCast] at hP ⊢
    have e2 : w2.drew.heap.size = w2.heap.size := rfl
    have l3 := hI.lt
    have z3 := k3.size
    have hO4 := (hO2'.keep0 k3).keep0 k4
    have hK4 := (hK2.drew.then0 k3).then0 k4
    have hS4 := (hS2'.keep0 k3).keep0 k4
    have hI4 := hI.keep0 k4
    refine st_of hO4 (by simp) rfl fun w5 hO5 k5 _ => ?_
    refine st_of hO5 (by simp) rfl fun w6 hO6 k6 _ => ?_
    refine st_of hO6 (by simp) rfl fun w7 hO7 k7 _ => ?_
    have hK7 := ((hK4.then1 k5 (by omega)).then1 k6 (by omega)).then1 k7 (by omega)
    refine new_loop (R := New9 m d w) (w0 := w) (ib := ib) (pb := pb) (sb := sb) (d := d) (by omega) hO7 ?_ ?_ ?_ (by omega) (by omega) (by omega) (by omega) (by omega) (by omega) (by omega) (by omega) hK7 ?_
    · have := ((hS4.keep1 k5 (by omega)).keep1 k6 (by omega)).keep1 k7 (by omega)
      simpa using this
    · have := ((hP.keep1 k5 (by omega)).keep1 k6 (by omega)).keep1 k7 (by omega)
      simpa using this
    · have := ((hI4.keep1 k5 (by omega)).keep1 k6 (by omega)).keep1 k7 (by omega)
      simpa using this
    · exact fun w' hK' hRep => ⟨hK', Or.inr ⟨hfine, h, sb, ib, pb, by omega, by omega, by omega, by omega, rfl, by simpa using hRep⟩⟩
end Go.Proofs.Ytfifgopmegbifaa.Heat
