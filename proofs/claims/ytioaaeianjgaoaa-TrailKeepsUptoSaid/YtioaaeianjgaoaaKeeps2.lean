/- TrailKeeps: the calls of a script, one by one. -/
import Derived.Test.YtioaaeianjgaoaaKeeps
set_option linter.unusedVariables false
set_option linter.unusedSimpArgs false
set_option maxRecDepth 100000
namespace Go.Proofs.Ytioaaeianjgaoaa.Trail
open Go Go.Proofs.Ytioaaeianjgaoaa.Vc Go.Proofs.Ytioaaeianjgaoaa.T Go.Proofs.Ytioaaeianjgaoaa.Apart

section
variable {n : Nat} {w0 w w1 : World} {T : TI} {M : MI} {R R2 R' : List E} {L L' : List Int} {now now' : Int} {p q : Option Addr} {c d : Nat} {xs ws : List Sl} {C C1 C2 : List (List Int)} {o o' : Nat → Int} {S : Nat → Prop} {t : Int}
theorem Kp.b2 (h : Kp n w0 w T M R L R L.length p c xs C1 q d ws C2 o) : B2 n w T M R L := ⟨h.tr, h.mr, fun i ht hm => by have := h.ot i ht; have := h.om i hm; omega⟩
/-- the program's trail goes back and gives a list -/
theorem Kp.gaveT (h : Kp n w0 w T M R L R2 now p c xs C1 q d ws C2 o) {a : Sl} {ys : List Int} (hO : Own w1 3 1 a.1 a.2.1 a.2.2 (ys.map J)) (hn : ∀ i, ob a.1 i → w.heap.size ≤ i) (k : Keep T.F w w1) (hT : Tr n w1 T R' L') (tag : Int) :
    ∃ o', Ag w o o' ∧ Pend w1 o' tag a ys ∧ Kp n w0 w1 T M R' L' R2 now p c xs C1 q d ws C2 o' := by
  have hS : ∀ i, i < w.heap.size → T.F i → o i = -3 := fun i _ hi => h.ot i hi
  let o' : Nat → Int := fun i => if i < w.heap.size then o i else tag
  have ha : Ag w o o' := fun i hi => if_pos hi
  exact ⟨o', ha, ⟨hO, fun i hi => if_neg (by have := hn i hi; omega)⟩, hT, h.mr.keep k fun i hm ht => by have := h.ot i ht; have := h.om i hm; omega, lsO h.ls ha k hS ⟨by decide, by decide⟩, wnO h.wn ha k hS ⟨by decide, by decide⟩,
    fun i hi => by rw [ha i (h.tr.lt i hi)]; exact h.ot i hi, fun i hi => by rw [ha i (h.mr.lt i hi)]; exact h.om i hi, h.oldO ha, h.keepO k hS (by decide), h.good⟩
theorem Kp.gaveM (h : Kp n w0 w T M R L R2 now p c xs C1 q d ws C2 o) {a : Sl} {ys : List Int} (hO : Own w1 3 1 a.1 a.2.1 a.2.2 (ys.map J)) (hn : ∀ i, ob a.1 i → w.heap.size ≤ i) (k : Keep M.F w w1) {M' : MI} (m : MMoved w M M') (hM : MRep w1 M' n R' now')
    (hd : ∀ i, ob a.1 i → ¬ M'.F i) : ∃ o', Ag w o o' ∧ Pend w1 o' (-5) a ys ∧ Kp n w0 w1 T M' R L R' now' p c xs C1 q d ws C2 o' := by
  have hS : ∀ i, i < w.heap.size → M.F i → o i = -6 := fun i _ hi => h.om i hi
  let o' : Nat → Int := fun i => if i < w.heap.size then o i else match a.1 with | some x => if x.block = i then -5 else -6 | none => -6
  have ha : Ag w o o' := fun i hi => if_pos hi
  refine ⟨o', ha, ⟨hO, fun i hi => ?_⟩, h.tr.keep k fun i ht hm => by have := h.ot i ht; have := h.om i hm; omega, hM, lsO h.ls ha k hS ⟨by decide, by decide⟩, wnO h.wn ha k hS ⟨by decide, by decide⟩,
    fun i hi => by rw [ha i (h.tr.lt i hi)]; exact h.ot i hi, fun i hi => ?_, h.oldO ha, h.keepO k hS (by decide), h.good⟩
  · have hi' := hn i hi
    obtain ⟨x, hx, hb⟩ := hi
    show (if i < w.heap.size then o i else match a.1 with | some x => if x.block = i then -5 else -6 | none => -6) = -5
    rw [if_neg (by omega), hx]
    exact if_pos hb
  · by_cases hlt : i < w.heap.size
    · rw [ha i hlt]
      rcases m.2 i hi with hh | hh
      · exact h.om i hh
      · omega
    · show (if i < w.heap.size then o i else match a.1 with | some x => if x.block = i then -5 else -6 | none => -6) = -6
      rw [if_neg hlt]
      have hno := fun hh => hd i hh hi
      cases hx : a.1 with
      | none => rfl
      | some x =>
        simp only []
        rw [if_neg]
        intro hb
        exact hno ⟨x, hx, hb⟩
theorem four {K : Option Addr → Nat → Nat → Option Addr → Nat → Nat → World → Prop} {ys : List Int} {kT kM : Nat} (h : Kp n w0 w T M R L R L.length p c xs C q d ws C o) (okT : fnOk Try.prog kT = true) (okM : fnOk Try.prog kM = true)
    (hT : ∀ w, Tr n w T R L → Calls Try.prog kT #[Pt T.t] w fun e w' => ∃ v, e = .returned v ∧ Fresh w w' v ys ∧ Keep None w w')
    (hM : ∀ w, MRep w M n R L.length → Calls Try.prog kM #[Pt M.m] w fun e w' => ∃ v, e = .returned v ∧ Fresh w w' v ys ∧ Keep None w w')
    (hg : ys.length ≤ 1048576 ∧ ∀ x ∈ ys, (Lit.int .i64 x).wf = true) (hsz : C.length + 2 ≤ 1099511627776)
    (hK : ∀ p' c' q' d' xs' ws' w' o', Kp n w0 w' T M R L R L.length p' c' xs' (C ++ [ys, ys]) q' d' ws' (C ++ [ys, ys]) o' → K p' (C.length + 2) c' q' (C.length + 2) d' w') :
    cl Try.prog kT [Pt T.t] w fun e88 w25 => ∃ (x87 : Option Addr) (x87n x87c : Nat), e88 = Ending.returned (.slice x87 x87n x87c) ∧
      cl Try.prog kT [Pt T.t] w25 fun e90 w26 => ∃ (x89 : Option Addr) (x89n x89c : Nat), e90 = Ending.returned (.slice x89 x89n x89c) ∧
      alc w26 [.slice x87 x87n x87c, .slice x89 x89n x89c] 26 fun b91 w27 =>
      ∃ (x92 : Option Addr) (x92n x92c : Nat), ∃ w28 : World, (Builtin.append_ #[58, 58] 58 #[.slice p C.length c, .slice (some (⟨b91, 0, none⟩ : Addr)) 2 2]).run Try.prog w27 = .ok (.slice x92 x92n x92c) w28 ∧
      cl Try.prog kM [Pt M.m] w28 fun e95 w29 => ∃ (x94 : Option Addr) (x94n x94c : Nat), e95 = Ending.returned (.slice x94 x94n x94c) ∧
      cl Try.prog kM [Pt M.m] w29 fun e97 w30 => ∃ (x96 : Option Addr) (x96n x96c : Nat), e97 = Ending.returned (.slice x96 x96n x96c) ∧
      alc w30 [.slice x94 x94n x94c, .slice x96 x96n x96c] 26 fun b98 w31 =>
      ∃ (x99 : Option Addr) (x99n x99c : Nat), ∃ w32 : World, (Builtin.append_ #[58, 58] 58 #[.slice q C.length d, .slice (some (⟨b98, 0, none⟩ : Addr)) 2 2]).run Try.prog w31 = .ok (.slice x99 x99n x99c) w32 ∧
      K x92 x92n x92c x99 x99n x99c w32 := by
  refine cl_of okT (hT w h.tr) fun e w1 ⟨v, he, ⟨p1, c1, hv, hO1, hf1⟩, k1⟩ => ⟨p1, _, c1, he.trans (congrArg Ending.returned hv), ?_⟩
  obtain ⟨o1, a1, P1, h1⟩ := h.fresh k1 (a := (p1, ys.length, c1)) hO1 hf1 (C.length : Nat)
  refine cl_of okT (hT w1 h1.tr) fun e w2 ⟨v, he, ⟨p2, c2, hv, hO2, hf2⟩, k2⟩ => ⟨p2, _, c2, he.trans (congrArg Ending.returned hv), ?_⟩
  obtain ⟨o2, a2, P2, h2⟩ := h1.fresh k2 (a := (p2, ys.length, c2)) hO2 hf2 ((C.length + 1 : Nat) : Int)
  have P1 := P1.step0 a2 k2
  refine h2.push [((p1, ys.length, c1), ys), ((p2, ys.length, c2), ys)] (fun j a hj => ?_) (fun a ha => ?_) hsz fun p' c' w3 o3 a3 k3 h3 => ?_
  · match j, hj with
    | 0, hj => simp only [List.getElem?_cons_zero, Option.some.injEq] at hj; subst hj; exact P1
    | 1, hj => simp only [List.getElem?_cons_succ, List.getElem?_cons_zero, Option.some.injEq] at hj; subst hj; exact P2
    | j + 2, hj => simp at hj
  · simp only [List.mem_cons, List.not_mem_nil, or_false] at ha
    rcases ha with rfl | rfl <;> exact hg
  refine cl_of okM (hM w3 h3.mr) fun e w4 ⟨v, he, ⟨p4, c4, hv, hO4, hf4⟩, k4⟩ => ⟨p4, _, c4, he.trans (congrArg Ending.returned hv), ?_⟩
  obtain ⟨o4, a4, P4, h4⟩ := h3.fresh k4 (a := (p4, ys.length, c4)) hO4 hf4 (-5)
  refine cl_of okM (hM w4 h4.mr) fun e w5 ⟨v, he, ⟨p5, c5, hv, hO5, hf5⟩, k5⟩ => ⟨p5, _, c5, he.trans (congrArg Ending.returned hv), ?_⟩
  obtain ⟨o5, a5, P5, h5⟩ := h4.fresh k5 (a := (p5, ys.length, c5)) hO5 hf5 (-5)
  have P4 := P4.step0 a5 k5
  refine h5.pushW [((p4, ys.length, c4), ys), ((p5, ys.length, c5), ys)] (fun a ha => ?_) hsz fun q' d' w6 o6 a6 k6 h6 => ?_
  · simp only [List.mem_cons, List.not_mem_nil, or_false] at ha
    rcases ha with rfl | rfl
    · exact P4
    · exact P5
  · exact hK _ _ _ _ _ _ _ _ h6
end

/-- behind a call -/
def Went (n : Nat) (w0 : World) (T0 : TI) (M0 : MI) (N : Nat) (s : (Option Addr × Nat × Nat) × (Option Addr × Nat × Nat)) (w : World) : Prop :=
  ∃ (T : TI) (M : MI) (R : List E) (L : List Int) (xs ws : List Sl) (C : List (List Int)) (o : Nat → Int), s.1.2.1 = C.length ∧ s.2.2.1 = C.length ∧ C.length ≤ N ∧ T.t = T0.t ∧ M.m = M0.m ∧ Kp n w0 w T M R L R L.length s.1.1 s.1.2.2 xs C s.2.1 s.2.2.2 ws C o
theorem Went.keep0 {n : Nat} {w0 w w' : World} {T0 : TI} {M0 : MI} {N : Nat} {s : (Option Addr × Nat × Nat) × (Option Addr × Nat × Nat)} (h : Went n w0 T0 M0 N s w) (k : Keep None w w') : Went n w0 T0 M0 N s w' := by
  obtain ⟨T, M, R, L, xs, ws, C, o, e1, e2, e3, e4, e5, hK⟩ := h
  exact ⟨T, M, R, L, xs, ws, C, o, e1, e2, e3, e4, e5, hK.keep0 k⟩
def Call7 (n : Nat) (w0 : World) (T M : Nat) (b43 : Nat) (s : (Option Addr × Nat × Nat) × (Option Addr × Nat × Nat)) (w14 : World) (x46 : Int) (k33 : (Option Addr × Nat × Nat) × (Option Addr × Nat × Nat) × Unit → World → Prop) : Prop :=
  pif (x46 == 0) (
    ldI .i64 w14 ((⟨b43, 0, none⟩ : Addr).add 2) fun x50 =>
    cl Try.prog 18 [Pt T, .int .i64 x50] w14 fun e52 w15 => ∃ x51 : Int, e52 = Ending.returned (.int .i64 x51) ∧
    ldI .i64 w15 ((⟨b43, 0, none⟩ : Addr).add 2) fun x54 =>
    cl Try.prog 28 [Pt M, .int .i64 x54] w15 fun e56 w16 => ∃ x55 : Int, e56 = Ending.returned (.int .i64 x55) ∧
    k33 ((s.1.1, s.1.2.1, s.1.2.2), (s.2.1, s.2.2.1, s.2.2.2), ()) w16) (
    pif (x46 == 1) (
      ldI .i64 w14 ((⟨b43, 0, none⟩ : Addr).add 2) fun x59 =>
      ldI .i64 w14 ((⟨b43, 0, none⟩ : Addr).add 3) fun x60 =>
      cl Try.prog 26 [Pt T, .int .i64 x59, .int .i64 x60] w14 fun e62 w17 => ∃ x61 : Int, e62 = Ending.returned (.int .i64 x61) ∧
      ldI .i64 w17 ((⟨b43, 0, none⟩ : Addr).add 2) fun x64 =>
      ldI .i64 w17 ((⟨b43, 0, none⟩ : Addr).add 3) fun x65 =>
      cl Try.prog 29 [Pt M, .int .i64 x64, .int .i64 x65] w17 fun e67 w18 => ∃ x66 : Int, e67 = Ending.returned (.int .i64 x66) ∧
      k33 ((s.1.1, s.1.2.1, s.1.2.2), (s.2.1, s.2.2.1, s.2.2.2), ()) w18) (
      pif (x46 == 2) (
        ldI .i64 w14 ((⟨b43, 0, none⟩ : Addr).add 2) fun x70 =>
        cl Try.prog 12 [Pt T, .int .i64 x70] w14 fun e73 w19 => ∃ (x71 : Option Addr) (x71n x71c : Nat), ∃ x72 : Int, e73 = Ending.returned (.tuple #[.slice x71 x71n x71c, .int .i64 x72]) ∧
        ldI .i64 w19 ((⟨b43, 0, none⟩ : Addr).add 2) fun x75 =>
        cl Try.prog 30 [Pt M, .int .i64 x75] w19 fun e78 w20 => ∃ (x76 : Option Addr) (x76n x76c : Nat), ∃ x77 : Int, e78 = Ending.returned (.tuple #[.slice x76 x76n x76c, .int .i64 x77]) ∧
        alc w20 [.slice x71 x71n x71c] 26 fun b80 w21 =>
        ∃ (x81 : Option Addr) (x81n x81c : Nat), ∃ w22 : World, (Builtin.append_ #[58, 58] 58 #[.slice s.1.1 s.1.2.1 s.1.2.2, .slice (some (⟨b80, 0, none⟩ : Addr)) 1 1]).run Try.prog w21 = .ok (.slice x81 x81n x81c) w22 ∧
        alc w22 [.slice x76 x76n x76c] 26 fun b83 w23 =>
        ∃ (x84 : Option Addr) (x84n x84c : Nat), ∃ w24 : World, (Builtin.append_ #[58, 58] 58 #[.slice s.2.1 s.2.2.1 s.2.2.2, .slice (some (⟨b83, 0, none⟩ : Addr)) 1 1]).run Try.prog w23 = .ok (.slice x84 x84n x84c) w24 ∧
        k33 ((x81, x81n, x81c), (x84, x84n, x84c), ()) w24) (
        pif (x46 == 3) (
          cl Try.prog 10 [Pt T] w14 fun e88 w25 => ∃ (x87 : Option Addr) (x87n x87c : Nat), e88 = Ending.returned (.slice x87 x87n x87c) ∧
          cl Try.prog 10 [Pt T] w25 fun e90 w26 => ∃ (x89 : Option Addr) (x89n x89c : Nat), e90 = Ending.returned (.slice x89 x89n x89c) ∧
          alc w26 [.slice x87 x87n x87c, .slice x89 x89n x89c] 26 fun b91 w27 =>
          ∃ (x92 : Option Addr) (x92n x92c : Nat), ∃ w28 : World, (Builtin.append_ #[58, 58] 58 #[.slice s.1.1 s.1.2.1 s.1.2.2, .slice (some (⟨b91, 0, none⟩ : Addr)) 2 2]).run Try.prog w27 = .ok (.slice x92 x92n x92c) w28 ∧
          cl Try.prog 31 [Pt M] w28 fun e95 w29 => ∃ (x94 : Option Addr) (x94n x94c : Nat), e95 = Ending.returned (.slice x94 x94n x94c) ∧
          cl Try.prog 31 [Pt M] w29 fun e97 w30 => ∃ (x96 : Option Addr) (x96n x96c : Nat), e97 = Ending.returned (.slice x96 x96n x96c) ∧
          alc w30 [.slice x94 x94n x94c, .slice x96 x96n x96c] 26 fun b98 w31 =>
          ∃ (x99 : Option Addr) (x99n x99c : Nat), ∃ w32 : World, (Builtin.append_ #[58, 58] 58 #[.slice s.2.1 s.2.2.1 s.2.2.2, .slice (some (⟨b98, 0, none⟩ : Addr)) 2 2]).run Try.prog w31 = .ok (.slice x99 x99n x99c) w32 ∧
          k33 ((x92, x92n, x92c), (x99, x99n, x99c), ()) w32) (
          cl Try.prog 11 [Pt T] w14 fun e102 w33 => ∃ (x101 : Option Addr) (x101n x101c : Nat), e102 = Ending.returned (.slice x101 x101n x101c) ∧
          cl Try.prog 11 [Pt T] w33 fun e104 w34 => ∃ (x103 : Option Addr) (x103n x103c : Nat), e104 = Ending.returned (.slice x103 x103n x103c) ∧
          alc w34 [.slice x101 x101n x101c, .slice x103 x103n x103c] 26 fun b105 w35 =>
          ∃ (x106 : Option Addr) (x106n x106c : Nat), ∃ w36 : World, (Builtin.append_ #[58, 58] 58 #[.slice s.1.1 s.1.2.1 s.1.2.2, .slice (some (⟨b105, 0, none⟩ : Addr)) 2 2]).run Try.prog w35 = .ok (.slice x106 x106n x106c) w36 ∧
          cl Try.prog 32 [Pt M] w36 fun e109 w37 => ∃ (x108 : Option Addr) (x108n x108c : Nat), e109 = Ending.returned (.slice x108 x108n x108c) ∧
          cl Try.prog 32 [Pt M] w37 fun e111 w38 => ∃ (x110 : Option Addr) (x110n x110c : Nat), e111 = Ending.returned (.slice x110 x110n x110c) ∧
          alc w38 [.slice x108 x108n x108c, .slice x110 x110n x110c] 26 fun b112 w39 =>
          ∃ (x113 : Option Addr) (x113n x113c : Nat), ∃ w40 : World, (Builtin.append_ #[58, 58] 58 #[.slice s.2.1 s.2.2.1 s.2.2.2, .slice (some (⟨b112, 0, none⟩ : Addr)) 2 2]).run Try.prog w39 = .ok (.slice x113 x113n x113c) w40 ∧
          k33 ((x106, x106n, x106c), (x113, x113n, x113c), ()) w40))))
theorem call7 {n : Nat} {w0 w6 w : World} {T0 : TI} {M0 : MI} {N : Nat} {s : (Option Addr × Nat × Nat) × (Option Addr × Nat × Nat)} (h : Went n w0 T0 M0 N s w6) (k6 : Keep None w6 w) {b : Nat} (hbn : w6.heap.size ≤ b) {on kd x y : Int} {v5 : Value} (hB : Blk w b [I on, I kd, I x, I y, v5] 60) (hx : i64 x) (hy : i64 y) (hN : N ≤ 1099511627000)
    (kk : Int)
    {K : (Option Addr × Nat × Nat) × (Option Addr × Nat × Nat) × Unit → World → Prop} (hK : ∀ s' w', Went n w0 T0 M0 (N + 2) (s'.1, s'.2.1) w' → K s' w') : Call7 n w0 T0.t M0.m b s w kk K := by
  obtain ⟨T, M, R, L, xs, ws, C, o, e1, e2, hCN, e4, e5, h⟩ := h
  have hb : ∀ i, T.F i ∨ M.F i → i ≠ b := fun i hi => by
    rcases hi with hi | hi
    · have := h.tr.lt i hi; omega
    · have := h.mr.lt i hi; omega
  have h := h.keep0 k6
  unfold Call7
  rw [e1, e2, ← e4, ← e5]
  simp only [add_mk, Nat.zero_add, Nat.add_zero]
  have hB2 := h.b2
  have hs := h.tr.small
  have fin : ∀ {T' M' R' L' xs' ws' w' o'}, T'.t = T.t → M'.m = M.m → Kp n w0 w' T' M' R' L' R' (L'.length : Int) s.1.1 s.1.2.2 xs' C s.2.1 s.2.2.2 ws' C o' → K ((s.1.1, C.length, s.1.2.2), (s.2.1, C.length, s.2.2.2), ()) w' := fun h1 h2 h3 =>
    hK _ _ ⟨_, _, _, _, _, _, _, _, rfl, rfl, by omega, h1.trans e4, h2.trans e5, h3⟩
  refine pif_of (fun _ => ?_) fun _ => ?_
  · refine ldI_of (hB.cell 2) ?_
    refine cl_of ok18 (h.tr.decide x hx.1) fun e w3 ⟨he, hl⟩ => ⟨_, he, ?_⟩
    have hB3 := hB.keep hl.1 fun hh => hb b (Or.inl hh) rfl
    obtain ⟨T1, o1, t1, a1, k1, h1⟩ := h.turnT hl
    refine ldI_of (hB3.cell 2) ?_
    refine cl_of ok28 (decide28 h1.mr x hx hB2.rlen hB2.lit (by omega)) fun e w4 ⟨he, hl2⟩ => ⟨_, he, ?_⟩
    have ee : (if freeA n R x = 0 then (L.length : Int) + 1 else (L.length : Int)) = ((if freeA n R x = 0 then L ++ [(R.length : Int)] else L).length : Int) := by
      split
      · rw [List.length_append]; simp
      · rfl
    rw [ee] at hl2
    obtain ⟨M1, o2, m1, a2, k2, h2⟩ := h1.turnM hl2
    exact fin t1 m1 h2
  refine pif_of (fun _ => ?_) fun _ => ?_
  · refine ldI_of (hB.cell 2) (ldI_of (hB.cell 3) ?_)
    refine cl_of ok26 (h.tr.imply x y hx.1) fun e w3 ⟨he, hl⟩ => ⟨_, he, ?_⟩
    have hB3 := hB.keep hl.1 fun hh => hb b (Or.inl hh) rfl
    obtain ⟨T1, o1, t1, a1, k1, h1⟩ := h.turnT hl
    refine ldI_of (hB3.cell 2) (ldI_of (hB3.cell 3) ?_)
    refine cl_of ok29 (imply29 h1.mr x y hx hB2.rlen hB2.lit) fun e w4 ⟨he, hl2⟩ => ⟨_, he, ?_⟩
    obtain ⟨M1, o2, m1, a2, k2, h2⟩ := h1.turnM hl2
    exact fin t1 m1 h2
  refine pif_of (fun _ => ?_) fun _ => ?_
  · refine ldI_of (hB.cell 2) ?_
    -- both lists laid behind
    have two : ∀ {T1 : TI} {M1 : MI} {R1 : List E} {L1 : List Int} {w4 : World} {o4 : Nat → Int} {a1 a2 : Sl} {ys : List Int}, T1.t = T.t → M1.m = M.m → Kp n w0 w4 T1 M1 R1 L1 R1 (L1.length : Int) s.1.1 s.1.2.2 xs C s.2.1 s.2.2.2 ws C o4 →
        Pend w4 o4 (C.length : Nat) a1 ys → Pend w4 o4 (-5) a2 ys → (ys.length ≤ 1048576 ∧ ∀ x ∈ ys, (Lit.int .i64 x).wf = true) →
        alc w4 [.slice a1.1 a1.2.1 a1.2.2] 26 fun b80 w21 =>
        ∃ (x81 : Option Addr) (x81n x81c : Nat), ∃ w22 : World, (Builtin.append_ #[58, 58] 58 #[.slice s.1.1 C.length s.1.2.2, .slice (some (⟨b80, 0, none⟩ : Addr)) 1 1]).run Try.prog w21 = .ok (.slice x81 x81n x81c) w22 ∧
        alc w22 [.slice a2.1 a2.2.1 a2.2.2] 26 fun b83 w23 =>
        ∃ (x84 : Option Addr) (x84n x84c : Nat), ∃ w24 : World, (Builtin.append_ #[58, 58] 58 #[.slice s.2.1 C.length s.2.2.2, .slice (some (⟨b83, 0, none⟩ : Addr)) 1 1]).run Try.prog w23 = .ok (.slice x84 x84n x84c) w24 ∧
        K ((x81, x81n, x81c), (x84, x84n, x84c), ()) w24 := by
      intro T1 M1 R1 L1 w4 o4 a1 a2 ys t1 m1 h4 P1 P2 hg
      refine h4.push [(a1, ys)] (fun j a hj => ?_) (fun a ha => ?_) (by simp only [List.length_singleton]; omega) fun p' c' w5 o5 a5 k5 h5 => ?_
      · match j, hj with
        | 0, hj => simp only [List.getElem?_cons_zero, Option.some.injEq] at hj; subst hj; exact P1
        | j + 1, hj => simp at hj
      · simp only [List.mem_singleton] at ha; subst ha; exact hg
      refine h5.pushW [(a2, ys)] (fun a ha => ?_) (by simp only [List.length_singleton]; omega) fun q' d' w6 o6 a6 k6 h6 => ?_
      · simp only [List.mem_singleton] at ha; subst ha
        refine P2.step a5 k5 (t := -1) (fun i hi hp => h4.ls.ow i hp) (by decide)
      · refine hK _ _ ⟨_, _, _, _, _, _, _, _, ?_, ?_, ?_, t1.trans e4, m1.trans e5, h6⟩
        · simp
        · simp
        · simp; omega
    by_cases hr : 0 ≤ x ∧ x ≤ L.length
    · refine cl_of ok12 (h.tr.back hr.1 hr.2) fun e w3 ⟨p1, c1, he, hO1, hf1, k3, hT3⟩ => ⟨_, _, _, _, he, ?_⟩
      have hB3 := hB.keep k3 fun hh => hb b (Or.inl hh) rfl
      have el : (lits (above x R)).reverse.length = (above x R).length := by rw [List.length_reverse, lits_len]
      obtain ⟨o3, a3, P3, h3⟩ := h.gaveT (a := (p1, (above x R).length, c1)) (ys := (lits (above x R)).reverse) hO1 hf1 k3 hT3 (C.length : Nat)
      refine ldI_of (hB3.cell 2) ?_
      refine cl_of ok30 (back30 h3.mr hr.1 hr.2 hB2.rlen) fun e w4 ⟨v, he, p2, c2, hv, hO2, hf2, k4, M', m4, hM4, hd4⟩ => ⟨p2, _, c2, _, he.trans (congrArg Ending.returned hv), ?_⟩
      obtain ⟨o4, a4, P4, h4⟩ := h3.gaveM (a := (p2, (lits (above x R)).reverse.length, c2)) (ys := (lits (above x R)).reverse) hO2 hf2 k4 m4 hM4 hd4
      have P3 := P3.step a4 k4 (t := -6) (fun i _ hi => h3.om i hi) (by omega)
      have eL : x = ((L.take x.toNat).length : Int) := by rw [List.length_take]; omega
      have h4' : Kp n w0 w4 T M' (upto x R) (L.take x.toNat) (upto x R) ((L.take x.toNat).length : Int) s.1.1 s.1.2.2 xs C s.2.1 s.2.2.2 ws C o4 := by rw [← eL]; exact h4
      refine two rfl m4.1 h4' P3 P4 ⟨?_, fun y hy => ?_⟩
      · rw [el]
        unfold above
        have := List.length_filter_le (fun e : E => decide (x < e.lv)) R
        omega
      · rw [List.mem_reverse] at hy
        obtain ⟨e, he, rfl⟩ := List.mem_map.1 hy
        unfold above at he
        have := hB2.lit e (List.mem_filter.1 he).1
        exact wf_small (by omega)
    · have ho : x < 0 ∨ (L.length : Int) < x := by omega
      refine cl_of ok12 (h.tr.back_out ho) fun e w3 ⟨he, hw⟩ => ⟨_, _, _, _, he, ?_⟩
      subst hw
      refine ldI_of (hB.cell 2) ?_
      refine cl_of ok30 (mback_out h.mr ho) fun e w4 ⟨he, hw⟩ => ⟨_, _, _, _, he, ?_⟩
      subst hw
      have Pn : ∀ tag, Pend w4 o tag (none, 0, 0) [] := fun tag => ⟨Own.nil _ _ _, fun i ⟨a, hh, _⟩ => by cases hh⟩
      exact two (a1 := (none, 0, 0)) (a2 := (none, 0, 0)) rfl rfl h (Pn _) (Pn _) ⟨by simp, fun x hx => by cases hx⟩
  have fin4 : ∀ {ys p' c' q' d' xs' ws' w' o'}, Kp n w0 w' T M R L R (L.length : Int) p' c' xs' (C ++ [ys, ys]) q' d' ws' (C ++ [ys, ys]) o' → K ((p', C.length + 2, c'), (q', C.length + 2, d'), ()) w' := fun h3 =>
    hK _ _ ⟨_, _, _, _, _, _, _, _, by simp, by simp, by simp; omega, e4, e5, h3⟩
  refine pif_of (fun _ => ?_) fun _ => ?_
  · refine four (K := fun p' n' c' q' m' d' w' => K ((p', n', c'), (q', m', d'), ()) w') h ok10 ok31 (fun w' h' => h'.lits) (fun w' h' => lits31 h' hB2.rlen) ⟨by rw [lits_len]; omega, fun x hx => h.tr.wfL x hx⟩ (by omega) fun p' c' q' d' xs' ws' w' o' h' => fin4 h'
  · refine four (K := fun p' n' c' q' m' d' w' => K ((p', n', c'), (q', m', d'), ()) w') h ok11 ok32 (fun w' h' => h'.marks) (fun w' h' => ?_) ⟨by omega, fun x hx => h.tr.wfM x hx⟩ (by omega) fun p' c' q' d' xs' ws' w' o' h' => fin4 h'
    have := marks32 h' hB2.rlen
    rw [h.tr.st.marks] at this
    exact this
end Go.Proofs.Ytioaaeianjgaoaa.Trail
