/- TrailKeeps: Look of a lent list; what of both trails and the lists that went out is kept, call by call. -/
import Derived.Test.YtioaaeianjgaoaaLent
import Derived.Test.YtioaaeianjgaoaaOpen2
import Derived.Test.YtioaaeianjgaoaaUndo2
set_option linter.unusedVariables false
set_option linter.unusedSimpArgs false
set_option maxRecDepth 100000
namespace Go.Proofs.Ytioaaeianjgaoaa.Trail
open Go Go.Proofs.Ytioaaeianjgaoaa.Vc Go.Proofs.Ytioaaeianjgaoaa.T Go.Proofs.Ytioaaeianjgaoaa.Apart

theorem SlL.rdl {w : World} {p : Option Addr} {n : Nat} {cs : List Int} (h : SlL w p n cs) : RdL w p n cs := ⟨h.len, h.cell⟩
theorem wrap_wf (x : Int) : (Lit.int .i64 (IntKind.wrap .i64 x)).wf = true := by
  have h : i64 (IntKind.wrap .i64 x) := by rw [IntKind.wrap_i64]; constructor <;> omega
  have h1 := h.1
  have h2 := h.2
  simp [Lit.wf, IntKind.min, IntKind.max, IntKind.signed, IntKind.bits]
  omega
section
variable {n : Nat} {w : World} {T : TI} {M : MI} {R : List E} {L : List Int}
theorem looks33 (h : B2 n w T M R L) {p : Option Addr} {nc c : Nat} {cs : List Int} (hc : SlL w p nc cs) (hn : nc ≤ 1099511627776) :
    Calls Try.prog 33 #[Pt T.t, Pt M.m, .slice p nc c] w fun e w' => e = .returned (.bool true) ∧ Keep None w w' := by
  refine (V33_calls (some ⟨T.t, 0, none⟩) (some ⟨M.m, 0, none⟩) p nc c w (fun v w' => v = .bool true ∧ Keep None w w') ?_).mono fun e w' ⟨v, he, hv, hk⟩ => ⟨by rw [he, hv], hk⟩
  unfold V33
  have hlen := hc.len
  refine cl_of ok43 (lent hc.rdl hn) fun e w1 ⟨v, he, q, d, hv, hO, hnew, k1⟩ => ?_
  have el : (cs ++ mks 0 64).length = nc + 64 := by rw [List.length_append, mks_len, hlen]
  rw [el] at hv hO
  have hle := hO.le
  refine ⟨q, _, d, he.trans (congrArg Ending.returned hv), by omega, by omega, ?_⟩
  rw [slA_zero, Nat.sub_zero, Nat.sub_zero, Int.toNat_natCast]
  have h1 := h.keep0 k1
  have cut : ∀ {w' : World}, Own w' 3 1 q (nc + 64) d ((cs ++ mks 0 64).map I) → SlL w' q nc cs := fun hO' => by
    have := hO'.cut (m := nc) (by omega)
    rw [Nat.mul_one, ← List.map_take, List.take_left' hlen] at this
    exact Own.slL this hc.wf
  refine cl_of ok24 (h1.tr.look (cut hO)) fun e w2 ⟨v, he, hv2, k2⟩ => ⟨_, _, he.trans (congrArg Ending.returned hv2), by omega, by omega, ?_⟩
  have h2 := h1.keep0 k2
  have hO2 := hO.keep0 k2
  refine cl_of ok24 (h2.tr.look (cut hO2)) fun e w3 ⟨v, he, hv3, k3⟩ => ⟨_, _, he.trans (congrArg Ending.returned hv3), ?_⟩
  have h3 := h2.keep0 k3
  have hO3 := hO2.keep0 k3
  have k03 := (k1.then0 k2).then0 k3
  refine cl_of ok44 (look44 h3.mr h3.rlen h3.lit (hc.keep0 k03)) fun e w4 ⟨v, he, hv4, k4⟩ => ⟨_, _, he.trans (congrArg Ending.returned hv4), ?_⟩
  have h4 := h3.keep0 k4
  have hO4 := hO3.keep0 k4
  have k04 := k03.then0 k4
  generalize lookA n R cs = la
  have eb : (!(cond (cond (cond (la.1 != la.1) true (la.1 != la.1)) true (la.2 != la.2)) true (la.2 != la.2))) = true := by simp
  refine gd_t eb (cl_of ok45 (kept (hc.rdl.keep0 k04) (own_rdl hO4) hn) fun e w5 ⟨he, k5⟩ => ⟨_, he, pif_f (by simp) ?_⟩)
  have h5 := h4.keep0 k5
  have hO5 := hO4.keep0 k5
  have k05 := k04.then0 k5
  have hqT : ∀ i, ob q i → ¬ FF T M i := fun i hi hh => by have := hnew i hi; have := h.lt i hh; omega
  let ng : Int → Int := fun x => IntKind.wrap .i64 (0 - x)
  refine lp_of (fun s w6 => ∃ (i : Nat) (ys : List Int), s.1 = i ∧ i ≤ nc ∧ Own w6 3 1 q (nc + 64) d ((ys ++ mks 0 64).map I) ∧ ys = (cs.take i).map ng ++ cs.drop i ∧ Keep None w w6 ∧ B2 n w6 T M R L) (fun s _ => (nc - s.1).toNat)
    ⟨0, cs, rfl, Nat.zero_le _, hO5, by simp, k05, h5⟩ ?_
  rintro ⟨i', ⟨⟩⟩ w6 ⟨i, ys, rfl, hi, hO6, hys, k6, h6⟩
  simp only []
  have hyl : ys.length = nc := by rw [hys]; simp; omega
  refine pif_of (fun hlt => ?_) fun hge => ?_
  · have hlt : i < nc := by simpa using hlt
    rw [wrap_nat i (by omega)]
    refine (own_rdl hO6).ix (by omega) fun a x hx ha => ldI_of ha ?_
    rw [List.getElem?_append_left (by omega)] at hx
    have hcx : cs[i]? = some x := by
      rw [hys, List.getElem?_append_right (by simp; omega), List.getElem?_drop] at hx
      rw [← hx]; congr 1; simp; omega
    refine own_wr (x := (q, nc + 64, d)) hO6 (by simp only []; omega) fun w7 hO7 k7 => ?_
    refine ⟨⟨i + 1, ys.set i (ng x), rfl, hlt, ?_, ?_, ?_, ?_⟩, by omega⟩
    · rw [List.set_append_left _ _ (by omega)] at hO7
      exact hO7
    · rw [hys, take_snoc hcx, List.map_append, List.map_singleton, List.append_assoc, List.set_append_right _ _ (by simp only [List.length_map, List.length_take]; omega)]
      congr 1
      have ed : cs.drop i = x :: cs.drop (i + 1) := by
        have hil : i < cs.length := by omega
        rw [List.drop_eq_getElem_cons hil]
        rw [List.getElem?_eq_getElem hil] at hcx
        injection hcx with hcx
        rw [hcx]
      rw [ed]
      have : i - ((cs.take i).map ng).length = 0 := by simp; omega
      rw [this]; rfl
    · exact k6.trans k7 fun j hj hh => by have := hnew j hh; omega
    · exact h6.keep k7 fun j hj hh => hqT j hh hj
  · have hge : i = nc := by simp at hge; omega
    subst hge
    rw [← hlen, List.take_length, List.drop_length, List.append_nil] at hys
    subst hys
    have wfn : ∀ x ∈ cs.map ng, (Lit.int .i64 x).wf = true := fun x hx => by
      obtain ⟨y, _, rfl⟩ := List.mem_map.1 hx
      exact wrap_wf _
    have cut2 : ∀ {w' : World}, Own w' 3 1 q (i + 64) d ((cs.map ng ++ mks 0 64).map I) → Own w' 3 1 q i d ((cs.map ng).map I) := fun hO' => by
      have := hO'.cut (m := i) (by omega)
      rw [Nat.mul_one, ← List.map_take, List.take_left' (by simpa using hlen)] at this
      exact this
    have ql : ∀ {w' : World}, Own w' 3 1 q (i + 64) d ((cs.map ng ++ mks 0 64).map I) → SlL w' q i (cs.map ng) := fun hO' => Own.slL (cut2 hO') wfn
    refine ⟨by omega, by omega, cl_of ok24 (h6.tr.look (ql hO6)) fun e w7 ⟨v, he, hv7, k7⟩ => ⟨_, _, he.trans (congrArg Ending.returned hv7), by omega, by omega, ?_⟩⟩
    have h7 := h6.keep0 k7
    have hO7 := hO6.keep0 k7
    refine cl_of ok24 (h7.tr.look (ql hO7)) fun e w8 ⟨v, he, hv8, k8⟩ => ⟨_, _, he.trans (congrArg Ending.returned hv8), by omega, by omega, ?_⟩
    have h8 := h7.keep0 k8
    have hO8 := hO7.keep0 k8
    refine cl_of ok46 (copy (own_rdl (cut2 hO8)) hn) fun e w9 ⟨v, he, r, rc, hv9, hO9, _, k9⟩ => ⟨r, _, rc, he.trans (congrArg Ending.returned hv9), ?_⟩
    have h9 := h8.keep0 k9
    refine cl_of ok44 (look44 h9.mr h9.rlen h9.lit (Own.slL hO9 wfn)) fun e wa ⟨v, he, hva, ka⟩ => ⟨_, _, he.trans (congrArg Ending.returned hva), ?_⟩
    exact ⟨by simp, (((k6.then0 k7).then0 k8).then0 k9).then0 ka⟩
end

/-- the document's lists -/
structure Wn (w : World) (q : Option Addr) (m d : Nat) (ws : List Sl) (C : List (List Int)) (o : Nat → Int) : Prop where
  out : Own w 26 1 q m d (ws.map sv)
  each : ∀ (k : Nat) (x : Sl), ws[k]? = some x → ∃ ys, Own w 3 1 x.1 x.2.1 x.2.2 (ys.map J) ∧ C[k]? = some ys
  ow : ∀ i, ob q i → o i = -4
  oe : ∀ (k : Nat) (x : Sl), ws[k]? = some x → ∀ i, ob x.1 i → o i = -5
/-- all that there is -/
structure Kp (n : Nat) (w0 w : World) (T : TI) (M : MI) (R : List E) (L : List Int) (R2 : List E) (now : Int) (p : Option Addr) (c : Nat) (xs : List Sl) (C1 : List (List Int)) (q : Option Addr) (d : Nat) (ws : List Sl) (C2 : List (List Int)) (o : Nat → Int) : Prop where
  tr : Tr n w T R L
  mr : MRep w M n R2 now
  ls : Ls w (-1) p C1.length c xs (fun k ys => C1[k]? = some ys) o
  wn : Wn w q C2.length d ws C2 o
  ot : ∀ i, T.F i → o i = -3
  om : ∀ i, M.F i → o i = -6
  old : ∀ i, i < w0.heap.size → o i = -9
  keep : Keep None w0 w
  good : ∀ l ∈ C1, l.length ≤ 1048576 ∧ ∀ x ∈ l, (Lit.int .i64 x).wf = true
/-- a list that is not yet among them -/
def Pend (w : World) (o : Nat → Int) (tag : Int) (a : Sl) (ys : List Int) : Prop := Own w 3 1 a.1 a.2.1 a.2.2 (ys.map J) ∧ ∀ i, ob a.1 i → o i = tag
theorem Pend.step {w w1 : World} {o o' : Nat → Int} {tag t : Int} {a : Sl} {ys : List Int} {S : Nat → Prop} (h : Pend w o tag a ys) (ha : Ag w o o') (hk : Keep S w w1) (hS : ∀ i, i < w.heap.size → S i → o i = t) (hne : t ≠ tag) : Pend w1 o' tag a ys :=
  ⟨h.1.keep hk fun i hi hs => by have := h.2 i hi; have := hS i (h.1.lt i hi) hs; omega, fun i hi => by rw [ha i (h.1.lt i hi)]; exact h.2 i hi⟩
theorem Pend.step0 {w w1 : World} {o o' : Nat → Int} {tag : Int} {a : Sl} {ys : List Int} (h : Pend w o tag a ys) (ha : Ag w o o') (hk : Keep None w w1) : Pend w1 o' tag a ys :=
  ⟨h.1.keep0 hk, fun i hi => by rw [ha i (h.1.lt i hi)]; exact h.2 i hi⟩
section
variable {n : Nat} {w0 w w1 : World} {T : TI} {M : MI} {R R2 R' : List E} {L L' : List Int} {now now' : Int} {p q : Option Addr} {c d : Nat} {xs ws : List Sl} {C1 C2 : List (List Int)} {o o' : Nat → Int} {S : Nat → Prop} {t : Int}
theorem lsO {Y : Nat → List Int → Prop} (h : Ls w (-1) p n c xs Y o) (ha : Ag w o o') (hk : Keep S w w1) (hS : ∀ i, i < w.heap.size → S i → o i = t) (ht : t < 0 ∧ t ≠ -1) : Ls w1 (-1) p n c xs Y o' := by
  refine ⟨h.out.keep hk fun i hi hs => by have := h.ow i hi; have := hS i (h.out.lt i hi) hs; omega, fun k x hx => ?_, fun i hi => by rw [ha i (h.out.lt i hi)]; exact h.ow i hi, fun k x hx i hi => ?_⟩
  · obtain ⟨ys, hO, hy⟩ := h.each k x hx
    exact ⟨ys, hO.keep hk fun i hi hs => by have := h.oe k x hx i hi; have := hS i (hO.lt i hi) hs; omega, hy⟩
  · obtain ⟨ys, hO, hy⟩ := h.each k x hx
    rw [ha i (hO.lt i hi)]; exact h.oe k x hx i hi
theorem wnO {m : Nat} (h : Wn w q m d ws C2 o) (ha : Ag w o o') (hk : Keep S w w1) (hS : ∀ i, i < w.heap.size → S i → o i = t) (ht : t ≠ -4 ∧ t ≠ -5) : Wn w1 q m d ws C2 o' := by
  refine ⟨h.out.keep hk fun i hi hs => by have := h.ow i hi; have := hS i (h.out.lt i hi) hs; omega, fun k x hx => ?_, fun i hi => by rw [ha i (h.out.lt i hi)]; exact h.ow i hi, fun k x hx i hi => ?_⟩
  · obtain ⟨ys, hO, hy⟩ := h.each k x hx
    exact ⟨ys, hO.keep hk fun i hi hs => by have := h.oe k x hx i hi; have := hS i (hO.lt i hi) hs; omega, hy⟩
  · obtain ⟨ys, hO, hy⟩ := h.each k x hx
    rw [ha i (hO.lt i hi)]; exact h.oe k x hx i hi
theorem Kp.oldO (h : Kp n w0 w T M R L R2 now p c xs C1 q d ws C2 o) (ha : Ag w o o') : ∀ i, i < w0.heap.size → o' i = -9 := fun i hi => by
  rw [ha i (Nat.lt_of_lt_of_le hi h.keep.size)]; exact h.old i hi
theorem Kp.keepO (h : Kp n w0 w T M R L R2 now p c xs C1 q d ws C2 o) (hk : Keep S w w1) (hS : ∀ i, i < w.heap.size → S i → o i = t) (ht : t ≠ -9) : Keep None w0 w1 :=
  h.keep.trans hk fun i hi hs => by have := h.old i hi; have := hS i (Nat.lt_of_lt_of_le hi h.keep.size) hs; omega
/-- the program's trail goes on -/
theorem Kp.turnT (h : Kp n w0 w T M R L R2 now p c xs C1 q d ws C2 o) (hl : TLaid w T n R' L' w1) : ∃ T' o', T'.t = T.t ∧ Ag w o o' ∧ Keep T.F w w1 ∧ Kp n w0 w1 T' M R' L' R2 now p c xs C1 q d ws C2 o' := by
  obtain ⟨k, T', m, hT⟩ := hl
  have hS : ∀ i, i < w.heap.size → T.F i → o i = -3 := fun i _ hi => h.ot i hi
  let o' : Nat → Int := fun i => if i < w.heap.size then o i else -3
  have ha : Ag w o o' := fun i hi => if_pos hi
  refine ⟨T', o', m.1, ha, k, ⟨hT, h.mr.keep k fun i hm ht => by have := h.ot i ht; have := h.om i hm; omega, lsO h.ls ha k hS ⟨by decide, by decide⟩, wnO h.wn ha k hS ⟨by decide, by decide⟩, fun i hi => ?_, fun i hi => ?_, h.oldO ha, h.keepO k hS (by decide), h.good⟩⟩
  · show (if i < w.heap.size then o i else -3) = -3
    split
    · rename_i hlt
      rcases m.2 i hi with hh | hh
      · exact h.ot i hh
      · omega
    · rfl
  · rw [ha i (h.mr.lt i hi)]; exact h.om i hi
theorem Kp.turnM (h : Kp n w0 w T M R L R2 now p c xs C1 q d ws C2 o) (hl : MLaid w M n R' now' w1) : ∃ M' o', M'.m = M.m ∧ Ag w o o' ∧ Keep M.F w w1 ∧ Kp n w0 w1 T M' R L R' now' p c xs C1 q d ws C2 o' := by
  obtain ⟨k, M', m, hM⟩ := hl
  have hS : ∀ i, i < w.heap.size → M.F i → o i = -6 := fun i _ hi => h.om i hi
  let o' : Nat → Int := fun i => if i < w.heap.size then o i else -6
  have ha : Ag w o o' := fun i hi => if_pos hi
  refine ⟨M', o', m.1, ha, k, ⟨h.tr.keep k fun i ht hm => by have := h.ot i ht; have := h.om i hm; omega, hM, lsO h.ls ha k hS ⟨by decide, by decide⟩, wnO h.wn ha k hS ⟨by decide, by decide⟩, fun i hi => ?_, fun i hi => ?_, h.oldO ha, h.keepO k hS (by decide), h.good⟩⟩
  · rw [ha i (h.tr.lt i hi)]; exact h.ot i hi
  · show (if i < w.heap.size then o i else -6) = -6
    split
    · rename_i hlt
      rcases m.2 i hi with hh | hh
      · exact h.om i hh
      · omega
    · rfl
/-- a step that keeps all: new blocks are whosever -/
theorem Kp.same (h : Kp n w0 w T M R L R2 now p c xs C1 q d ws C2 o) (k : Keep None w w1) (ha : Ag w o o') : Kp n w0 w1 T M R L R2 now p c xs C1 q d ws C2 o' :=
  ⟨h.tr.keep0 k, h.mr.keep0 k, lsO (t := -7) h.ls ha k (fun i _ hi => hi.elim) ⟨by decide, by decide⟩, wnO (t := -7) h.wn ha k (fun i _ hi => hi.elim) ⟨by decide, by decide⟩, fun i hi => by rw [ha i (h.tr.lt i hi)]; exact h.ot i hi,
    fun i hi => by rw [ha i (h.mr.lt i hi)]; exact h.om i hi, h.oldO ha, h.keep.then0 k, h.good⟩
theorem Kp.keep0 (h : Kp n w0 w T M R L R2 now p c xs C1 q d ws C2 o) (k : Keep None w w1) : Kp n w0 w1 T M R L R2 now p c xs C1 q d ws C2 o := h.same k fun _ _ => rfl
/-- a new list, of an owner of its own -/
theorem Kp.fresh (h : Kp n w0 w T M R L R2 now p c xs C1 q d ws C2 o) (k : Keep None w w1) {a : Sl} {ys : List Int} (hO : Own w1 3 1 a.1 a.2.1 a.2.2 (ys.map J)) (hn : ∀ i, ob a.1 i → w.heap.size ≤ i) (tag : Int) :
    ∃ o', Ag w o o' ∧ Pend w1 o' tag a ys ∧ Kp n w0 w1 T M R L R2 now p c xs C1 q d ws C2 o' :=
  have ha : Ag w o fun i => if i < w.heap.size then o i else tag := fun i hi => if_pos hi
  ⟨fun i => if i < w.heap.size then o i else tag, ha, ⟨hO, fun i hi => if_neg (by have := hn i hi; omega)⟩, h.same k ha⟩

/-- lists are laid behind the program's -/
theorem Kp.push {K : Option Addr → Nat → Nat → World → Prop} (h : Kp n w0 w T M R L R2 now p c xs C1 q d ws C2 o) (As : List (Sl × List Int)) (hA : ∀ (j : Nat) (a : Sl × List Int), As[j]? = some a → Pend w o ((C1.length + j : Nat) : Int) a.1 a.2)
    (hg : ∀ a ∈ As, a.2.length ≤ 1048576 ∧ ∀ x ∈ a.2, (Lit.int .i64 x).wf = true) (hsz : C1.length + As.length ≤ 1099511627776)
    (hK : ∀ p' c' w' o', Ag w o o' → Keep (ob p) w w' → Kp n w0 w' T M R L R2 now p' c' (xs ++ As.map fun a => a.1) (C1 ++ As.map fun a => a.2) q d ws C2 o' → K p' (C1.length + As.length) c' w') :
    alc w (As.map fun a => sv a.1) 26 fun b w7 => ∃ (p' : Option Addr) (n' c' : Nat), ∃ w' : World, (Builtin.append_ #[58, 58] 58 #[.slice p C1.length c, .slice (some ⟨b, 0, none⟩) As.length As.length]).run Try.prog w7 = .ok (.slice p' n' c') w' ∧ K p' n' c' w' := by
  refine alc_at fun b w7 hb7 h7 k7 => ?_
  have z7 := k7.size
  have h' := h.keep0 k7
  have hN : News w7 1 (some ⟨b, 0, none⟩) As.length As.length (As.map fun a => sv a.1) := Or.inr ⟨_, rfl, by simp, fun j u hu => by
    rw [add_mk, Nat.zero_add, h7.cell]; exact hu⟩
  refine app_of2 (e := 26) (sz := 1) (z := .slice none 0 0) (B := 24) Try.underlying58 (by kernel_rfl) rfl (by omega) h'.ls.out hN (fun u hu => ?_) (by simp only [maxLen]; omega) (by omega) fun p' c' w' hO' hd => ?_
  · obtain ⟨a, _, rfl⟩ := List.mem_map.1 hu; rfl
  have hkp : Keep (ob p) w7 w' := by
    rcases hd with ⟨e1, e2, _, k⟩ | ⟨e1, k⟩
    · exact k
    · exact k.none
  have hnew : ∀ i, ob p' i → ob p i ∨ w7.heap.size ≤ i := fun i hi => by
    rcases hd with ⟨e1, e2, _, k⟩ | ⟨e1, k⟩
    · rw [e1] at hi; exact Or.inl hi
    · exact Or.inr (e1 i hi)
  have hS : ∀ i, i < w7.heap.size → ob p i → o i = -1 := fun i _ hi => h.ls.ow i hi
  let o' : Nat → Int := fun i => if i < w7.heap.size then o i else -1
  have ha7 : Ag w7 o o' := fun i hi => if_pos hi
  have ha : Ag w o o' := fun i hi => ha7 i (by omega)
  have hxl : xs.length = C1.length := h.ls.len
  refine hK p' c' w' o' ha ((k7.none).trans hkp fun _ _ hh => hh) ⟨h'.tr.keep hkp fun i hi hh => by have := h.ot i hi; have := h.ls.ow i hh; omega, h'.mr.keep hkp fun i hi hh => by have := h.om i hi; have := h.ls.ow i hh; omega, ⟨?_, fun k x hx => ?_, fun i hi => ?_, fun k x hx i hi => ?_⟩,
    wnO h'.wn ha7 hkp hS ⟨by decide, by decide⟩, fun i hi => by rw [ha7 i (h'.tr.lt i hi)]; exact h.ot i hi, fun i hi => by rw [ha7 i (h'.mr.lt i hi)]; exact h.om i hi, h'.oldO ha7, h'.keepO hkp hS (by decide), fun l hl => ?_⟩
  · rw [List.length_append, List.length_map, List.map_append, List.map_map]
    exact hO'
  · by_cases hk : k < xs.length
    · rw [List.getElem?_append_left hk] at hx
      obtain ⟨ys, hO, hy⟩ := h'.ls.each k x hx
      refine ⟨ys, hO.keep hkp fun i hi hs => by have := h'.ls.oe k x hx i hi; have := h.ls.ow i hs; omega, ?_⟩
      rw [List.getElem?_append_left (by omega)]; exact hy
    · rw [List.getElem?_append_right (by omega), List.getElem?_map] at hx
      obtain ⟨a, ha1, rfl⟩ := Option.map_eq_some_iff.1 hx
      have hp := hA _ a ha1
      refine ⟨a.2, (hp.1.keep0 k7).keep hkp fun i hi hs => by have := hp.2 i hi; have := h.ls.ow i hs; omega, ?_⟩
      rw [List.getElem?_append_right (by omega), List.getElem?_map, ← hxl, ha1]; rfl
  · rcases hnew i hi with hh | hh
    · rw [ha7 i (h'.ls.out.lt i hh)]; exact h.ls.ow i hh
    · exact if_neg (by omega)
  · by_cases hk : k < xs.length
    · rw [List.getElem?_append_left hk] at hx
      obtain ⟨ys, hO, hy⟩ := h'.ls.each k x hx
      rw [ha7 i (hO.lt i hi)]; exact h.ls.oe k x hx i hi
    · rw [List.getElem?_append_right (by omega), List.getElem?_map] at hx
      obtain ⟨a, ha1, rfl⟩ := Option.map_eq_some_iff.1 hx
      have hp := hA _ a ha1
      rw [ha i (hp.1.lt i hi), hp.2 i hi]
      omega
  · rcases List.mem_append.1 hl with hl | hl
    · exact h.good l hl
    · obtain ⟨a, ha1, rfl⟩ := List.mem_map.1 hl
      exact hg a ha1
/-- .. behind the document's -/
theorem Kp.pushW {K : Option Addr → Nat → Nat → World → Prop} (h : Kp n w0 w T M R L R2 now p c xs C1 q d ws C2 o) (As : List (Sl × List Int)) (hA : ∀ a ∈ As, Pend w o (-5) a.1 a.2)
    (hsz : C2.length + As.length ≤ 1099511627776)
    (hK : ∀ q' d' w' o', Ag w o o' → Keep (ob q) w w' → Kp n w0 w' T M R L R2 now p c xs C1 q' d' (ws ++ As.map fun a => a.1) (C2 ++ As.map fun a => a.2) o' → K q' (C2.length + As.length) d' w') :
    alc w (As.map fun a => sv a.1) 26 fun b w7 => ∃ (p' : Option Addr) (n' c' : Nat), ∃ w' : World, (Builtin.append_ #[58, 58] 58 #[.slice q C2.length d, .slice (some ⟨b, 0, none⟩) As.length As.length]).run Try.prog w7 = .ok (.slice p' n' c') w' ∧ K p' n' c' w' := by
  refine alc_at fun b w7 hb7 h7 k7 => ?_
  have z7 := k7.size
  have h' := h.keep0 k7
  have hN : News w7 1 (some ⟨b, 0, none⟩) As.length As.length (As.map fun a => sv a.1) := Or.inr ⟨_, rfl, by simp, fun j u hu => by
    rw [add_mk, Nat.zero_add, h7.cell]; exact hu⟩
  refine app_of2 (e := 26) (sz := 1) (z := .slice none 0 0) (B := 24) Try.underlying58 (by kernel_rfl) rfl (by omega) h'.wn.out hN (fun u hu => ?_) (by simp only [maxLen]; omega) (by omega) fun p' c' w' hO' hd => ?_
  · obtain ⟨a, _, rfl⟩ := List.mem_map.1 hu; rfl
  have hkp : Keep (ob q) w7 w' := by
    rcases hd with ⟨e1, e2, _, k⟩ | ⟨e1, k⟩
    · exact k
    · exact k.none
  have hnew : ∀ i, ob p' i → ob q i ∨ w7.heap.size ≤ i := fun i hi => by
    rcases hd with ⟨e1, e2, _, k⟩ | ⟨e1, k⟩
    · rw [e1] at hi; exact Or.inl hi
    · exact Or.inr (e1 i hi)
  have hS : ∀ i, i < w7.heap.size → ob q i → o i = -4 := fun i _ hi => h.wn.ow i hi
  let o' : Nat → Int := fun i => if i < w7.heap.size then o i else -4
  have ha7 : Ag w7 o o' := fun i hi => if_pos hi
  have ha : Ag w o o' := fun i hi => ha7 i (by omega)
  have hxl : ws.length = C2.length := by have := h.wn.out.len; simpa using this
  refine hK p' c' w' o' ha ((k7.none).trans hkp fun _ _ hh => hh) ⟨h'.tr.keep hkp fun i hi hh => by have := h.ot i hi; have := h.wn.ow i hh; omega, h'.mr.keep hkp fun i hi hh => by have := h.om i hi; have := h.wn.ow i hh; omega, lsO h'.ls ha7 hkp hS ⟨by decide, by decide⟩,
    ⟨?_, fun k x hx => ?_, fun i hi => ?_, fun k x hx i hi => ?_⟩, fun i hi => by rw [ha7 i (h'.tr.lt i hi)]; exact h.ot i hi, fun i hi => by rw [ha7 i (h'.mr.lt i hi)]; exact h.om i hi, h'.oldO ha7, h'.keepO hkp hS (by decide), h.good⟩
  · rw [List.length_append, List.length_map, List.map_append, List.map_map]
    exact hO'
  · by_cases hk : k < ws.length
    · rw [List.getElem?_append_left hk] at hx
      obtain ⟨ys, hO, hy⟩ := h'.wn.each k x hx
      refine ⟨ys, hO.keep hkp fun i hi hs => by have := h'.wn.oe k x hx i hi; have := h.wn.ow i hs; omega, ?_⟩
      rw [List.getElem?_append_left (by omega)]; exact hy
    · rw [List.getElem?_append_right (by omega), List.getElem?_map] at hx
      obtain ⟨a, ha1, rfl⟩ := Option.map_eq_some_iff.1 hx
      have hp := hA a (List.mem_of_getElem? ha1)
      refine ⟨a.2, (hp.1.keep0 k7).keep hkp fun i hi hs => by have := hp.2 i hi; have := h.wn.ow i hs; omega, ?_⟩
      rw [List.getElem?_append_right (by omega), List.getElem?_map, ← hxl, ha1]; rfl
  · rcases hnew i hi with hh | hh
    · rw [ha7 i (h'.wn.out.lt i hh)]; exact h.wn.ow i hh
    · exact if_neg (by omega)
  · by_cases hk : k < ws.length
    · rw [List.getElem?_append_left hk] at hx
      obtain ⟨ys, hO, hy⟩ := h'.wn.each k x hx
      rw [ha7 i (hO.lt i hi)]; exact h.wn.oe k x hx i hi
    · rw [List.getElem?_append_right (by omega), List.getElem?_map] at hx
      obtain ⟨a, ha1, rfl⟩ := Option.map_eq_some_iff.1 hx
      have hp := hA a (List.mem_of_getElem? ha1)
      rw [ha i (hp.1.lt i hi), hp.2 i hi]
end
end Go.Proofs.Ytioaaeianjgaoaa.Trail
