/- An Engine in memory: the trail and the order turned; a decision; a way back; a clause watched. -/
import Derived.Test.YtmhjehodfggleaaMEng7
import Derived.Test.YtmhjehodfggleaaProg
import Derived.Test.YtmhjehodfggleaaMVcL
import Derived.Laws.StructEq
import Derived.Test.YtmhjehodfggleaaMCopy
import Derived.Maps.RangeRun
import Derived.Test.YtmhjehodfggleaaMTAr
set_option linter.unusedVariables false
set_option linter.unusedSimpArgs false
set_option linter.unusedSectionVars false
set_option maxRecDepth 100000
namespace Go.Proofs.Ytmhjehodfggleaa.Eng
open Go Go.Proofs.Ytmhjehodfggleaa.Vc Go.Proofs.Ytmhjehodfggleaa.T
open Go.Proofs.Ytmhjehodfggleaa.Apart (RdL own_rdl wrap_nat getE own_len take_snoc Sl sv New)
open Go.Proofs.Ytmhjehodfggleaa.Lits (fl fl_iff Ans ans_of formedP idx idx_range idx_inj indexP)
open Go.Proofs.Ytmhjehodfggleaa.Arn (Ar AR)
open Go.Proofs.Ytmhjehodfggleaa.Trail (TI Tr St valA levA reaA ownB Moved TLaid above upto freeA implA Open ent)

theorem Rp.laid {ex : Nat → Prop} {w w4 : World} {b : Nat} {o : Nat → Int} {h : Hs} {S : ES} (hR : Rp ex w b o h S) {T' : TI} {p' : Option Addr} {n' c' : Nat} {R' : List E} {L' : List Int} {hd : Nat} {r c d : Bool} {x : Int}
    (kall : Keep (fun j => tPutE (o j)) w w4) (hself4 : Blk w4 b [I S.nv, Pt h.st, Pt T'.t, sv (p', n', c'), sv h.ll, sv h.ss, sv h.le, .iface 55 (Pt h.bk), I hd, .bool r, .bool c, .bool d, I x] 64)
    (hT4 : Tr S.nv w4 T' R' L') (hF : ∀ j, T'.F j → (j < w.heap.size ∧ o j = -3) ∨ w.heap.size ≤ j) (hO4 : Own w4 3 1 p' n' c' ((R'.map fun e : E => e.lit).map I)) (pcase : ∀ j, ob p' j → (j < w.heap.size ∧ o j = -4) ∨ w.heap.size ≤ j) (hdis : ∀ j, T'.F j → ¬ ob p' j) :
    Nx tPutE ex w b o h { S with R := R', L := L', head := hd, rest := r, clash := c, dead := d, bad := x } w4 := by
  have lo : ∀ {j : Nat}, o j ≠ -9 → j < w.heap.size := fun {j} hj => by
    apply Classical.byContradiction
    intro hn
    exact hj (hR.nrm j (by omega))
  have nT : ∀ {t : Int}, t ≠ -1 → t ≠ -3 → t ≠ -4 → ¬ tPutE t := fun a b c hh => by rcases hh with h | h | h; exact a h; exact b h; exact c h
  have z := kall.size
  let o' : Nat → Int := fun j => open Classical in if j < w.heap.size then o j else if T'.F j then -3 else if ob p' j then -4 else -9
  have e0 : ∀ {j : Nat} {t : Int}, t ≠ -9 → o j = t → o' j = t := fun {j} {t} hne hj => by
    show (open Classical in if j < w.heap.size then o j else _) = t
    rw [if_pos (lo (by rw [hj]; exact hne))]; exact hj
  have har := hR.arK (T := tPutE) kall (nT (by decide) (by decide) (by decide))
  have hgl := hR.glK (T := tPutE) kall (nT (by decide) (by decide) (by decide))
  have hhd := hR.heldK (T := tPutE) kall (nT (by decide) (by decide) (by decide)) (nT (by decide) (by decide) (by decide))
  refine ⟨o', { h with T := T', oo := (p', n', c') }, ⟨hself4, e0 (by decide) hR.selfO, ar_grow har (fun i hi => ⟨e0 (by decide) hi.1, hi.2⟩) (fun i hi => hi.2), hT4, fun j hj => ?_, hO4, fun j hj => ?_,
    own_K (T := tPutE) hR.out hR.outO kall (nT (by decide) (by decide) (by decide)), fun j hj => e0 (by decide) (hR.outO j hj), hR.hhl, hR.lsl,
    hR.innK (T := tPutE) kall (fun i hi => ⟨hi, nT (by omega) (by omega) (by omega)⟩), fun i x hx j hj => ⟨e0 (by omega) (hR.innOK (T := tPutE) kall i x hx j hj).1, (hR.innOK (T := tPutE) kall i x hx j hj).2⟩,
    own_K (T := tPutE) hR.sh hR.shO kall (nT (by decide) (by decide) (by decide)), fun j hj => e0 (by decide) (hR.shO j hj), own_K (T := tPutE) hR.le hR.leO kall (nT (by decide) (by decide) (by decide)), fun j hj => e0 (by decide) (hR.leO j hj),
    blk_K (T := tPutE) hR.bk hR.bkO kall (nT (by decide) (by decide) (by decide)), e0 (by decide) hR.bkO, own_K (T := tPutE) hR.lg hR.lgO kall (nT (by decide) (by decide) (by decide)), fun j hj => e0 (by decide) (hR.lgO j hj), hR.gll,
    fun i x y hx hy => ⟨(hgl i x y hx hy).1, fun j hj => ⟨e0 (by decide) ((hgl i x y hx hy).2 j hj).1, ((hgl i x y hx hy).2 j hj).2⟩⟩,
    fun i d' hd' => by
      obtain ⟨h1, h2, h3, h4⟩ := hhd i d' hd'
      exact ⟨h1, e0 (by decide) h2, h3, fun j hj => ⟨e0 (by decide) (h4 j hj).1, (h4 j hj).2⟩⟩, hR.inj, fun j hj => ?_⟩, fun j hj => if_pos hj, kall, rfl⟩
  · show (open Classical in if j < w.heap.size then o j else if T'.F j then -3 else if ob p' j then -4 else -9) = -3
    rcases hF j hj with h1 | h1
    · rw [if_pos h1.1]; exact h1.2
    · rw [if_neg (by omega), if_pos hj]
  · show (open Classical in if j < w.heap.size then o j else if T'.F j then -3 else if ob p' j then -4 else -9) = -4
    rcases pcase j hj with h1 | h1
    · rw [if_pos h1.1]; exact h1.2
    · rw [if_neg (by omega), if_neg fun hh => hdis j hh hj, if_pos hj]
  · show (open Classical in if j < w.heap.size then o j else if T'.F j then -3 else if ob p' j then -4 else -9) = -9
    rw [if_neg (by omega), if_neg fun hh => by have := hT4.lt j hh; omega, if_neg fun hh => by have := hO4.lt j hh; omega]
/-- a decision -/
def decA (S : ES) (l : Int) : Int := if ¬ (fl l = true ∧ (l.natAbs : Int) ≤ S.nv) then 1 else if S.rest = false then 3 else if vl S l ≠ 0 then 50 else 0
def decS (S : ES) (l : Int) : ES := if decA S l = 0 then { S with R := S.R ++ [⟨l, (S.L.length + 1 : Nat), -1⟩], L := S.L ++ [(S.R.length : Int)], rest := false } else S
theorem fl_wi {nv : Nat} {l : Int} (h : fl l = true) (hn : (l.natAbs : Int) ≤ nv) : Wi nv l := by
  have := fl_iff.1 h
  exact ⟨this.1, by omega, by omega⟩
theorem decide6 {ex : Nat → Prop} {w : World} {b : Nat} {o : Nat → Int} {h : Hs} {S : ES} (hR : Rp ex w b o h S) (l : Int) (hl : -9223372036854775808 ≤ l) :
    Calls Try.prog 6 #[Pt b, I l] w fun e w' => e = .returned (I (decA S l)) ∧ Nx tPutE ex w b o h (decS S l) w' := by
  refine (V6_calls (some ⟨b, 0, none⟩) l w (fun v w' => v = I (decA S l) ∧ Nx tPutE ex w b o h (decS S l) w') ?_).mono fun e w' ⟨v, he, hv, hk⟩ => ⟨by rw [he, hv], hk⟩
  unfold V6
  have kd : Keep None w w.drew := (Keep.refl _ _).drew
  have hnv := hR.nv
  have stop : ∀ {W : World} {x : Int}, Keep None w W → decA S l = x → x ≠ 0 → (I x = I (decA S l) ∧ Nx tPutE ex w b o h (decS S l) W) := fun {W x} k e hx => by
    refine ⟨by rw [e], ?_⟩
    unfold decS; rw [if_neg (by rw [e]; exact hx)]
    exact (Nx.refl hR).keep0 k
  refine cl_of ok29 (formedP l) fun e w1 ⟨he, k1⟩ => ⟨_, he, ?_⟩
  have k1' := kd.then0 k1
  have hR1 := hR.keep0 k1'
  cases hf : fl l with
  | false =>
    exact gd_f rfl (gd_f rfl (gd_f rfl ⟨fun hh => (by cases hh), pif_t rfl (stop k1' (by unfold decA; rw [if_pos (by rw [hf]; intro hh; cases hh.1)]) (by decide))⟩))
  | true =>
    have hfl := fl_iff.1 hf
    have c0 : ∀ {K : Int → Prop}, K S.nv → ldI .i64 w1 ((⟨b, 0, none⟩ : Addr).add 0) K := fun hK => by rw [add_mk]; exact ldI_of (hR1.self.cell 0) hK
    refine gd_t rfl (nn_of (gd_t rfl (c0 (gd_t rfl ?_))))
    refine cl_of ok30 (Trail.var52 l w1 hl) fun e w2 ⟨he, hw⟩ => ⟨_, he, ⟨fun _ => ?_, ?_⟩⟩
    · subst hw; exact c0 rfl
    subst hw
    have ev : (if 1 ≤ l.natAbs ∧ l.natAbs ≤ 1048576 then (l.natAbs : Int) else 0) = l.natAbs := if_pos ⟨by omega, by omega⟩
    rw [ev]
    refine pif_of (fun hq => ?_) fun hq => ?_
    · have hq : (S.nv : Int) < l.natAbs := by simpa using hq
      exact stop k1' (by unfold decA; rw [if_pos (by intro hh; omega)]) (by decide)
    have hq : (l.natAbs : Int) ≤ S.nv := by have : ¬ (S.nv : Int) < l.natAbs := by simpa using hq
                                            omega
    have hwi := fl_wi hf hq
    have d1 : decA S l = if S.rest = false then 3 else if vl S l ≠ 0 then 50 else 0 := by unfold decA; rw [if_neg (by intro hh; exact hh ⟨hf, hq⟩)]
    refine nn_of (ldB_of (x := S.rest) (by rw [add_mk]; exact hR1.self.cell 9) ?_)
    cases hr : S.rest with
    | false => exact pif_t rfl (stop k1' (by rw [d1, if_pos hr]) (by decide))
    | true =>
      rw [if_neg (by rw [hr]; decide)] at d1
      refine pif_f rfl (hR1.trAt (hR1.val hl fun w4 k4 => ⟨_, rfl, ?_⟩))
      have k14 := k1'.then0 k4
      by_cases hv : vl S l ≠ 0
      · exact pif_t (by simpa using hv) (stop k14 (by rw [d1, if_pos hv]) (by decide))
      have hv0 : vl S l = 0 := by omega
      rw [if_neg hv] at d1
      have es : decS S l = { S with R := S.R ++ [⟨l, (S.L.length + 1 : Nat), -1⟩], L := S.L ++ [(S.R.length : Int)], rest := false } := by unfold decS; rw [if_pos d1]
      rw [hv0]
      have hR4 := hR.keep0 k14
      refine pif_f rfl (hR4.trAt (cl_of ok32 (hR4.tr.decide l hl) fun e w5 ⟨he, k5, T', hmv, hT5⟩ => ⟨_, he, ?_⟩))
      have hfree : freeA S.nv S.R l = 0 := vl_free hwi hv0
      rw [if_pos hfree, if_pos hfree] at hT5
      have z14 := k14.size
      have z5 := k5.size
      have kt5 : Keep (fun j => (fun t : Int => t = -3) (o j)) w4 w5 := k5.mono fun j _ hj => hR.trO j hj
      have hself5 := blk_K (T := fun t => t = -3) hR4.self hR.selfO kt5 (by decide)
      have hoo5 := own_K (T := fun t => t = -3) hR4.oo hR.ooO kt5 (by decide)
      have hool := own_len hR.oo
      have hsm := hR.tr.small
      rw [List.length_map] at hool
      refine nn_of (ldC_of (x := h.oo.1) (n := h.oo.2.1) (c := h.oo.2.2) (by rw [add_mk]; exact hself5.cell 3) ?_)
      refine alc_at fun b10 w6 hb10 hB10 k6 => ?_
      have z6 := k6.size
      refine app_of2 (e := 3) (sz := 1) (z := I 0) (B := 8) Try.underlying26 (by kernel_rfl) rfl (by omega) (hoo5.keep0 k6) hB10.news1 (fun u hu => ?_) (by simp only [maxLen]; omega) (by omega) fun p' c' w7 hO7 hd7 => ?_
      · simp only [List.mem_singleton] at hu; subst hu; rfl
      have kt7 : Keep (fun j => (fun t : Int => t = -4) (o j)) w6 w7 := by
        rcases hd7 with ⟨_, _, _, kk⟩ | ⟨_, kk⟩
        · exact kk.mono fun j _ hj => hR.ooO j hj
        · exact kk.none
      have z7 := kt7.size
      have hself7 := blk_K (T := fun t => t = -4) (hself5.keep0 k6) hR.selfO kt7 (by decide)
      have hbl : b < w.heap.size := hR.self.lt
      refine nn_of ?_
      rw [add_mk, add_mk]
      refine st_of hself7 (by simp) rfl fun w8 hself8 k8 z8 => nn_of ?_
      rw [add_mk, add_mk]
      refine st_of hself8 (by simp) rfl fun w9 hself9 k9 z9 => ⟨by rw [d1], ?_⟩
      rw [es]
      have k89 : Keep (One b) w7 w9 := k8.trans k9 fun _ _ h => h
      have pcase : ∀ j, ob p' j → (j < w.heap.size ∧ o j = -4) ∨ w6.heap.size ≤ j := fun j hj => by
        rcases hd7 with ⟨e, _, _, _⟩ | ⟨e, _⟩
        · rw [e] at hj; exact Or.inl ⟨hR.oo.lt j hj, hR.ooO j hj⟩
        · exact Or.inr (e j hj)
      have hF : ∀ j, T'.F j → (j < w.heap.size ∧ o j = -3) ∨ (w.heap.size ≤ j ∧ j < w5.heap.size) := fun j hj => by
        rcases hmv.2 j hj with h1 | h1
        · exact Or.inl ⟨hR.tr.lt j h1, hR.trO j h1⟩
        · exact Or.inr ⟨by omega, hT5.lt j hj⟩
      refine hR.laid (T' := T') (p' := p') (n' := h.oo.2.1 + 1) (c' := c') (hd := S.head) (r := false) (c := S.clash) (d := S.dead) (x := S.bad) (((((k14.none (S := fun j => tPutE (o j))).trans kt5 fun j _ hh => Or.inr (Or.inl hh)).then0 k6).trans kt7 fun j _ hh => Or.inr (Or.inr hh)).trans k89 fun j _ hh => ?_) (by rw [hmv.1]; exact hself9) (((hT5.keep0 k6).keep kt7 fun j hj hh => ?_).keep k89 fun j hj hh => ?_) (fun j hj => ?_) ?_ (fun j hj => ?_) fun j hj hh => ?_
      · have hj : j = b := hh
        show tPutE (o j)
        rw [hj, hR.selfO]; exact Or.inl rfl
      · have hh' : o j = -4 := hh
        rcases hF j hj with h1 | h1
        · rw [h1.2] at hh'; exact absurd hh' (by decide)
        · rw [hR.nrm j h1.1] at hh'; exact absurd hh' (by decide)
      · have hjb : j = b := hh
        rcases hF j hj with h1 | h1
        · rw [hjb, hR.selfO] at h1; exact absurd h1.2 (by decide)
        · omega
      · rcases hF j hj with h1 | h1
        · exact Or.inl h1
        · exact Or.inr h1.1
      · have e1 : ((S.R ++ [(⟨l, (S.L.length + 1 : Nat), -1⟩ : E)]).map fun e : E => e.lit).map I = (S.R.map fun e => e.lit).map I ++ [I l] := by simp
        rw [e1]
        refine hO7.keep k89 fun j hj hh => ?_
        have hjb : j = b := hh
        rcases pcase j hj with h1 | h1
        · rw [hjb, hR.selfO] at h1; exact absurd h1.2 (by decide)
        · omega
      · rcases pcase j hj with h1 | h1
        · exact Or.inl h1
        · exact Or.inr (by omega)
      · rcases hF j hj with h1 | h1 <;> rcases pcase j hh with h2 | h2
        · omega
        · omega
        · omega
        · omega
/-- a way back -/
def cutS (S : ES) (k : Int) : ES := { S with R := upto k S.R, L := S.L.take k.toNat, head := min S.head (upto k S.R).length }
theorem upto_take {n : Nat} {R : List E} {L : List Int} (h : St n R L) {k : Int} (hk0 : 0 ≤ k) (hk : k ≤ L.length) : upto k R = R.take (R.length - (above k R).length) ∧ (above k R).length ≤ R.length := by
  obtain ⟨m, rfl⟩ : ∃ m : Nat, k = m := ⟨k.toNat, by omega⟩
  by_cases hm : m < L.length
  · obtain ⟨fr, e1, e2, s1, s2, s3⟩ := h.back m _ (List.getElem?_eq_getElem hm)
    obtain ⟨a1, a2⟩ := Trail.above_drop s2 s3
    rw [a1, a2, List.length_drop]
    exact ⟨by congr 1; omega, by omega⟩
  · obtain rfl : m = L.length := by omega
    obtain ⟨a1, a2⟩ := Trail.above_top h (Int.le_refl _)
    rw [a1, a2]
    exact ⟨by simp, by simp⟩
theorem cut47 {ex : Nat → Prop} {w : World} {b : Nat} {o : Nat → Int} {h : Hs} {S : ES} (hR : Rp ex w b o h S) {k : Int} (hk0 : 0 ≤ k) (hk : k ≤ S.L.length) :
    Calls Try.prog 47 #[Pt b, I k] w fun e w' => e = .returned (.tuple #[]) ∧ Nx tPutE ex w b o h (cutS S k) w' := by
  refine (V47_calls (some ⟨b, 0, none⟩) k w (fun v w' => v = .tuple #[] ∧ Nx tPutE ex w b o h (cutS S k) w') ?_).mono fun e w' ⟨v, he, hv, hk⟩ => ⟨by rw [he, hv], hk⟩
  unfold V47
  obtain ⟨u1, u2⟩ := upto_take hR.tr.st hk0 hk
  have hsm := hR.tr.small
  have hool := own_len hR.oo
  rw [List.length_map] at hool
  refine hR.trAt (cl_of ok75 (hR.tr.back hk0 hk) fun e w1 ⟨p, c, he, hO, hf, k1, hT1⟩ => ⟨_, _, _, _, he, ?_⟩)
  have kt1 : Keep (fun j => (fun t : Int => t = -3) (o j)) w w1 := k1.mono fun j _ hj => hR.trO j hj
  have k1d := kt1.drew
  have hself1 := blk_K (T := fun t => t = -3) hR.self hR.selfO k1d (by decide)
  have hoo1 := own_K (T := fun t => t = -3) hR.oo hR.ooO k1d (by decide)
  have c3 : ∀ {K : Option Addr → Nat → Nat → Prop}, K h.oo.1 h.oo.2.1 h.oo.2.2 → ldC w1.drew ((⟨b, 0, none⟩ : Addr).add 3) K := fun hK => by
    rw [add_mk]; exact ldC_of (x := h.oo.1) (n := h.oo.2.1) (c := h.oo.2.2) (hself1.cell 3) hK
  have ew : IntKind.wrap .i64 ((h.oo.2.1 : Int) - ((above k S.R).length : Int)) = ((S.R.length - (above k S.R).length : Nat) : Int) := by
    rw [← hool, IntKind.wrap_i64]; omega
  have hcap := hR.oo.le
  refine nn_of (c3 (nn_of (c3 ?_)))
  rw [ew]
  refine ⟨by omega, by omega, nn_of ?_⟩
  rw [add_mk, add_mk, Lits.slA_zero, Int.toNat_natCast, Nat.sub_zero, Nat.sub_zero]
  refine st_of hself1 (by simp) rfl fun w2 hB2 k2 z2 => nn_of ?_
  have k2d := k2.drew
  have hB2d : Blk w2.drew b _ 64 := hB2.keep0 (Keep.refl None w2).drew
  refine ldI_of (x := S.head) (by rw [add_mk]; exact hB2d.cell 8) (nn_of ?_)
  refine ldC_of (x := h.oo.1) (n := S.R.length - (above k S.R).length) (c := h.oo.2.2) (by rw [add_mk]; exact hB2d.cell 3) (nn_of ?_)
  rw [add_mk, add_mk]
  refine st_of hB2d (by simp) rfl fun w3 hB3 k3 z3 => ⟨rfl, ?_⟩
  have hul : (upto k S.R).length = S.R.length - (above k S.R).length := by rw [u1, List.length_take]; omega
  have emin : (if ((S.R.length - (above k S.R).length : Nat) : Int) < S.head then ((S.R.length - (above k S.R).length : Nat) : Int) else S.head) = ((min S.head (upto k S.R).length : Nat) : Int) := by
    rw [hul]; split <;> omega
  rw [emin] at hB3
  have k23 : Keep (One b) w1.drew w3 := k2d.trans k3 fun _ _ h => h
  have z1 := k1d.size
  refine hR.laid (T' := h.T) (p' := h.oo.1) (n' := S.R.length - (above k S.R).length) (c' := h.oo.2.2) (hd := min S.head (upto k S.R).length) (r := S.rest) (c := S.clash) (d := S.dead) (x := S.bad) ((show Keep (fun j => tPutE (o j)) w w1.drew from k1d.mono fun j _ hh => Or.inr (Or.inl hh)).trans k23 fun j _ hh => ?_) hB3 ((hT1.keep0 (Keep.refl None w1).drew).keep k23 fun j hj hh => ?_) (fun j hj => Or.inl ⟨hR.tr.lt j hj, hR.trO j hj⟩) ?_ (fun j hj => Or.inl ⟨hR.oo.lt j hj, hR.ooO j hj⟩) fun j hj hh => ?_
  · have hj : j = b := hh
    show tPutE (o j)
    rw [hj, hR.selfO]; exact Or.inl rfl
  · have hjb : j = b := hh
    have := hR.trO j hj
    rw [hjb, hR.selfO] at this; exact absurd this (by decide)
  · have := hoo1.cut (m := S.R.length - (above k S.R).length) (by omega)
    rw [Nat.mul_one, ← List.map_take, ← List.map_take, ← u1] at this
    refine this.keep k23 fun j hj hh => ?_
    have hjb : j = b := hh
    have := hR.ooO j hj
    rw [hjb, hR.selfO] at this; exact absurd this (by decide)
  · have h1 := hR.trO j hj
    have h2 := hR.ooO j hh
    omega
/-- a clause put to a list -/
def pushL (S : ES) (l : Int) (k : Nat) : ES := { S with lists := S.lists.set (idxN l) (listAt S (idxN l) ++ [k]) }
def watchS (S : ES) (k : Nat) (d : Hd) (a c : Int) : ES := pushL (pushL { S with H := S.H.set k { d with e0 := a, e1 := c } } a k) c k
def tWat (t : Int) : Prop := t = -5 ∨ t = -12 ∨ 0 ≤ t
theorem watch28 {ex : Nat → Prop} {w : World} {b : Nat} {o : Nat → Int} {h : Hs} {S : ES} (hR : Rp ex w b o h S) {k : Nat} {d : Hd} (hd : S.H[k]? = some d) {a c : Int} (ha : Wi S.nv a) (hc : Wi S.nv c) (hls : ∀ (i : Nat) (ids : List Nat), S.lists[i]? = some ids → ids.length ≤ 17592186044414) (hea : ¬ ex (idxN a)) (hec : ¬ ex (idxN c)) :
    Calls Try.prog 28 #[Pt b, Pt (h.hb k), I a, I c] w fun e w' => e = .returned (.tuple #[]) ∧ Nx tWat ex w b o h (watchS S k d a c) w' := by
  refine (V28_calls (some ⟨b, 0, none⟩) (some ⟨h.hb k, 0, none⟩) a c w (fun v w' => v = .tuple #[] ∧ Nx tWat ex w b o h (watchS S k d a c) w') ?_).mono fun e w' ⟨v, he, hv, hk⟩ => ⟨by rw [he, hv], hk⟩
  unfold V28
  have hnv := hR.nv
  refine setEyes hR hd fun w2 hR2 k2 z2 => ?_
  have hkl := (List.getElem?_eq_some_iff.1 hd).1
  have hd2 : (S.H.set k { d with e0 := a, e1 := c })[k]? = some { d with e0 := a, e1 := c } := List.getElem?_set_self hkl
  obtain ⟨hB2, _⟩ := hR2.held k _ hd2
  refine nn_of (ldI_of (x := a) (by rw [add_mk, add_mk]; exact hB2.cell 2) (ldI_of (x := c) (by rw [add_mk, add_mk]; exact hB2.cell 3) ?_))
  have kd : ∀ W : World, Keep None W W.drew := fun W => (Keep.refl _ _).drew
  have self4 : ∀ {V : World} {o1 : Nat → Int} {h1 : Hs} {S1 : ES} {ex1 : Nat → Prop}, Rp ex1 V b o1 h1 S1 → ∀ {K : Option Addr → Nat → Nat → Prop}, K h1.ll.1 h1.ll.2.1 h1.ll.2.2 → ldC V ((⟨b, 0, none⟩ : Addr).add 4) K := fun {V o1 h1 S1 ex1} hRV {K} hK => by
    rw [add_mk]
    exact ldC_of (x := h1.ll.1) (n := h1.ll.2.1) (c := h1.ll.2.2) (hRV.self.cell 4) hK
  have k02 : Keep (fun j => tWat (o j)) w w2 := k2.mono fun j _ hh => Or.inr (Or.inl hh)
  have N0 : Nx tWat ex w b o h { S with H := S.H.set k { d with e0 := a, e1 := c } } w2 := ⟨o, h, hR2, Ag.refl _ _, k02, rfl⟩
  have tp : ∀ i t, tPush i t → tWat t := fun i t hh => by rcases hh with hh | hh; exact Or.inl hh; exact Or.inr (Or.inr (by omega))
  refine lp_of (fun s W => (s.1 = 0 ∧ Nx tWat ex w b o h { S with H := S.H.set k { d with e0 := a, e1 := c } } W) ∨ (s.1 = 1 ∧ Nx tWat ex w b o h (pushL { S with H := S.H.set k { d with e0 := a, e1 := c } } a k) W) ∨ (s.1 = 2 ∧ Nx tWat ex w b o h (watchS S k d a c) W)) (fun s _ => (2 - s.1).toNat) (Or.inl ⟨rfl, N0⟩) ?_
  rintro ⟨i, ⟨⟩⟩ W hI
  dsimp only at hI ⊢
  rcases hI with ⟨rfl, o1, h1, r1, a1, k1, e1⟩ | ⟨rfl, o1, h1, r1, a1, k1, e1⟩ | ⟨rfl, hN⟩
  · refine pif_t rfl ⟨by omega, by omega, a, rfl, ?_⟩
    have rd := r1.keep0 (kd W)
    refine nn_of (self4 rd (nn_of (self4 rd ?_)))
    obtain ⟨ids, hids⟩ := getE (show idxN a < S.lists.length by rw [hR.lsl]; exact idxN_lt ha)
    have eids : listAt S (idxN a) = ids := by unfold listAt; rw [hids]; rfl
    have hP := push3 rd (by exact hnv) (l := a) (by exact ha) (k := k) (by exact hids) hea (by have := hls _ _ hids; omega) (K := fun w' => ((((1 : Int) = 0 ∧ Nx tWat ex w b o h { S with H := S.H.set k { d with e0 := a, e1 := c } } w') ∨ ((1 : Int) = 1 ∧ Nx tWat ex w b o h (pushL { S with H := S.H.set k { d with e0 := a, e1 := c } } a k) w') ∨ ((1 : Int) = 2 ∧ Nx tWat ex w b o h (watchS S k d a c) w')) ∧ (2 - (1 : Int)).toNat < (2 - (0 : Int)).toNat)) fun w' hN => ⟨Or.inr (Or.inl ⟨rfl, ?_⟩), by decide⟩
    · rw [e1] at hP
      exact hP
    · obtain ⟨o2, h2, r2, a2, k3, e2⟩ := hN.before (kd W)
      refine ⟨o2, h2, ?_, a1.trans a2 k1.size, k1.trans k3 fun j hj hh => by rw [← a1 j hj]; exact tp _ _ hh, e2.trans e1⟩
      unfold pushL listAt
      rw [show ({ S with H := S.H.set k { d with e0 := a, e1 := c } } : ES).lists[idxN a]?.getD [] = ids from eids]
      exact r2
  · refine pif_t rfl ⟨by omega, by omega, c, rfl, ?_⟩
    have rd := r1.keep0 (kd W)
    refine nn_of (self4 rd (nn_of (self4 rd ?_)))
    obtain ⟨ids, hids⟩ := getE (show idxN c < (pushL { S with H := S.H.set k { d with e0 := a, e1 := c } } a k).lists.length by unfold pushL; rw [List.length_set, hR.lsl]; exact idxN_lt hc)
    have eids : listAt (pushL { S with H := S.H.set k { d with e0 := a, e1 := c } } a k) (idxN c) = ids := by unfold listAt; rw [hids]; rfl
    have hlen : ids.length ≤ 17592186044415 := by
      have hq : (S.lists.set (idxN a) (listAt S (idxN a) ++ [k]))[idxN c]? = some ids := hids
      rw [List.getElem?_set] at hq
      split at hq
      · split at hq
        · injection hq with hq
          rw [← hq, List.length_append]
          obtain ⟨ids', hids'⟩ := getE (show idxN a < S.lists.length by rw [hR.lsl]; exact idxN_lt ha)
          have : listAt S (idxN a) = ids' := by unfold listAt; rw [hids']; rfl
          rw [this]
          have := hls _ _ hids'
          simp only [List.length_singleton]; omega
        · cases hq
      · have := hls _ _ hq; omega
    have hP := push3 rd (by exact hnv) (l := c) (by exact hc) (k := k) hids hec hlen (K := fun w' => ((((2 : Int) = 0 ∧ Nx tWat ex w b o h { S with H := S.H.set k { d with e0 := a, e1 := c } } w') ∨ ((2 : Int) = 1 ∧ Nx tWat ex w b o h (pushL { S with H := S.H.set k { d with e0 := a, e1 := c } } a k) w') ∨ ((2 : Int) = 2 ∧ Nx tWat ex w b o h (watchS S k d a c) w')) ∧ (2 - (2 : Int)).toNat < (2 - (1 : Int)).toNat)) fun w' hN => ⟨Or.inr (Or.inr ⟨rfl, ?_⟩), by decide⟩
    · rw [e1] at hP
      exact hP
    · obtain ⟨o2, h2, r2, a2, k3, e2⟩ := hN.before (kd W)
      refine ⟨o2, h2, ?_, a1.trans a2 k1.size, k1.trans k3 fun j hj hh => by rw [← a1 j hj]; exact tp _ _ hh, e2.trans e1⟩
      unfold watchS
      rw [show pushL (pushL { S with H := S.H.set k { d with e0 := a, e1 := c } } a k) c k = { pushL { S with H := S.H.set k { d with e0 := a, e1 := c } } a k with lists := (pushL { S with H := S.H.set k { d with e0 := a, e1 := c } } a k).lists.set (idxN c) (ids ++ [k]) } by unfold pushL at eids ⊢; rw [eids]]
      exact r2
  · exact pif_f rfl ⟨rfl, hN⟩
end Go.Proofs.Ytmhjehodfggleaa.Eng

/- The conditions under which the functions printed here return, as propositions over typed values; each is the machine's own, by the generator's theorem. -/
set_option linter.unusedVariables false
set_option maxRecDepth 100000
namespace Go.Proofs.Ytmhjehodfggleaa.T
open Go Go.Proofs.Ytmhjehodfggleaa.Vc
/-! (*depot/engine.Engine).entry -/
def V68 (a0 : Option Addr) (a1 : Int) (a2 : Value) (w : World) (R : Value → World → Prop) : Prop :=
  alc w [.int .i64 0, .int .i64 0, .slice none 0 0] 120 fun b2 w1 =>
  cl Try.prog 30 [.int .i64 a1] w1 fun e5 w2 => ∃ x4 : Int, e5 = Ending.returned (.int .i64 x4) ∧
  nn a0 fun p7 =>
  ldP w2 (p7.add 2) fun x8 =>
  cl Try.prog 67 [.pointer x8, .int .i64 x4] w2 fun e10 w3 => ∃ x9 : Int, e10 = Ending.returned (.int .i64 x9) ∧
  alc w3 [.int .i64 0, .int .i64 0, .slice none 0 0] 120 fun b11 w4 =>
  st w4 ((⟨b11, 0, none⟩ : Addr).add 0) (.int .i64 a1) fun w5 =>
  st w5 ((⟨b11, 0, none⟩ : Addr).add 1) (.int .i64 x9) fun w6 =>
  st w6 ((⟨b11, 0, none⟩ : Addr).add 2) (.slice none 0 0) fun w7 =>
  jn (σ := Unit) (fun k12 =>
    nn a0 fun p15 =>
    ldP w7 (p15.add 2) fun x16 =>
    cl Try.prog 86 [.pointer x16, .int .i64 x4] w7 fun e18 w9 => ∃ x17 : Int, e18 = Ending.returned (.int .i64 x17) ∧
    pif (decide (x17 ≥ 0)) (
      clF Try.prog (a2) [.int .i64 x17] w9 fun e23 w10 => ∃ (x21 : Option Addr) (x21n x21c : Nat), ∃ x22 : Bool, e23 = Ending.returned (.tuple #[.slice x21 x21n x21c, .bool x22]) ∧
      st w10 (((⟨b11, 0, none⟩ : Addr).add 2).add 0) (.slice x21 x21n x21c) fun w11 =>
      k12 (()) w11) (
      k12 (()) w9)) fun s13 w8 => match s13 with
  | (_) =>
  ldI .i64 w8 ((⟨b11, 0, none⟩ : Addr).add 0) fun x25 =>
  ldI .i64 w8 ((⟨b11, 0, none⟩ : Addr).add 1) fun x26 =>
  ldC w8 ((⟨b11, 0, none⟩ : Addr).add 2) fun x27 x27n x27c =>
  st w8 ((⟨b2, 0, none⟩ : Addr).add 0) (.int .i64 x25) fun w12 =>
  st w12 ((⟨b2, 0, none⟩ : Addr).add 1) (.int .i64 x26) fun w13 =>
  st w13 ((⟨b2, 0, none⟩ : Addr).add 2) (.slice x27 x27n x27c) fun w14 =>
  ldI .i64 w14 ((⟨b2, 0, none⟩ : Addr).add 0) fun x28 =>
  ldI .i64 w14 ((⟨b2, 0, none⟩ : Addr).add 1) fun x29 =>
  ldC w14 ((⟨b2, 0, none⟩ : Addr).add 2) fun x30 x30n x30c =>
  R (.agg #[.int .i64 x28, .int .i64 x29, .slice x30 x30n x30c]) w14
def An68 : An := .seq (.leaf) (.seq (.leaf) (.seq (.leaf) (.seq (.join [] (.seq (.leaf) (.seq (.leaf) (.cond (.leaf) (.leaf))))) (.seq (.leaf) (.leaf)))))
theorem V68_eq (a0 : Option Addr) (a1 : Int) (a2 : Value) (w : World) (R : Value → World → Prop) : evF Try.prog Try.f68 An68 [.pointer a0, .int .i64 a1, a2] w R = V68 a0 a1 a2 w R := by kernel_rfl
theorem V68_calls (a0 : Option Addr) (a1 : Int) (a2 : Value) (w : World) (R : Value → World → Prop) (h : V68 a0 a1 a2 w R) : Calls Try.prog 68 #[.pointer a0, .int .i64 a1, a2] w fun e w' => ∃ v, e = .returned v ∧ R v w' :=
  calls_of_ev (args := [.pointer a0, .int .i64 a1, a2]) Try.func68 (Nat.le_of_ble_eq_true (by kernel_rfl)) (by rw [V68_eq]; exact h)
theorem ok68 : fnOk Try.prog 68 = true := by kernel_rfl

/-! (*depot/engine.Engine).reason$1 -/
def V66 (a0_0 : Int) (a0_1 : Int) (a0_2 : Option Addr) (a0_2n : Nat) (a0_2c : Nat) (c0 : Addr) (w : World) (R : Value → World → Prop) : Prop :=
  alc w [.int .i64 a0_0, .int .i64 a0_1, .slice a0_2 a0_2n a0_2c] 120 fun b2 w1 =>
  ldC (World.drew w1) ((⟨b2, 0, none⟩ : Addr).add 2) fun x3 x3n x3c =>
  gd (α := (Option Addr × Nat × Nat)) (decide ((x3n : Int) > 0)) (fun k4 =>
    ldC (World.drew w1) ((⟨b2, 0, none⟩ : Addr).add 2) fun x5 x5n x5c =>
    k4 (x5, x5n, x5c) (World.drew w1)) (none, 0, 0) (World.drew w1) fun x6 _ =>
  gd (α := (Option Addr)) (decide ((x3n : Int) > 0)) (fun k7 =>
    ldP (World.drew w1) c0 fun x8 =>
    k7 x8 (World.drew w1)) none (World.drew w1) fun x9 _ =>
  gd (α := Addr) (decide ((x3n : Int) > 0)) (fun k10 =>
    nn x9 fun p11 =>
    k10 p11 (World.drew w1)) ⟨0, 0, none⟩ (World.drew w1) fun x12 _ =>
  gd (α := (Option Addr × Nat × Nat)) (decide ((x3n : Int) > 0)) (fun k13 =>
    ldC (World.drew w1) (x12.add 1) fun x14 x14n x14c =>
    k13 (x14, x14n, x14c) (World.drew w1)) (none, 0, 0) (World.drew w1) fun x15 _ =>
  gd (α := Bool) (decide ((x3n : Int) > 0)) (fun k16 =>
    cl Try.prog 17 [.slice x6.1 x6.2.1 x6.2.2, .slice x15.1 x15.2.1 x15.2.2] (World.drew w1) fun e18 w2 => ∃ x17 : Bool, e18 = Ending.returned (.bool x17) ∧
    k16 x17 w2) false (World.drew w1) fun x19 w3 =>
  R (.bool (cond (decide ((x3n : Int) > 0)) x19 false)) w3
def An66 : An := .seq (.leaf) (.seq (.draw [0, 1, 3, 7, 15, 31, 63, 31, 159, 415, 927, 2047, 4095, 8191]) (.leaf))
theorem V66_eq (a0_0 : Int) (a0_1 : Int) (a0_2 : Option Addr) (a0_2n : Nat) (a0_2c : Nat) (c0 : Addr) (w : World) (R : Value → World → Prop) : evF Try.prog Try.f66 An66 [.agg #[.int .i64 a0_0, .int .i64 a0_1, .slice a0_2 a0_2n a0_2c], .pointer (some c0)] w R = V66 a0_0 a0_1 a0_2 a0_2n a0_2c c0 w R := by kernel_rfl
theorem V66_calls (a0_0 : Int) (a0_1 : Int) (a0_2 : Option Addr) (a0_2n : Nat) (a0_2c : Nat) (c0 : Addr) (w : World) (R : Value → World → Prop) (h : V66 a0_0 a0_1 a0_2 a0_2n a0_2c c0 w R) : Calls Try.prog 66 #[.agg #[.int .i64 a0_0, .int .i64 a0_1, .slice a0_2 a0_2n a0_2c], .pointer (some c0)] w fun e w' => ∃ v, e = .returned v ∧ R v w' :=
  calls_of_ev (args := [.agg #[.int .i64 a0_0, .int .i64 a0_1, .slice a0_2 a0_2n a0_2c], .pointer (some c0)]) Try.func66 (Nat.le_of_ble_eq_true (by kernel_rfl)) (by rw [V66_eq]; exact h)
theorem ok66 : fnOk Try.prog 66 = true := by kernel_rfl

/-! slices.MaxFunc[[]int,int] -/
def V45 (a0 : Option Addr) (a0n : Nat) (a0c : Nat) (a1 : Value) (w : World) (R : Value → World → Prop) : Prop :=
  jn (σ := Unit) (fun k2 =>
    pif (decide ((a0n : Int) < 1)) (
      False) (
      k2 (()) w)) fun s3 w1 => match s3 with
  | (_) =>
  ixA a0 a0n 0 1 fun p7 =>
  ldI .i64 w1 p7 fun x8 =>
  lp (σ := Int × Int × Unit) (fun s13 w2 k12 => match s13 with
    | (v10, v11, _) =>
    pif (decide (v11 < (a0n : Int))) (
      jn (σ := Int × Unit) (fun k16 =>
        ixA a0 a0n v11 1 fun p19 =>
        ldI .i64 w2 p19 fun x20 =>
        clF Try.prog (a1) [.int .i64 x20, .int .i64 v10] w2 fun e22 w4 => ∃ x21 : Int, e22 = Ending.returned (.int .i64 x21) ∧
        pif (decide (x21 > 0)) (
          ixA a0 a0n v11 1 fun p24 =>
          ldI .i64 w4 p24 fun x25 =>
          k16 (x25, ()) w4) (
          k16 (v10, ()) w4)) fun s17 w3 => match s17 with
      | (v15, _) =>
      k12 (v15, (IntKind.wrap .i64 (v11 + 1)), ()) w3) (
      R (.int .i64 v10) w2)) (x8, 1, ()) w1
def An45 : An := .seq (.leaf) (.seq (.join [] (.seq (.leaf) (.cond (.leaf) (.leaf)))) (.seq (.leaf) (.seq (.seq (.leaf) (.blk (.loop [(5, .one (.int .i64)), (6, .one (.int .i64))] (.seq (.seq (.leaf) (.cond (.leaf) (.leaf))) (.seq (.join [(5, .one (.int .i64))] (.blk (.seq (.leaf) (.cond (.leaf) (.leaf))))) (.leaf)))))) (.seq (.leaf) (.leaf)))))
theorem V45_eq (a0 : Option Addr) (a0n : Nat) (a0c : Nat) (a1 : Value) (w : World) (R : Value → World → Prop) : evF Try.prog Try.f45 An45 [.slice a0 a0n a0c, a1] w R = V45 a0 a0n a0c a1 w R := by kernel_rfl
theorem V45_calls (a0 : Option Addr) (a0n : Nat) (a0c : Nat) (a1 : Value) (w : World) (R : Value → World → Prop) (h : V45 a0 a0n a0c a1 w R) : Calls Try.prog 45 #[.slice a0 a0n a0c, a1] w fun e w' => ∃ v, e = .returned v ∧ R v w' :=
  calls_of_ev (args := [.slice a0 a0n a0c, a1]) Try.func45 (Nat.le_of_ble_eq_true (by kernel_rfl)) (by rw [V45_eq]; exact h)
theorem ok45 : fnOk Try.prog 45 = true := by kernel_rfl

/-! slices.Delete[[]*depot/engine.held,*depot/engine.held] -/
def V39 (a0 : Option Addr) (a0n : Nat) (a0c : Nat) (a1 : Int) (a2 : Int) (w : World) (R : Value → World → Prop) : Prop :=
  (0 : Int) ≤ (a0n : Int) ∧ (a0n : Int) ≤ (a0c : Int) ∧ (0 : Int) ≤ a2 ∧ a2 ≤ (a0n : Int) ∧ (0 : Int) ≤ a1 ∧ a1 ≤ a2 ∧
  pif (a1 == a2) (
    R (.slice a0 a0n a0c) w) (
    (0 : Int) ≤ a1 ∧ a1 ≤ (a0c : Int) ∧
    (0 : Int) ≤ a2 ∧ a2 ≤ (a0n : Int) ∧
    ∃ (x6 : Option Addr) (x6n x6c : Nat), ∃ w1 : World, (Builtin.append_ #[59, 59] 59 #[.slice (slA a0 a0c 0 1) ((Int.toNat a1) - 0) (a0c - 0), .slice (slA a0 a0c (Int.toNat a2) 1) (a0n - (Int.toNat a2)) (a0c - (Int.toNat a2))]).run Try.prog (World.drew w) = .ok (.slice x6 x6n x6c) w1 ∧
    (0 : Int) ≤ (a0n : Int) ∧ (a0n : Int) ≤ (x6c : Int) ∧ (0 : Int) ≤ (x6n : Int) ∧ (x6n : Int) ≤ (a0n : Int) ∧
    ∃ w2 : World, (Builtin.clear_ #[59] 0 #[.slice (slA x6 x6c (Int.toNat (x6n : Int)) 1) ((Int.toNat (a0n : Int)) - (Int.toNat (x6n : Int))) (x6c - (Int.toNat (x6n : Int)))]).run Try.prog w1 = .ok (.tuple #[]) w2 ∧
    R (.slice x6 x6n x6c) w2)
def An39 : An := .seq (.leaf) (.seq (.leaf) (.seq (.seq (.leaf) (.cond (.seq (.leaf) (.leaf)) (.leaf))) (.seq (.leaf) (.seq (.draw [0, 0, 3, 0, 0, 24, 63, 127]) (.seq (.leaf) (.seq (.leaf) (.leaf)))))))
theorem V39_eq (a0 : Option Addr) (a0n : Nat) (a0c : Nat) (a1 : Int) (a2 : Int) (w : World) (R : Value → World → Prop) : evF Try.prog Try.f39 An39 [.slice a0 a0n a0c, .int .i64 a1, .int .i64 a2] w R = V39 a0 a0n a0c a1 a2 w R := by kernel_rfl
theorem V39_calls (a0 : Option Addr) (a0n : Nat) (a0c : Nat) (a1 : Int) (a2 : Int) (w : World) (R : Value → World → Prop) (h : V39 a0 a0n a0c a1 a2 w R) : Calls Try.prog 39 #[.slice a0 a0n a0c, .int .i64 a1, .int .i64 a2] w fun e w' => ∃ v, e = .returned v ∧ R v w' :=
  calls_of_ev (args := [.slice a0 a0n a0c, .int .i64 a1, .int .i64 a2]) Try.func39 (Nat.le_of_ble_eq_true (by kernel_rfl)) (by rw [V39_eq]; exact h)
theorem ok39 : fnOk Try.prog 39 = true := by kernel_rfl

/-! slices.ContainsFunc[[]depot/api.Entry,depot/api.Entry] -/
def V65 (a0 : Option Addr) (a0n : Nat) (a0c : Nat) (a1 : Value) (w : World) (R : Value → World → Prop) : Prop :=
  cl Try.prog 84 [.slice a0 a0n a0c, a1] w fun e4 w1 => ∃ x3 : Int, e4 = Ending.returned (.int .i64 x3) ∧
  R (.bool (decide (x3 ≥ 0))) w1
def An65 : An := .seq (.leaf) (.seq (.leaf) (.leaf))
theorem V65_eq (a0 : Option Addr) (a0n : Nat) (a0c : Nat) (a1 : Value) (w : World) (R : Value → World → Prop) : evF Try.prog Try.f65 An65 [.slice a0 a0n a0c, a1] w R = V65 a0 a0n a0c a1 w R := by kernel_rfl
theorem V65_calls (a0 : Option Addr) (a0n : Nat) (a0c : Nat) (a1 : Value) (w : World) (R : Value → World → Prop) (h : V65 a0 a0n a0c a1 w R) : Calls Try.prog 65 #[.slice a0 a0n a0c, a1] w fun e w' => ∃ v, e = .returned v ∧ R v w' :=
  calls_of_ev (args := [.slice a0 a0n a0c, a1]) Try.func65 (Nat.le_of_ble_eq_true (by kernel_rfl)) (by rw [V65_eq]; exact h)
theorem ok65 : fnOk Try.prog 65 = true := by kernel_rfl

/-! slices.IndexFunc[[]depot/api.Entry,depot/api.Entry] -/
def V84 (a0 : Option Addr) (a0n : Nat) (a0c : Nat) (a1 : Value) (w : World) (R : Value → World → Prop) : Prop :=
  lp (σ := Int × Unit) (fun s5 w1 k4 => match s5 with
    | (v3, _) =>
    pif (decide (v3 < (a0n : Int))) (
      ixA a0 a0n v3 3 fun p9 =>
      ldI .i64 w1 (p9.add 0) fun x10 =>
      ldI .i64 w1 (p9.add 1) fun x11 =>
      ldC w1 (p9.add 2) fun x12 x12n x12c =>
      clF Try.prog (a1) [.agg #[.int .i64 x10, .int .i64 x11, .slice x12 x12n x12c]] w1 fun e14 w2 => ∃ x13 : Bool, e14 = Ending.returned (.bool x13) ∧
      pif x13 (
        R (.int .i64 v3) w2) (
        k4 ((IntKind.wrap .i64 (v3 + 1)), ()) w2)) (
      R (.int .i64 (-1)) w1)) (0, ()) w
def An84 : An := .seq (.leaf) (.seq (.seq (.leaf) (.blk (.loop [(8, .one (.int .i64))] (.seq (.leaf) (.seq (.cond (.leaf) (.leaf)) (.seq (.blk (.seq (.leaf) (.seq (.leaf) (.cond (.seq (.leaf) (.leaf)) (.leaf))))) (.leaf))))))) (.seq (.leaf) (.leaf)))
theorem V84_eq (a0 : Option Addr) (a0n : Nat) (a0c : Nat) (a1 : Value) (w : World) (R : Value → World → Prop) : evF Try.prog Try.f84 An84 [.slice a0 a0n a0c, a1] w R = V84 a0 a0n a0c a1 w R := by kernel_rfl
theorem V84_calls (a0 : Option Addr) (a0n : Nat) (a0c : Nat) (a1 : Value) (w : World) (R : Value → World → Prop) (h : V84 a0 a0n a0c a1 w R) : Calls Try.prog 84 #[.slice a0 a0n a0c, a1] w fun e w' => ∃ v, e = .returned v ∧ R v w' :=
  calls_of_ev (args := [.slice a0 a0n a0c, a1]) Try.func84 (Nat.le_of_ble_eq_true (by kernel_rfl)) (by rw [V84_eq]; exact h)
theorem ok84 : fnOk Try.prog 84 = true := by kernel_rfl

end Go.Proofs.Ytmhjehodfggleaa.T

/- Structs of whole numbers and truths, held against one another. -/
set_option linter.unusedVariables false
set_option linter.unusedSimpArgs false
namespace Go.Proofs.Ytmhjehodfggleaa.Vc
open Go

def eqL : (ls : List Leaf) → TupL ls → TupL ls → Bool
  | [], _, _ => true
  | .int _ :: ls, x, y => decide (x.1 = y.1) && eqL ls x.2 y.2
  | .bool :: ls, x, y => (x.1 == y.1) && eqL ls x.2 y.2
  | _ :: _, _, _ => false
def isIntB (P : Program) (t : TypeId) : Bool := match P.underlying t with | some (.int _) => true | _ => false
def isBoolB (P : Program) (t : TypeId) : Bool := match P.underlying t with | some .bool => true | _ => false
def flatF (P : Program) : List Field → List Leaf → Nat → Bool
  | [], [], _ => true
  | f :: fs, l :: ls, i => decide (f.name ≠ "_") && (Nat.beq f.offset i && ((match l with | .int _ => isIntB P f.type | .bool => isBoolB P f.type | _ => false) && flatF P fs ls (i + 1)))
  | _, _, _ => false
def flatS (P : Program) (t : TypeId) (ls : List Leaf) : Bool :=
  (match P.underlying t with | some (.struct fs) => flatF P fs.toList ls 0 | _ => false) && (!(P.stoodInHeld t) && !(P.eqGuardType P.depth t))
theorem run_part1 {P : Program} {t : TypeId} {cs : Array Value} {i : Nat} {v : Value} (ha : isAggB P t = some false) (hv : cs[i]? = some v) (w : World) : (part t cs i).run P w = .ok v w := by
  simp [part, run_isAgg ha, hv]
theorem eqFields_flat {P : Program} {d : Nat} {X Y : Array Value} {w : World} : ∀ (fs : List Field) (ls : List Leaf) (i : Nat) (x y : TupL ls), flatF P fs ls i = true →
    (∀ j v, (lvals ls x)[j]? = some v → X[i + j]? = some v) → (∀ j v, (lvals ls y)[j]? = some v → Y[i + j]? = some v) →
    (Op.eqFields (d + 1) X Y fs).run P w = .ok (eqL ls x y) w := by
  intro fs
  induction fs with
  | nil =>
    intro ls i x y h hx hy
    cases ls with
    | nil => simp [Op.eqFields, eqL]
    | cons l ls => simp [flatF] at h
  | cons f fs ih =>
    intro ls i x y h hx hy
    cases ls with
    | nil => simp [flatF] at h
    | cons l ls =>
      simp only [flatF, Bool.and_eq_true, decide_eq_true_eq] at h
      obtain ⟨h1, h2, h3, h4⟩ := h
      have h2 := Nat.eq_of_beq_eq_true h2
      have hx0 := hx 0 (lval l x.1) rfl
      have hy0 := hy 0 (lval l y.1) rfl
      rw [Nat.add_zero, ← h2] at hx0 hy0
      have ih' := ih ls (i + 1) x.2 y.2 h4 (fun j v hj => by have := hx (j + 1) v hj; rwa [show i + (j + 1) = i + 1 + j by omega] at this)
        (fun j v hj => by have := hy (j + 1) v hj; rwa [show i + (j + 1) = i + 1 + j by omega] at this)
      cases l <;> simp only [] at h3 <;> try (cases h3; done)
      case int k =>
        unfold isIntB at h3
        split at h3
        · rename_i k' hu
          have ha : isAggB P f.type = some false := by unfold isAggB; rw [hu]
          simp only [Op.eqFields]
          rw [if_pos h1]
          simp only [Sem.run_bind, run_part1 ha hx0, run_part1 ha hy0, Result.andThen_ok, lval, run_equalIn_int w d f.type k k' _ _ hu, Sem.run_ite, Sem.run_pure, ih']
          by_cases he : x.1 = y.1
          · simp [eqL, he]
          · simp [eqL, he]
        · cases h3
      case bool =>
        unfold isBoolB at h3
        split at h3
        · rename_i hu
          have ha : isAggB P f.type = some false := by unfold isAggB; rw [hu]
          simp only [Op.eqFields]
          rw [if_pos h1]
          simp only [Sem.run_bind, run_part1 ha hx0, run_part1 ha hy0, Result.andThen_ok, lval, run_equalIn_bool' w d f.type _ _ hu, Sem.run_ite, Sem.run_pure, ih']
          have : ∀ b c : Bool, (b == c) = true ∨ (b == c) = false := fun b c => by cases b <;> cases c <;> simp
          rcases this x.1 y.1 with he | he
          · simp [eqL, he]
          · simp [eqL, he]
        · cases h3
theorem eqV_flat {P : Program} {t : TypeId} {ls : List Leaf} (x y : TupL ls) (h : flatS P t ls = true) (w : World) : (Op.equalIn 10000 t (.agg (lvals ls x).toArray) (.agg (lvals ls y).toArray)).run P w = .ok (eqL ls x y) w := by
  unfold flatS at h
  simp only [Bool.and_eq_true, Bool.not_eq_true'] at h
  obtain ⟨h1, h2, h3⟩ := h
  split at h1
  · rename_i fs hu
    have hf : P.fieldsOf t = fs := by simp [Program.fieldsOf, hu]
    rw [run_equalIn_struct w 9999 t _ _ (by rw [hf]; exact hu) h2, hf]
    exact eqFields_flat fs.toList ls 0 x y h1 (fun j v hj => by simpa using hj) (fun j v hj => by simpa using hj)
  · cases h1
theorem eqV_eql {P : Program} {t : TypeId} (ls : List Leaf) (x y : TupL ls) (h : flatS P t ls = true) {K : Bool → Prop} (hk : K (eqL ls x y)) : eqV P .eql t (.agg (lvals ls x).toArray) (.agg (lvals ls y).toArray) K := by
  refine ⟨_, fun w a b => ?_, hk⟩
  have hg : P.eqGuardType P.depth t = false := by simp only [flatS, Bool.and_eq_true, Bool.not_eq_true'] at h; exact h.2.2
  rw [Sem.run_bind, run_eqGuard_agg w .eql t a b _ _ hg, Result.andThen_ok, run_eql_struct, eqV_flat x y h]
  rfl
theorem eqV_neq {P : Program} {t : TypeId} (ls : List Leaf) (x y : TupL ls) (h : flatS P t ls = true) {K : Bool → Prop} (hk : K (!(eqL ls x y))) : eqV P .neq t (.agg (lvals ls x).toArray) (.agg (lvals ls y).toArray) K := by
  refine ⟨_, fun w a b => ?_, hk⟩
  have hg : P.eqGuardType P.depth t = false := by simp only [flatS, Bool.and_eq_true, Bool.not_eq_true'] at h; exact h.2.2
  rw [Sem.run_bind, run_eqGuard_agg w .neq t a b _ _ hg, Result.andThen_ok, run_neq_struct, eqV_flat x y h]
  rfl
end Go.Proofs.Ytmhjehodfggleaa.Vc

/- Maps from ints to ints whose entries' stamps are known: walked over, updated, an entry deleted. -/
set_option linter.unusedVariables false
set_option linter.unusedSimpArgs false
namespace Go.Proofs.Ytmhjehodfggleaa.Vc
open Go

def dec (e : MapEntry) : Int × Int := match e.key, e.val with | .int _ a, .int _ b => (a, b) | _, _ => (0, 0)
def Kv (e : MapEntry) : Prop := e.key = .int .i64 (dec e).1 ∧ e.val = .int .i64 (dec e).2
theorem kv_of {e : MapEntry} {a b : Int} (h1 : e.key = .int .i64 a) (h2 : e.val = .int .i64 b) : Kv e ∧ dec e = (a, b) := by
  have : dec e = (a, b) := by unfold dec; rw [h1, h2]
  exact ⟨by unfold Kv; rw [this]; exact ⟨h1, h2⟩, this⟩
structure Es (es : Array MapEntry) (clock : Nat) (f : List (Int × Int)) : Prop where
  kv : ∀ e ∈ es.toList, Kv e
  eq : f = es.toList.map dec
  lt : ∀ e ∈ es.toList, e.born < clock
  nd : (es.toList.map fun e : MapEntry => e.born).Nodup
def Ms (w : World) (r : Nat) (f : List (Int × Int)) : Prop := ∃ es clock, w.heap[r]? = some (.map es clock) ∧ Es es clock f
theorem Es.mp {es : Array MapEntry} {clock : Nat} {f : List (Int × Int)} (h : Es es clock f) : es.toList.map (fun e => (e.key, e.val)) = f.map fun p => ((.int .i64 p.1 : Value), (.int .i64 p.2 : Value)) := by
  rw [h.eq, List.map_map]
  exact List.map_congr_left fun e he => by
    have := h.kv e he
    show (e.key, e.val) = (.int .i64 (dec e).1, .int .i64 (dec e).2)
    rw [← this.1, ← this.2]
theorem Ms.mp {w : World} {r : Nat} {f : List (Int × Int)} (h : Ms w r f) : Mp w r f := by
  obtain ⟨es, clock, hb, he⟩ := h
  exact ⟨es, clock, hb, he.mp⟩
theorem Ms.keep {S : Nat → Prop} {w w' : World} {r : Nat} {f : List (Int × Int)} (h : Ms w r f) (hk : Keep S w w') (hs : ¬ S r) : Ms w' r f := by
  obtain ⟨es, clock, hb, he⟩ := h
  exact ⟨es, clock, by rw [hk.block r (Array.getElem?_eq_some_iff.1 hb).1 hs]; exact hb, he⟩
theorem Ms.keep0 {w w' : World} {r : Nat} {f : List (Int × Int)} (h : Ms w r f) (hk : Keep None w w') : Ms w' r f := h.keep hk fun h => h
theorem Ms.lt {w : World} {r : Nat} {f : List (Int × Int)} (h : Ms w r f) : r < w.heap.size := h.mp.lt
theorem mkmapS_of {P : Program} {t : TypeId} {w : World} {K : Option Nat → World → Prop} (hk : ∀ r w', r = w.heap.size → Ms w' r [] → Keep None w w' → K (some r) w') :
    ∃ x : Option Nat, ∃ w1 : World, (Instr.makeMap t none).run P w = .ok (.map x) w1 ∧ K x w1 :=
  ⟨some w.heap.size, w.alloc (.map #[] 0), by simp [Instr.makeMap], hk _ _ rfl ⟨#[], 0, (MapKept.heap_alloc w _).1, ⟨fun e h => by simp at h, rfl, fun e h => by simp at h, by simp⟩⟩ ((Keep.refl _ w).alloc _)⟩

theorem perm_out {e : MapEntry} : ∀ {L : List MapEntry}, (L.map fun e : MapEntry => e.born).Nodup → e ∈ L → L.Perm (e :: L.filter fun x => x.born != e.born) := by
  intro L
  induction L with
  | nil => intro _ h; cases h
  | cons a t ih =>
    intro hn he
    rw [List.map_cons, List.nodup_cons] at hn
    by_cases hb : a.born = e.born
    · have hno : e ∉ t := fun h => hn.1 (by rw [hb]; exact List.mem_map.2 ⟨e, h, rfl⟩)
      have hae : a = e := by
        rcases List.mem_cons.1 he with h | h
        · exact h.symm
        · exact absurd h hno
      subst hae
      have : (a :: t).filter (fun x => x.born != a.born) = t := by
        rw [List.filter_cons_of_neg (by simp), List.filter_eq_self]
        intro x hx
        have : x.born ≠ a.born := fun h => hn.1 (by rw [← h]; exact List.mem_map.2 ⟨x, hx, rfl⟩)
        simpa using this
      rw [this]
    · have het : e ∈ t := by
        rcases List.mem_cons.1 he with h | h
        · exact absurd (by rw [h]) hb
        · exact h
      rw [List.filter_cons_of_pos (by simpa using hb)]
      exact ((ih hn.2 het).cons a).trans (List.Perm.swap _ _ _)
/-- a walk under way: what is to come -/
def It (w : World) (q r : Nat) (f todo : List (Int × Int)) : Prop :=
  ∃ es clock seen, w.heap[r]? = some (.map es clock) ∧ Es es clock f ∧ w.heap[q]? = some (.mapIter (some r) clock seen clock) ∧ todo = (leftOf es seen).toList.map dec
theorem It.ms {w : World} {q r : Nat} {f todo : List (Int × Int)} (h : It w q r f todo) : Ms w r f := by
  obtain ⟨es, clock, seen, hb, he, _⟩ := h
  exact ⟨es, clock, hb, he⟩
theorem It.lt {w : World} {q r : Nat} {f todo : List (Int × Int)} (h : It w q r f todo) : q < w.heap.size := by
  obtain ⟨es, clock, seen, hb, he, hq, _⟩ := h
  exact (Array.getElem?_eq_some_iff.1 hq).1
theorem It.keep {S : Nat → Prop} {w w' : World} {q r : Nat} {f todo : List (Int × Int)} (h : It w q r f todo) (hk : Keep S w w') (hq : ¬ S q) (hr : ¬ S r) : It w' q r f todo := by
  obtain ⟨es, clock, seen, hb, he, hi, ht⟩ := h
  exact ⟨es, clock, seen, by rw [hk.block r (Array.getElem?_eq_some_iff.1 hb).1 hr]; exact hb, he, by rw [hk.block q (Array.getElem?_eq_some_iff.1 hi).1 hq]; exact hi, ht⟩
theorem It.keep0 {w w' : World} {q r : Nat} {f todo : List (Int × Int)} (h : It w q r f todo) (hk : Keep None w w') : It w' q r f todo := h.keep hk (fun h => h) fun h => h
section
variable {P : Program} {mty kt et : TypeId} {w : World} {r q : Nat} {f todo : List (Int × Int)}
theorem range_of {K : Addr → World → Prop} (hm : P.underlying mty = some (.map kt et)) (h : Ms w r f) (hk : ∀ q w', q = w.heap.size → It w' q r f f → Keep None w w' → K ⟨q, 0, none⟩ w') :
    ∃ (a : Addr) (w' : World), (Instr.range mty (.map (some r))).run P w = .ok (.pointer (some a)) w' ∧ K a w' := by
  obtain ⟨es, clock, hb, he⟩ := h
  have hlt := (Array.getElem?_eq_some_iff.1 hb).1
  refine ⟨_, _, run_range_map w mty kt et r es clock hm hb, hk _ _ rfl ⟨es, clock, #[], ?_, he, (MapKept.heap_alloc w _).1, ?_⟩ ((Keep.refl _ w).alloc _)⟩
  · exact ((MapKept.heap_alloc w _).2 r hlt).trans hb
  · rw [he.eq]
    have : (leftOf es #[]).toList = es.toList := by
      unfold leftOf
      rw [Array.toList_filter]
      exact List.filter_eq_self.2 fun x _ => by simp
    rw [this]
theorem next_of {ty : TypeId} {K : Bool → World → Prop} (h : It w q r f todo) (hqr : q ≠ r) (h0 : todo = [] → K false w)
    (h1 : ∀ p todo' w', p ∈ todo → todo.Perm (p :: todo') → It w' q r f todo' → Keep (One q) w w' → w'.heap.size = w.heap.size →
      (Instr.entry (.pointer (some ⟨q, 0, none⟩))).run P w' = .ok (.tuple #[.int .i64 p.1, .int .i64 p.2]) w' → K true w') :
    ∃ (b : Bool) (l : List Value) (w' : World), (Instr.next (.pointer (some ⟨q, 0, none⟩)) false ty).run P w = .ok (.tuple (.bool b :: l).toArray) w' ∧ K b w' := by
  obtain ⟨es, clock, seen, hb, he, hq, ht⟩ := h
  rcases run_next_at (P := P) w ty q r clock clock seen es clock hq hb he.lt (Nat.le_refl _) with ⟨hz, hrun⟩ | ⟨e, hel, w1, hal, hrun⟩
  · refine ⟨false, [], w, hrun, h0 ?_⟩
    rw [ht, Array.eq_empty_of_size_eq_zero hz]; rfl
  · have hem : e ∈ es.toList := by unfold leftOf at hel; simp at hel; simpa using hel.1
    have hkv := he.kv e hem
    have hb1 : w1.heap[r]? = some (.map es clock) := by rcases hal with rfl | rfl <;> exact hb
    have hq1 : w1.heap[q]? = some (.mapIter (some r) clock seen clock) := by rcases hal with rfl | rfl <;> exact hq
    have hqlt := (Array.getElem?_eq_some_iff.1 hq1).1
    have hrlt := (Array.getElem?_eq_some_iff.1 hb1).1
    have hbs : (Go.ChangeMaps.setBlock w1 q (.mapIter (some r) clock (seen.push e.born) clock)).heap[r]? = some (.map es clock) := by
      show (w1.heap.setIfInBounds q _)[r]? = _
      rw [Array.getElem?_setIfInBounds_ne hqr]; exact hb1
    have hqs : (Go.ChangeMaps.setBlock w1 q (.mapIter (some r) clock (seen.push e.born) clock)).heap[q]? = some (.mapIter (some r) clock (seen.push e.born) clock) := by
      show (w1.heap.setIfInBounds q _)[q]? = _
      rw [Array.getElem?_setIfInBounds_self_of_lt hqlt]
    have hent := run_entry_at (P := P) _ q r clock seen es clock e hqs hbs hem he.nd
    rw [hkv.1, hkv.2] at hrun hent
    have hw1 : Keep (One q) w w1 := by
      rcases hal with rfl | rfl
      · exact Keep.refl _ _
      · exact (Keep.refl _ w).drew
    have hsz : w1.heap.size = w.heap.size := by rcases hal with rfl | rfl <;> rfl
    refine ⟨true, [.int .i64 (dec e).1, .int .i64 (dec e).2], _, hrun, h1 (dec e) ((leftOf es (seen.push e.born)).toList.map dec) _ ?_ ?_ ⟨es, clock, seen.push e.born, hbs, he, hqs, rfl⟩ ?_ ?_ hent⟩
    · rw [ht]; exact List.mem_map.2 ⟨e, hel, rfl⟩
    · rw [ht]
      have hnl : ((leftOf es seen).toList.map fun e : MapEntry => e.born).Nodup := by
        unfold leftOf
        rw [Array.toList_filter]
        exact he.nd.sublist ((List.filter_sublist ..).map _)
      have hp := (perm_out hnl hel).map dec
      have e2 : (leftOf es (seen.push e.born)).toList = (leftOf es seen).toList.filter fun x => x.born != e.born := by
        unfold leftOf
        rw [Array.toList_filter, Array.toList_filter, List.filter_filter]
        congr 1
        funext x
        rw [Array.contains_push]
        cases seen.contains x.born <;> simp [bne]
      rw [e2]
      exact hp
    · refine hw1.trans (S' := One q) ⟨rfl, rfl, rfl, ?_, fun i hi hn => ?_⟩ fun i _ h => h
      · show w1.heap.size ≤ (w1.heap.setIfInBounds q _).size
        simp
      · show (w1.heap.setIfInBounds q _)[i]? = _
        rw [Array.getElem?_setIfInBounds_ne (fun e => hn e.symm)]
    · show (w1.heap.setIfInBounds q _).size = _
      simp [hsz]
theorem It.len {w : World} (h : It w q r f todo) : todo.length ≤ f.length := by
  obtain ⟨es, clock, seen, hb, he, hq, ht⟩ := h
  rw [ht, he.eq]
  unfold leftOf
  rw [Array.toList_filter]
  simp only [List.length_map]
  exact List.length_filter_le ..
theorem upS_of {K : World → Prop} {k v : Int} (hm : P.underlying mty = some (.map kt et)) (hd : P.underlying kt = some (.int .i64)) (h : Ms w r f) (hk : ∀ w', Ms w' r (mput k v f) → Keep (One r) w w' → w'.heap.size = w.heap.size → K w') :
    ∃ w' : World, (Instr.mapUpdate mty (.map (some r)) (.int .i64 k) (.int .i64 v)).run P w = .ok () w' ∧ K w' := by
  obtain ⟨es, clock, hb, hE⟩ := h
  have he := hE.mp
  have hkey : MapKept.IsKey (.int .i64) (.int .i64 k) := rfl
  have kp : ∀ o, Keep (One r) w { w with heap := w.heap.setIfInBounds r o } := fun o => ⟨rfl, rfl, rfl, by simp, fun i hi hn => (MapKept.heap_set hb).2 i hn⟩
  rcases findNow_int k es.toList f 0 he with ⟨h1, h2⟩ | ⟨h1, j, h2, e, h3, h4, h5⟩
  · refine ⟨{ w with heap := w.heap.setIfInBounds r (.map (es.push { key := .int .i64 k, val := .int .i64 v, born := clock }) (clock + 1)) }, ?_, hk _ ⟨_, _, (MapKept.heap_set hb).1, ?_⟩ (kp _) (by simp)⟩
    · simp [Instr.mapUpdate, run_underlying hm, MapKept.run_getObj_map hb, MapKept.run_checkKey hd hkey, MapKept.run_findKey hd h2, MapKept.run_setObj_map _ hb, Result.andThen]
    · have := mput_no (v := v) h1
      rw [this]
      refine ⟨fun x hx => ?_, ?_, fun x hx => ?_, ?_⟩
      · simp at hx
        rcases hx with hx | rfl
        · exact hE.kv x (by simpa using hx)
        · exact (kv_of rfl rfl).1
      · rw [hE.eq]; simp [dec]
      · simp at hx
        rcases hx with hx | rfl
        · have := hE.lt x (by simpa using hx); omega
        · exact Nat.lt_succ_self _
      · simp only [Array.toList_push, List.map_append, List.map_cons, List.map_nil]
        rw [List.nodup_append]
        refine ⟨hE.nd, by simp, fun a ha b hb => ?_⟩
        simp at hb
        subst hb
        obtain ⟨x, hx, rfl⟩ := List.mem_map.1 ha
        have := hE.lt x hx; omega
  · have hj : es[j]? = some e := by simpa using h3
    refine ⟨{ w with heap := w.heap.setIfInBounds r (.map (es.modify j fun e => { e with key := .int .i64 k, val := .int .i64 v }) clock) }, ?_, hk _ ⟨_, _, (MapKept.heap_set hb).1, ?_⟩ (kp _) (by simp)⟩
    · simp [Instr.mapUpdate, run_underlying hm, MapKept.run_getObj_map hb, MapKept.run_checkKey hd hkey, MapKept.run_findKey hd h2, hj, h4, MapKept.run_keyThatStays hkey, MapKept.run_setObj_map _ hb, Result.andThen]
    · have h5v := h5 v
      have mem : ∀ (l : List MapEntry) (j : Nat) (x : MapEntry), x ∈ l.modify j (fun e => { e with key := .int .i64 k, val := .int .i64 v }) → x ∈ l ∨ ∃ e ∈ l, x = { e with key := .int .i64 k, val := .int .i64 v } := by
        intro l
        induction l with
        | nil => intro j x hx; simp at hx
        | cons a l ih =>
          intro j x hx
          cases j with
          | zero =>
            simp only [List.modify_zero_cons, List.mem_cons] at hx
            rcases hx with rfl | hx
            · exact Or.inr ⟨a, by simp, rfl⟩
            · exact Or.inl (by simp [hx])
          | succ j =>
            simp only [List.modify_succ_cons, List.mem_cons] at hx
            rcases hx with rfl | hx
            · exact Or.inl (by simp)
            · rcases ih j x hx with h | ⟨e, he, rfl⟩
              · exact Or.inl (by simp [h])
              · exact Or.inr ⟨e, by simp [he], rfl⟩
      have born : ∀ (l : List MapEntry) (j : Nat), (l.modify j (fun e => { e with key := .int .i64 k, val := .int .i64 v })).map (fun e : MapEntry => e.born) = l.map fun e : MapEntry => e.born := by
        intro l
        induction l with
        | nil => intro j; simp
        | cons a l ih => intro j; cases j <;> simp [ih]
      have hkv : ∀ x ∈ (es.toList.modify j fun e => { e with key := .int .i64 k, val := .int .i64 v }), Kv x := fun x hx => by
        rcases mem _ _ _ hx with h | ⟨e, he, rfl⟩
        · exact hE.kv x h
        · exact (kv_of rfl rfl).1
      refine ⟨fun x hx => hkv x (by simpa using hx), ?_, fun x hx => ?_, ?_⟩
      · rw [Array.toList_modify]
        have h6 := congrArg (List.map fun p : Value × Value => (match p.1, p.2 with | .int _ a, .int _ b => (a, b) | _, _ => ((0 : Int), (0 : Int)))) h5v
        rw [List.map_map, List.map_map] at h6
        have e1 : (mput k v f).map ((fun p : Value × Value => (match p.1, p.2 with | .int _ a, .int _ b => (a, b) | _, _ => ((0 : Int), (0 : Int)))) ∘ fun p : Int × Int => ((.int .i64 p.1 : Value), (.int .i64 p.2 : Value))) = mput k v f := by
          conv => rhs; rw [← List.map_id (mput k v f)]
          exact List.map_congr_left fun p _ => rfl
        rw [e1] at h6
        rw [← h6]
        exact List.map_congr_left fun p _ => rfl
      · rw [Array.toList_modify] at hx
        rcases mem _ _ _ hx with h | ⟨e, he, rfl⟩
        · exact hE.lt x h
        · exact hE.lt e he
      · rw [Array.toList_modify, born]; exact hE.nd
def mdel (k : Int) : List (Int × Int) → List (Int × Int)
  | [] => []
  | p :: f => if p.1 = k then f else p :: mdel k f
theorem del_of {ty : TypeId} {K : World → Prop} {k : Int} (hm : P.underlying mty = some (.map kt et)) (hd : P.underlying kt = some (.int .i64)) (h : Ms w r f) (hk : ∀ w', Ms w' r (mdel k f) → Keep (One r) w w' → w'.heap.size = w.heap.size → K w') :
    ∃ w' : World, (Builtin.delete_ #[mty, kt] ty #[.map (some r), .int .i64 k]).run P w = .ok (.tuple #[]) w' ∧ K w' := by
  obtain ⟨es, clock, hb, hE⟩ := h
  have he := hE.mp
  have hkey : MapKept.IsKey (.int .i64) (.int .i64 k) := rfl
  have kp : ∀ o, Keep (One r) w { w with heap := w.heap.setIfInBounds r o } := fun o => ⟨rfl, rfl, rfl, by simp, fun i hi hn => (MapKept.heap_set hb).2 i hn⟩
  have dno : ∀ {f : List (Int × Int)}, mhas k f = false → mdel k f = f := by
    intro f
    induction f with
    | nil => intro _; rfl
    | cons p f ih =>
      intro h
      have h' : p.1 ≠ k ∧ mhas k f = false := by simpa [mhas] using h
      rw [mdel, if_neg h'.1, ih h'.2]
  have ers : ∀ (l : List MapEntry) (f : List (Int × Int)) (i j : Nat) (x : Nat × Value), f = l.map dec → (∀ e ∈ l, Kv e) → Instr.findNow (.int .i64) (.int .i64 k) l i = some (some x) → x.1 = i + j → mdel k f = (l.eraseIdx j).map dec := by
    intro l
    induction l with
    | nil => intro f i j x _ _ h; simp [Instr.findNow] at h
    | cons e l ih =>
      intro f i j x hf hkv h hx
      subst hf
      have hke := (hkv e (by simp)).1
      simp only [Instr.findNow] at h
      by_cases hp : (dec e).1 = k
      · have hs : Instr.sameNow (.int .i64) (.int .i64 k) e.key = some true := by rw [hke, hp]; simp [Instr.sameNow]
        rw [hs] at h
        simp at h
        subst h
        obtain rfl : j = 0 := by simp at hx; omega
        simp [mdel, hp]
      · have hs : Instr.sameNow (.int .i64) (.int .i64 k) e.key = some false := by rw [hke]; simp [Instr.sameNow]; exact fun e => hp e.symm
        rw [hs] at h
        have hge : ∀ (l : List MapEntry) (i : Nat), Instr.findNow (.int .i64) (.int .i64 k) l i = some (some x) → i ≤ x.1 := by
          intro l
          induction l with
          | nil => intro i h; simp [Instr.findNow] at h
          | cons e l ih =>
            intro i h
            simp only [Instr.findNow] at h
            split at h
            · simp at h; rw [← h]; exact Nat.le_refl _
            · have := ih (i + 1) h; omega
            · cases h
        have := hge l (i + 1) h
        obtain ⟨j', rfl⟩ : ∃ j', j = j' + 1 := ⟨j - 1, by omega⟩
        have := ih (l.map dec) (i + 1) j' x rfl (fun e he => hkv e (by simp [he])) h (by omega)
        simp [mdel, hp, this]
  rcases findNow_int k es.toList f 0 he with ⟨h1, h2⟩ | ⟨h1, j, h2, e, h3, h4, h5⟩
  · refine ⟨{ w with heap := w.heap.setIfInBounds r (.map es clock) }, ?_, hk _ ⟨es, clock, (MapKept.heap_set hb).1, by rw [dno h1]; exact hE⟩ (kp _) (by simp)⟩
    simp [Builtin.delete_, run_underlying hm, MapKept.run_getObj_map hb, MapKept.run_checkKey hd hkey, MapKept.run_findKey hd h2, MapKept.run_setObj_map _ hb, Result.andThen]
  · refine ⟨{ w with heap := w.heap.setIfInBounds r (.map (es.eraseIdxIfInBounds j) clock) }, ?_, hk _ ⟨_, _, (MapKept.heap_set hb).1, ?_⟩ (kp _) (by simp)⟩
    · simp [Builtin.delete_, run_underlying hm, MapKept.run_getObj_map hb, MapKept.run_checkKey hd hkey, MapKept.run_findKey hd h2, MapKept.run_setObj_map _ hb, Result.andThen]
    · have hsub : (es.eraseIdxIfInBounds j).toList = es.toList.eraseIdx j := by
        rw [Array.eraseIdxIfInBounds]
        split
        · rw [Array.toList_eraseIdx]
        · rename_i hn
          rw [List.eraseIdx_of_length_le (by simpa using hn)]
      have hsl : (es.toList.eraseIdx j).Sublist es.toList := List.eraseIdx_sublist ..
      refine ⟨fun x hx => hE.kv x (hsl.subset (by rwa [hsub] at hx)), ?_, fun x hx => hE.lt x (hsl.subset (by rwa [hsub] at hx)), by rw [hsub]; exact hE.nd.sublist (hsl.map _)⟩
      rw [hsub]
      exact ers es.toList f 0 j _ hE.eq hE.kv h2 (by simp)
end
/-- how many entries are to come -/
def leftM (w : World) (r q : Nat) : Nat := match w.heap[r]?, w.heap[q]? with
  | some (.map es _), some (.mapIter _ _ seen _) => (leftOf es seen).size
  | _, _ => 0
theorem It.left {w : World} {q r : Nat} {f todo : List (Int × Int)} (h : It w q r f todo) : leftM w r q = todo.length := by
  obtain ⟨es, clock, seen, hb, he, hq, ht⟩ := h
  unfold leftM
  rw [hb, hq, ht]
  simp
theorem It.ne {w : World} {q r : Nat} {f todo : List (Int × Int)} (h : It w q r f todo) : q ≠ r := by
  obtain ⟨es, clock, seen, hb, he, hq, ht⟩ := h
  rintro rfl
  rw [hb] at hq; cases hq
/-- ints all within a range, none twice -/
theorem pigeon (a : Int) : ∀ (k : Nat) (L : List Int), L.Nodup → (∀ x ∈ L, a ≤ x ∧ x < a + k) → L.length ≤ k := by
  intro k
  induction k with
  | zero =>
    intro L _ h
    cases L with
    | nil => exact Nat.le_refl _
    | cons x t => have := h x (by simp); omega
  | succ k ih =>
    intro L hn h
    by_cases hm : a + k ∈ L
    · have h1 := ih (L.erase (a + k)) (hn.erase _) fun x hx => by
        have h2 := (hn.mem_erase_iff).1 hx
        have := h x h2.2
        have := h2.1
        omega
      rw [List.length_erase_of_mem hm] at h1
      omega
    · have h1 := ih L hn fun x hx => by
        have := h x hx
        have : x ≠ a + k := fun e => hm (e ▸ hx)
        omega
      omega
end Go.Proofs.Ytmhjehodfggleaa.Vc

/- The conditions under which the functions printed here return, as propositions over typed values; each is the machine's own, by the generator's theorem. -/
set_option linter.unusedVariables false
set_option maxRecDepth 100000
namespace Go.Proofs.Ytmhjehodfggleaa.T
open Go Go.Proofs.Ytmhjehodfggleaa.Vc
/-! depot/learn.Formed -/
def V87 (a0 : Option Addr) (a0n : Nat) (a0c : Nat) (w : World) (R : Value → World → Prop) : Prop :=
  ∃ x3 : Option Nat, ∃ w1 : World, (Instr.makeMap 125 none).run Try.prog w = .ok (.map x3) w1 ∧
  lp (σ := Int × Int × Unit) (fun s9 w2 k8 => match s9 with
    | (v6, v7, _) =>
    pif (decide (v7 < (a0n : Int))) (
      ixA a0 a0n v7 3 fun p12 =>
      ldI .i64 w2 (p12.add 0) fun x13 =>
      ldI .i64 w2 (p12.add 1) fun x14 =>
      ldC w2 (p12.add 2) fun x15 x15n x15c =>
      alc w2 [.int .i64 0, .int .i64 0, .slice none 0 0] 120 fun b16 w3 =>
      st w3 ((⟨b16, 0, none⟩ : Addr).add 0) (.int .i64 x13) fun w4 =>
      st w4 ((⟨b16, 0, none⟩ : Addr).add 1) (.int .i64 x14) fun w5 =>
      st w5 ((⟨b16, 0, none⟩ : Addr).add 2) (.slice x15 x15n x15c) fun w6 =>
      gd (α := Int) (v7 == 0) (fun k18 =>
        ldI .i64 w6 ((⟨b16, 0, none⟩ : Addr).add 1) fun x19 =>
        k18 x19 w6) 0 w6 fun x20 w7 =>
      gd (α := Int) ((!(cond (v7 == 0) (x20 == 1) false)) && (decide (v7 > 0))) (fun k21 =>
        ldI .i64 w7 ((⟨b16, 0, none⟩ : Addr).add 1) fun x22 =>
        k21 x22 w7) 0 w7 fun x23 w8 =>
      gd (α := Int) (!(cond (cond (v7 == 0) (x20 == 1) false) true (cond (decide (v7 > 0)) (x23 == (IntKind.wrap .i64 (v6 + 1))) false))) (fun k25 =>
        ldI .i64 w8 ((⟨b16, 0, none⟩ : Addr).add 1) fun x26 =>
        k25 x26 w8) 0 w8 fun x27 w9 =>
      gd (α := Int) (!(cond (!(cond (cond (v7 == 0) (x20 == 1) false) true (cond (decide (v7 > 0)) (x23 == (IntKind.wrap .i64 (v6 + 1))) false))) (x27 != v6) false)) (fun k28 =>
        ldI .i64 w9 ((⟨b16, 0, none⟩ : Addr).add 0) fun x29 =>
        k28 x29 w9) 0 w9 fun x30 w10 =>
      gd (α := Int) (!(cond (!(cond (cond (v7 == 0) (x20 == 1) false) true (cond (decide (v7 > 0)) (x23 == (IntKind.wrap .i64 (v6 + 1))) false))) (x27 != v6) false)) (fun k31 =>
        ∃ x32 : Int, ∃ w11 : World, (Instr.lookup 125 (.map x3) (.int .i64 x30) false).run Try.prog w10 = .ok (.int .i64 x32) w11 ∧
        k31 x32 w11) 0 w10 fun x33 w12 =>
      gd (α := Int) (!(cond (cond (!(cond (cond (v7 == 0) (x20 == 1) false) true (cond (decide (v7 > 0)) (x23 == (IntKind.wrap .i64 (v6 + 1))) false))) (x27 != v6) false) true (decide (x33 > 0)))) (fun k34 =>
        ldI .i64 w12 ((⟨b16, 0, none⟩ : Addr).add 0) fun x35 =>
        k34 x35 w12) 0 w12 fun x36 w13 =>
      gd (α := Int) (!(cond (cond (!(cond (cond (v7 == 0) (x20 == 1) false) true (cond (decide (v7 > 0)) (x23 == (IntKind.wrap .i64 (v6 + 1))) false))) (x27 != v6) false) true (decide (x33 > 0)))) (fun k37 =>
        ∃ x38 : Int, ∃ w14 : World, (Instr.lookup 125 (.map x3) (.int .i64 (IntKind.wrap .i64 (0 - x36))) false).run Try.prog w13 = .ok (.int .i64 x38) w14 ∧
        k37 x38 w14) 0 w13 fun x39 w15 =>
      gd (α := Int) (!(cond (cond (cond (!(cond (cond (v7 == 0) (x20 == 1) false) true (cond (decide (v7 > 0)) (x23 == (IntKind.wrap .i64 (v6 + 1))) false))) (x27 != v6) false) true (decide (x33 > 0))) true (decide (x39 > 0)))) (fun k40 =>
        ldI .i64 w15 ((⟨b16, 0, none⟩ : Addr).add 0) fun x41 =>
        k40 x41 w15) 0 w15 fun x42 w16 =>
      gd (α := Bool) (!(cond (cond (cond (!(cond (cond (v7 == 0) (x20 == 1) false) true (cond (decide (v7 > 0)) (x23 == (IntKind.wrap .i64 (v6 + 1))) false))) (x27 != v6) false) true (decide (x33 > 0))) true (decide (x39 > 0)))) (fun k43 =>
        cl Try.prog 29 [.int .i64 x42] w16 fun e45 w17 => ∃ x44 : Bool, e45 = Ending.returned (.bool x44) ∧
        k43 x44 w17) false w16 fun x46 w18 =>
      pif (cond (cond (cond (cond (!(cond (cond (v7 == 0) (x20 == 1) false) true (cond (decide (v7 > 0)) (x23 == (IntKind.wrap .i64 (v6 + 1))) false))) (x27 != v6) false) true (decide (x33 > 0))) true (decide (x39 > 0))) true (!x46)) (
        R (.bool false) w18) (
        ldI .i64 w18 ((⟨b16, 0, none⟩ : Addr).add 1) fun x49 =>
        gd (α := (Option Addr × Nat × Nat)) (decide (x49 > 0)) (fun k51 =>
          ldC w18 ((⟨b16, 0, none⟩ : Addr).add 2) fun x52 x52n x52c =>
          k51 (x52, x52n, x52c) w18) (none, 0, 0) w18 fun x53 w19 =>
        gd (α := (Option Addr × Nat × Nat)) (!(cond (decide (x49 > 0)) (!((cond (cond (v7 == 0) (x20 == 1) false) true (cond (decide (v7 > 0)) (x23 == (IntKind.wrap .i64 (v6 + 1))) false)) == ((x53.2.1 : Int) == 0))) false)) (fun k54 =>
          ldC w19 ((⟨b16, 0, none⟩ : Addr).add 2) fun x55 x55n x55c =>
          k54 (x55, x55n, x55c) w19) (none, 0, 0) w19 fun x56 w20 =>
        gd (α := (Int × Int × (Option Addr × Nat × Nat) × Unit)) ((!(cond (decide (x49 > 0)) (!((cond (cond (v7 == 0) (x20 == 1) false) true (cond (decide (v7 > 0)) (x23 == (IntKind.wrap .i64 (v6 + 1))) false)) == ((x53.2.1 : Int) == 0))) false)) && (decide ((x56.2.1 : Int) > 0))) (fun k57 =>
          ldI .i64 w20 ((⟨b16, 0, none⟩ : Addr).add 0) fun x58 =>
          ldI .i64 w20 ((⟨b16, 0, none⟩ : Addr).add 1) fun x59 =>
          ldC w20 ((⟨b16, 0, none⟩ : Addr).add 2) fun x60 x60n x60c =>
          k57 (x58, x59, (x60, x60n, x60c), ()) w20) (0, 0, (none, 0, 0), ()) w20 fun x61 w21 =>
        gd (α := Bool) ((!(cond (decide (x49 > 0)) (!((cond (cond (v7 == 0) (x20 == 1) false) true (cond (decide (v7 > 0)) (x23 == (IntKind.wrap .i64 (v6 + 1))) false)) == ((x53.2.1 : Int) == 0))) false)) && (decide ((x56.2.1 : Int) > 0))) (fun k62 =>
          cl Try.prog 98 [.agg #[.int .i64 x61.1, .int .i64 x61.2.1, .slice x61.2.2.1.1 x61.2.2.1.2.1 x61.2.2.1.2.2], .map x3] w21 fun e64 w22 => ∃ x63 : Bool, e64 = Ending.returned (.bool x63) ∧
          k62 x63 w22) false w21 fun x65 w23 =>
        pif (cond (cond (decide (x49 > 0)) (!((cond (cond (v7 == 0) (x20 == 1) false) true (cond (decide (v7 > 0)) (x23 == (IntKind.wrap .i64 (v6 + 1))) false)) == ((x53.2.1 : Int) == 0))) false) true (cond (decide ((x56.2.1 : Int) > 0)) (!x65) false)) (
          R (.bool false) w23) (
          ldI .i64 w23 ((⟨b16, 0, none⟩ : Addr).add 0) fun x68 =>
          ∃ x69 : Int, ∃ w24 : World, (Instr.lookup 125 (.map x3) (.int .i64 x68) false).run Try.prog w23 = .ok (.int .i64 x69) w24 ∧
          ∃ w25 : World, (Instr.mapUpdate 125 (.map x3) (.int .i64 x68) (.int .i64 (IntKind.wrap .i64 (x69 + 1)))).run Try.prog w24 = .ok () w25 ∧
          k8 (x49, (IntKind.wrap .i64 (v7 + 1)), ()) w25))) (
      R (.bool true) w2)) (0, 0, ()) w1
def An87 : An := .seq (.leaf) (.seq (.leaf) (.seq (.leaf) (.seq (.seq (.leaf) (.blk (.loop [(4, .one (.int .i64)), (11, .one (.int .i64))] (.seq (.leaf) (.seq (.cond (.leaf) (.leaf)) (.seq (.blk (.seq (.leaf) (.seq (.leaf) (.seq (.seq (.leaf) (.cond (.seq (.leaf) (.leaf)) (.leaf))) (.seq (.leaf) (.seq (.seq (.leaf) (.cond (.seq (.leaf) (.leaf)) (.leaf))) (.leaf))))))) (.leaf))))))) (.seq (.leaf) (.leaf)))))
theorem V87_eq (a0 : Option Addr) (a0n : Nat) (a0c : Nat) (w : World) (R : Value → World → Prop) : evF Try.prog Try.f87 An87 [.slice a0 a0n a0c] w R = V87 a0 a0n a0c w R := by kernel_rfl
theorem V87_calls (a0 : Option Addr) (a0n : Nat) (a0c : Nat) (w : World) (R : Value → World → Prop) (h : V87 a0 a0n a0c w R) : Calls Try.prog 87 #[.slice a0 a0n a0c] w fun e w' => ∃ v, e = .returned v ∧ R v w' :=
  calls_of_ev (args := [.slice a0 a0n a0c]) Try.func87 (Nat.le_of_ble_eq_true (by kernel_rfl)) (by rw [V87_eq]; exact h)
theorem ok87 : fnOk Try.prog 87 = true := by kernel_rfl

/-! depot/learn.reason -/
def V98 (a0_0 : Int) (a0_1 : Int) (a0_2 : Option Addr) (a0_2n : Nat) (a0_2c : Nat) (a1 : Option Nat) (w : World) (R : Value → World → Prop) : Prop :=
  alc w [.int .i64 a0_0, .int .i64 a0_1, .slice a0_2 a0_2n a0_2c] 120 fun b2 w1 =>
  ldC w1 ((⟨b2, 0, none⟩ : Addr).add 2) fun x4 x4n x4c =>
  ldI .i64 w1 ((⟨b2, 0, none⟩ : Addr).add 0) fun x5 =>
  cl Try.prog 104 [.slice x4 x4n x4c, .int .i64 x5] w1 fun e7 w2 => ∃ x6 : Bool, e7 = Ending.returned (.bool x6) ∧
  gd (α := (Option Addr × Nat × Nat)) (!(!x6)) (fun k8 =>
    ldC w2 ((⟨b2, 0, none⟩ : Addr).add 2) fun x9 x9n x9c =>
    k8 (x9, x9n, x9c) w2) (none, 0, 0) w2 fun x10 w3 =>
  gd (α := Bool) (!(!x6)) (fun k11 =>
    cl Try.prog 50 [.slice x10.1 x10.2.1 x10.2.2] w3 fun e13 w4 => ∃ x12 : Bool, e13 = Ending.returned (.bool x12) ∧
    k11 x12 w4) false w3 fun x14 w5 =>
  pif (cond (!x6) true (!x14)) (
    R (.bool false) w5) (
    ldC w5 ((⟨b2, 0, none⟩ : Addr).add 2) fun x17 x17n x17c =>
    lp (σ := Int × Unit) (fun s20 w6 k19 => match s20 with
      | (v18, _) =>
      pif (decide (v18 < (x17n : Int))) (
        ixA x17 x17n v18 1 fun p23 =>
        ldI .i64 w6 p23 fun x24 =>
        ldI .i64 w6 ((⟨b2, 0, none⟩ : Addr).add 0) fun x26 =>
        gd (α := Int) (x24 != x26) (fun k27 =>
          ∃ x28 : Int, ∃ w7 : World, (Instr.lookup 125 (.map a1) (.int .i64 (IntKind.wrap .i64 (0 - x24))) false).run Try.prog w6 = .ok (.int .i64 x28) w7 ∧
          k27 x28 w7) 0 w6 fun x29 w8 =>
        pif (cond (x24 != x26) (x29 == 0) false) (
          R (.bool false) w8) (
          k19 ((IntKind.wrap .i64 (v18 + 1)), ()) w8)) (
        R (.bool true) w6)) (0, ()) w5)
def An98 : An := .seq (.leaf) (.seq (.seq (.leaf) (.cond (.seq (.leaf) (.leaf)) (.leaf))) (.seq (.seq (.leaf) (.blk (.loop [(22, .one (.int .i64))] (.seq (.leaf) (.seq (.cond (.leaf) (.leaf)) (.seq (.blk (.seq (.leaf) (.seq (.leaf) (.cond (.seq (.leaf) (.leaf)) (.leaf))))) (.leaf))))))) (.seq (.leaf) (.leaf))))
theorem V98_eq (a0_0 : Int) (a0_1 : Int) (a0_2 : Option Addr) (a0_2n : Nat) (a0_2c : Nat) (a1 : Option Nat) (w : World) (R : Value → World → Prop) : evF Try.prog Try.f98 An98 [.agg #[.int .i64 a0_0, .int .i64 a0_1, .slice a0_2 a0_2n a0_2c], .map a1] w R = V98 a0_0 a0_1 a0_2 a0_2n a0_2c a1 w R := by kernel_rfl
theorem V98_calls (a0_0 : Int) (a0_1 : Int) (a0_2 : Option Addr) (a0_2n : Nat) (a0_2c : Nat) (a1 : Option Nat) (w : World) (R : Value → World → Prop) (h : V98 a0_0 a0_1 a0_2 a0_2n a0_2c a1 w R) : Calls Try.prog 98 #[.agg #[.int .i64 a0_0, .int .i64 a0_1, .slice a0_2 a0_2n a0_2c], .map a1] w fun e w' => ∃ v, e = .returned v ∧ R v w' :=
  calls_of_ev (args := [.agg #[.int .i64 a0_0, .int .i64 a0_1, .slice a0_2 a0_2n a0_2c], .map a1]) Try.func98 (Nat.le_of_ble_eq_true (by kernel_rfl)) (by rw [V98_eq]; exact h)
theorem ok98 : fnOk Try.prog 98 = true := by kernel_rfl

/-! depot/learn.places -/
def V71 (a0 : Option Addr) (a0n : Nat) (a0c : Nat) (w : World) (R : Value → World → Prop) : Prop :=
  ∃ x3 : Option Nat, ∃ w1 : World, (Instr.makeMap 125 none).run Try.prog w = .ok (.map x3) w1 ∧
  lp (σ := Int × Unit) (fun s7 w2 k6 => match s7 with
    | (v5, _) =>
    pif (decide (v5 < (a0n : Int))) (
      ixA a0 a0n v5 3 fun p10 =>
      ldI .i64 w2 (p10.add 0) fun x11 =>
      ldI .i64 w2 (p10.add 1) fun x12 =>
      ldC w2 (p10.add 2) fun x13 x13n x13c =>
      alc w2 [.int .i64 0, .int .i64 0, .slice none 0 0] 120 fun b14 w3 =>
      st w3 ((⟨b14, 0, none⟩ : Addr).add 0) (.int .i64 x11) fun w4 =>
      st w4 ((⟨b14, 0, none⟩ : Addr).add 1) (.int .i64 x12) fun w5 =>
      st w5 ((⟨b14, 0, none⟩ : Addr).add 2) (.slice x13 x13n x13c) fun w6 =>
      ldI .i64 w6 ((⟨b14, 0, none⟩ : Addr).add 0) fun x16 =>
      ∃ w7 : World, (Instr.mapUpdate 125 (.map x3) (.int .i64 (IntKind.wrap .i64 (0 - x16))) (.int .i64 (IntKind.wrap .i64 (v5 + 1)))).run Try.prog w6 = .ok () w7 ∧
      k6 ((IntKind.wrap .i64 (v5 + 1)), ()) w7) (
      R (.map x3) w2)) (0, ()) w1
def An71 : An := .seq (.leaf) (.seq (.leaf) (.seq (.seq (.leaf) (.blk (.loop [(9, .one (.int .i64))] (.seq (.leaf) (.seq (.cond (.leaf) (.leaf)) (.seq (.blk (.seq (.leaf) (.leaf))) (.leaf))))))) (.seq (.leaf) (.leaf))))
theorem V71_eq (a0 : Option Addr) (a0n : Nat) (a0c : Nat) (w : World) (R : Value → World → Prop) : evF Try.prog Try.f71 An71 [.slice a0 a0n a0c] w R = V71 a0 a0n a0c w R := by kernel_rfl
theorem V71_calls (a0 : Option Addr) (a0n : Nat) (a0c : Nat) (w : World) (R : Value → World → Prop) (h : V71 a0 a0n a0c w R) : Calls Try.prog 71 #[.slice a0 a0n a0c] w fun e w' => ∃ v, e = .returned v ∧ R v w' :=
  calls_of_ev (args := [.slice a0 a0n a0c]) Try.func71 (Nat.le_of_ble_eq_true (by kernel_rfl)) (by rw [V71_eq]; exact h)
theorem ok71 : fnOk Try.prog 71 = true := by kernel_rfl

/-! depot/learn.asked -/
def V72 (a0 : Option Addr) (a0n : Nat) (a0c : Nat) (a1 : Option Addr) (a1n : Nat) (a1c : Nat) (a2 : Option Nat) (w : World) (R : Value → World → Prop) : Prop :=
  cl Try.prog 87 [.slice a0 a0n a0c] w fun e4 w1 => ∃ x3 : Bool, e4 = Ending.returned (.bool x3) ∧
  gd (α := Bool) (!(!x3)) (fun k5 =>
    cl Try.prog 50 [.slice a1 a1n a1c] w1 fun e7 w2 => ∃ x6 : Bool, e7 = Ending.returned (.bool x6) ∧
    k5 x6 w2) false w1 fun x8 w3 =>
  pif (cond (!x3) true (!x8)) (
    R (.int .i64 1) w3) (
    lp (σ := Int × Unit) (fun s13 w4 k12 => match s13 with
      | (v11, _) =>
      pif (decide (v11 < (a1n : Int))) (
        ixA a1 a1n v11 1 fun p16 =>
        ldI .i64 w4 p16 fun x17 =>
        ∃ x19 : Int, ∃ w5 : World, (Instr.lookup 125 (.map a2) (.int .i64 x17) false).run Try.prog w4 = .ok (.int .i64 x19) w5 ∧
        pif (x19 == 0) (
          R (.int .i64 2) w5) (
          k12 ((IntKind.wrap .i64 (v11 + 1)), ()) w5)) (
        R (.int .i64 0) w4)) (0, ()) w3)
def An72 : An := .seq (.leaf) (.seq (.seq (.leaf) (.cond (.seq (.leaf) (.leaf)) (.leaf))) (.seq (.seq (.leaf) (.blk (.loop [(19, .one (.int .i64))] (.seq (.leaf) (.seq (.cond (.leaf) (.leaf)) (.seq (.blk (.seq (.leaf) (.seq (.leaf) (.cond (.seq (.leaf) (.leaf)) (.leaf))))) (.leaf))))))) (.seq (.leaf) (.leaf))))
theorem V72_eq (a0 : Option Addr) (a0n : Nat) (a0c : Nat) (a1 : Option Addr) (a1n : Nat) (a1c : Nat) (a2 : Option Nat) (w : World) (R : Value → World → Prop) : evF Try.prog Try.f72 An72 [.slice a0 a0n a0c, .slice a1 a1n a1c, .map a2] w R = V72 a0 a0n a0c a1 a1n a1c a2 w R := by kernel_rfl
theorem V72_calls (a0 : Option Addr) (a0n : Nat) (a0c : Nat) (a1 : Option Addr) (a1n : Nat) (a1c : Nat) (a2 : Option Nat) (w : World) (R : Value → World → Prop) (h : V72 a0 a0n a0c a1 a1n a1c a2 w R) : Calls Try.prog 72 #[.slice a0 a0n a0c, .slice a1 a1n a1c, .map a2] w fun e w' => ∃ v, e = .returned v ∧ R v w' :=
  calls_of_ev (args := [.slice a0 a0n a0c, .slice a1 a1n a1c, .map a2]) Try.func72 (Nat.le_of_ble_eq_true (by kernel_rfl)) (by rw [V72_eq]; exact h)
theorem ok72 : fnOk Try.prog 72 = true := by kernel_rfl

/-! depot/learn.Learn -/
def V43 (a0 : Option Addr) (a0n : Nat) (a0c : Nat) (a1 : Option Addr) (a1n : Nat) (a1c : Nat) (w : World) (R : Value → World → Prop) : Prop :=
  alc w [.slice a0 a0n a0c] 83 fun b2 w1 =>
  ldC w1 (⟨b2, 0, none⟩ : Addr) fun x4 x4n x4c =>
  cl Try.prog 71 [.slice x4 x4n x4c] w1 fun e6 w2 => ∃ x5 : Option Nat, e6 = Ending.returned (.map x5) ∧
  alc w2 [.map none] 125 fun b7 w3 =>
  st w3 ((⟨b7, 0, none⟩ : Addr).add 0) (.map x5) fun w4 =>
  ldC w4 (⟨b2, 0, none⟩ : Addr) fun x9 x9n x9c =>
  ldM w4 (⟨b7, 0, none⟩ : Addr) fun x10 =>
  cl Try.prog 72 [.slice x9 x9n x9c, .slice a1 a1n a1c, .map x10] w4 fun e12 w5 => ∃ x11 : Int, e12 = Ending.returned (.int .i64 x11) ∧
  pif (x11 != 0) (
    R (.tuple #[.slice none 0 0, .int .i64 0, .int .i64 x11]) w5) (
    ∃ x18 : Option Nat, ∃ w6 : World, (Instr.makeMap 125 none).run Try.prog w5 = .ok (.map x18) w6 ∧
    lp (σ := Int × Int × Unit) (fun s23 w7 k22 => match s23 with
      | (v20, v21, _) =>
      pif (decide (v21 < (a1n : Int))) (
        ixA a1 a1n v21 1 fun p26 =>
        ldI .i64 w7 p26 fun x27 =>
        clF Try.prog (.func (.func 73) #[] #[.pointer (some (⟨b2, 0, none⟩ : Addr)), .pointer (some (⟨b7, 0, none⟩ : Addr))]) [.int .i64 x27] w7 fun e30 w8 => ∃ x29 : Int, e30 = Ending.returned (.int .i64 x29) ∧
        ∃ w9 : World, (Instr.mapUpdate 125 (.map x18) (.int .i64 x27) (.int .i64 1)).run Try.prog w8 = .ok () w9 ∧
        k22 ((if x29 > v20 then x29 else v20), (IntKind.wrap .i64 (v21 + 1)), ()) w9) (
        pif (v20 == 0) (
          R (.tuple #[.slice none 0 0, .int .i64 (-1), .int .i64 0]) w7) (
          ∃ (q37 : Addr) (w10 : World), (Instr.range 125 (.map x18)).run Try.prog w7 = .ok (.pointer (some q37)) w10 ∧
          lp (σ := Int × Unit) (fun s40 w11 k39 => match s40 with
            | (v38, _) =>
            ∃ (q42 : Bool) (l43 : List Value) (w12 : World), (Instr.next (.pointer (some q37)) false 0).run Try.prog w11 = .ok (.tuple (.bool q42 :: l43).toArray) w12 ∧
            pif q42 (
              ∃ (x45 x46 : Int) (w13 : World), (Instr.entry (.pointer (some q37))).run Try.prog w12 = .ok (.tuple #[.int .i64 x45, .int .i64 x46]) w13 ∧
              clF Try.prog (.func (.func 73) #[] #[.pointer (some (⟨b2, 0, none⟩ : Addr)), .pointer (some (⟨b7, 0, none⟩ : Addr))]) [.int .i64 x45] w13 fun e49 w14 => ∃ x48 : Int, e49 = Ending.returned (.int .i64 x48) ∧
              pif (x48 == v20) (
                k39 ((IntKind.wrap .i64 (v38 + 1)), ()) w14) (
                k39 (v38, ()) w14)) (
              ldC w12 (⟨b2, 0, none⟩ : Addr) fun x53 x53n x53c =>
              lp (σ := Int × Int × Unit) (fun s57 w15 k56 => match s57 with
                | (v54, v55, _) =>
                jn (σ := Int × Unit) (fun k59 =>
                  ldC w15 (⟨b2, 0, none⟩ : Addr) fun x62 x62n x62c =>
                  ixA x62 x62n v55 3 fun p63 =>
                  ldI .i64 w15 (p63.add 0) fun x64 =>
                  ∃ x66 : Int, ∃ w17 : World, (Instr.lookup 125 (.map x18) (.int .i64 (IntKind.wrap .i64 (0 - x64))) false).run Try.prog w15 = .ok (.int .i64 x66) w17 ∧
                  gd (α := (Option Addr × Nat × Nat)) (!(x66 == 0)) (fun k67 =>
                    ldC w17 (⟨b2, 0, none⟩ : Addr) fun x68 x68n x68c =>
                    k67 (x68, x68n, x68c) w17) (none, 0, 0) w17 fun x69 w18 =>
                  gd (α := Addr) (!(x66 == 0)) (fun k70 =>
                    ixA x69.1 x69.2.1 v55 3 fun p71 =>
                    k70 p71 w18) ⟨0, 0, none⟩ w18 fun x72 w19 =>
                  gd (α := Int) (!(x66 == 0)) (fun k73 =>
                    ldI .i64 w19 (x72.add 1) fun x74 =>
                    k73 x74 w19) 0 w19 fun x75 w20 =>
                  pif (cond (x66 == 0) true (x75 != v20)) (
                    k59 (v54, ()) w20) (
                    pif (v54 == 1) (
                      ∃ (q79 : Addr) (w21 : World), (Instr.range 125 (.map x18)).run Try.prog w20 = .ok (.pointer (some q79)) w21 ∧
                      lp (σ := Int × (Option Addr × Nat × Nat) × Unit) (fun s83 w22 k82 => match s83 with
                        | (v80, (v81, v81n, v81c), _) =>
                        ∃ (q85 : Bool) (l86 : List Value) (w23 : World), (Instr.next (.pointer (some q79)) false 0).run Try.prog w22 = .ok (.tuple (.bool q85 :: l86).toArray) w23 ∧
                        pif q85 (
                          ∃ (x88 x89 : Int) (w24 : World), (Instr.entry (.pointer (some q79))).run Try.prog w23 = .ok (.tuple #[.int .i64 x88, .int .i64 x89]) w24 ∧
                          gd (α := Int) (x88 != (IntKind.wrap .i64 (0 - x64))) (fun k91 =>
                            clF Try.prog (.func (.func 73) #[] #[.pointer (some (⟨b2, 0, none⟩ : Addr)), .pointer (some (⟨b7, 0, none⟩ : Addr))]) [.int .i64 x88] w24 fun e93 w25 => ∃ x92 : Int, e93 = Ending.returned (.int .i64 x92) ∧
                            k91 x92 w25) 0 w24 fun x94 w26 =>
                          pif (cond (x88 != (IntKind.wrap .i64 (0 - x64))) (decide (x94 > 0)) false) (
                            alc w26 [.int .i64 x88] 3 fun b96 w27 =>
                            ∃ (x97 : Option Addr) (x97n x97c : Nat), ∃ w28 : World, (Builtin.append_ #[26, 26] 26 #[.slice v81 v81n v81c, .slice (some (⟨b96, 0, none⟩ : Addr)) 1 1]).run Try.prog w27 = .ok (.slice x97 x97n x97c) w28 ∧
                            clF Try.prog (.func (.func 73) #[] #[.pointer (some (⟨b2, 0, none⟩ : Addr)), .pointer (some (⟨b7, 0, none⟩ : Addr))]) [.int .i64 x88] w28 fun e100 w29 => ∃ x99 : Int, e100 = Ending.returned (.int .i64 x99) ∧
                            k82 ((if x99 > v80 then x99 else v80), (x97, x97n, x97c), ()) w29) (
                            k82 (v80, (v81, v81n, v81c), ()) w26)) (
                          alc w23 [.int .i64 (IntKind.wrap .i64 (0 - x64))] 3 fun b102 w30 =>
                          cl Try.prog 27 [.slice v81 v81n v81c] w30 fun e104 w31 => ∃ (x103 : Option Addr) (x103n x103c : Nat), e104 = Ending.returned (.slice x103 x103n x103c) ∧
                          ∃ (x105 : Option Addr) (x105n x105c : Nat), ∃ w32 : World, (Builtin.append_ #[26, 26] 26 #[.slice (some (⟨b102, 0, none⟩ : Addr)) 1 1, .slice x103 x103n x103c]).run Try.prog w31 = .ok (.slice x105 x105n x105c) w32 ∧
                          R (.tuple #[.slice x105 x105n x105c, .int .i64 v80, .int .i64 0]) w32)) (0, (none, 0, 0), ()) w21) (
                      ∃ w33 : World, (Builtin.delete_ #[125, 3] 0 #[.map x18, .int .i64 (IntKind.wrap .i64 (0 - x64))]).run Try.prog w20 = .ok (.tuple #[]) w33 ∧
                      ldC w33 (⟨b2, 0, none⟩ : Addr) fun x109 x109n x109c =>
                      ixA x109 x109n v55 3 fun p110 =>
                      ldC w33 (p110.add 2) fun x111 x111n x111c =>
                      lp (σ := Int × Int × Unit) (fun s115 w34 k114 => match s115 with
                        | (v112, v113, _) =>
                        pif (decide (v113 < (x111n : Int))) (
                          jn (σ := Int × Unit) (fun k118 =>
                            ixA x111 x111n v113 1 fun p121 =>
                            ldI .i64 w34 p121 fun x122 =>
                            ldC w34 (⟨b2, 0, none⟩ : Addr) fun x124 x124n x124c =>
                            ixA x124 x124n v55 3 fun p125 =>
                            ldI .i64 w34 (p125.add 0) fun x126 =>
                            gd (α := Int) (x122 != x126) (fun k127 =>
                              ∃ x128 : Int, ∃ w36 : World, (Instr.lookup 125 (.map x18) (.int .i64 x122) false).run Try.prog w34 = .ok (.int .i64 x128) w36 ∧
                              k127 x128 w36) 0 w34 fun x129 w37 =>
                            pif (cond (x122 != x126) (x129 == 0) false) (
                              ∃ w38 : World, (Instr.mapUpdate 125 (.map x18) (.int .i64 x122) (.int .i64 1)).run Try.prog w37 = .ok () w38 ∧
                              clF Try.prog (.func (.func 73) #[] #[.pointer (some (⟨b2, 0, none⟩ : Addr)), .pointer (some (⟨b7, 0, none⟩ : Addr))]) [.int .i64 x122] w38 fun e133 w39 => ∃ x132 : Int, e133 = Ending.returned (.int .i64 x132) ∧
                              pif (x132 == v20) (
                                k118 ((IntKind.wrap .i64 (v112 + 1)), ()) w39) (
                                k118 (v112, ()) w39)) (
                              k118 (v112, ()) w37)) fun s119 w35 => match s119 with
                          | (v117, _) =>
                          k114 (v117, (IntKind.wrap .i64 (v113 + 1)), ()) w35) (
                          k59 (v112, ()) w34)) ((IntKind.wrap .i64 (v54 - 1)), 0, ()) w33))) fun s60 w16 => match s60 with
                | (v58, _) =>
                k56 (v58, (IntKind.wrap .i64 (v55 - 1)), ()) w16) (v38, (IntKind.wrap .i64 ((x53n : Int) - 1)), ()) w12)) (0, ()) w10))) (0, 0, ()) w6)
def An43 : An := .seq (.leaf) (.seq (.leaf) (.seq (.seq (.leaf) (.seq (.leaf) (.cond (.seq (.leaf) (.leaf)) (.leaf)))) (.seq (.leaf) (.seq (.leaf) (.seq (.leaf) (.seq (.seq (.leaf) (.blk (.loop [(10, .one (.int .i64)), (35, .one (.int .i64))] (.seq (.leaf) (.seq (.cond (.leaf) (.leaf)) (.seq (.blk (.seq (.leaf) (.seq (.leaf) (.leaf)))) (.leaf))))))) (.seq (.seq (.leaf) (.cond (.seq (.leaf) (.leaf)) (.leaf))) (.seq (.leaf) (.seq (.seq (.leaf) (.blk (.loop [(14, .one (.int .i64))] (.seq (.leaf) (.seq (.cond (.leaf) (.leaf)) (.blk (.seq (.leaf) (.seq (.leaf) (.cond (.leaf) (.leaf)))))))))) (.seq (.leaf) (.seq (.seq (.leaf) (.blk (.loop [(14, .one (.int .i64)), (17, .one (.int .i64))] (.seq (.join [(14, .one (.int .i64))] (.blk (.seq (.leaf) (.seq (.seq (.leaf) (.cond (.leaf) (.leaf))) (.seq (.seq (.leaf) (.cond (.leaf) (.leaf))) (.seq (.leaf) (.seq (.leaf) (.seq (.leaf) (.blk (.loop [(14, .one (.int .i64)), (98, .one (.int .i64))] (.seq (.leaf) (.seq (.cond (.leaf) (.leaf)) (.seq (.join [(14, .one (.int .i64))] (.blk (.seq (.leaf) (.seq (.leaf) (.cond (.seq (.leaf) (.seq (.leaf) (.cond (.leaf) (.leaf)))) (.leaf)))))) (.leaf)))))))))))))) (.leaf))))) (.seq (.leaf) (.seq (.seq (.leaf) (.blk (.loop [(5, .one (.int .i64)), (20, .one (.slc))] (.seq (.leaf) (.seq (.cond (.leaf) (.leaf)) (.blk (.seq (.leaf) (.seq (.leaf) (.cond (.seq (.leaf) (.leaf)) (.leaf)))))))))) (.seq (.leaf) (.leaf)))))))))))))))
theorem V43_eq (a0 : Option Addr) (a0n : Nat) (a0c : Nat) (a1 : Option Addr) (a1n : Nat) (a1c : Nat) (w : World) (R : Value → World → Prop) : evF Try.prog Try.f43 An43 [.slice a0 a0n a0c, .slice a1 a1n a1c] w R = V43 a0 a0n a0c a1 a1n a1c w R := by kernel_rfl
theorem V43_calls (a0 : Option Addr) (a0n : Nat) (a0c : Nat) (a1 : Option Addr) (a1n : Nat) (a1c : Nat) (w : World) (R : Value → World → Prop) (h : V43 a0 a0n a0c a1 a1n a1c w R) : Calls Try.prog 43 #[.slice a0 a0n a0c, .slice a1 a1n a1c] w fun e w' => ∃ v, e = .returned v ∧ R v w' :=
  calls_of_ev (args := [.slice a0 a0n a0c, .slice a1 a1n a1c]) Try.func43 (Nat.le_of_ble_eq_true (by kernel_rfl)) (by rw [V43_eq]; exact h)
theorem ok43 : fnOk Try.prog 43 = true := by kernel_rfl

/-! depot/learn.Learn$1 -/
def V73 (a0 : Int) (c0 : Addr) (c1 : Addr) (w : World) (R : Value → World → Prop) : Prop :=
  ldC w c0 fun x3 x3n x3c =>
  ldM w c1 fun x4 =>
  ∃ x5 : Int, ∃ w1 : World, (Instr.lookup 125 (.map x4) (.int .i64 a0) false).run Try.prog w = .ok (.int .i64 x5) w1 ∧
  ixA x3 x3n (IntKind.wrap .i64 (x5 - 1)) 3 fun p6 =>
  ldI .i64 w1 (p6.add 1) fun x7 =>
  R (.int .i64 x7) w1
def An73 : An := .seq (.leaf) (.seq (.leaf) (.leaf))
theorem V73_eq (a0 : Int) (c0 : Addr) (c1 : Addr) (w : World) (R : Value → World → Prop) : evF Try.prog Try.f73 An73 [.int .i64 a0, .pointer (some c0), .pointer (some c1)] w R = V73 a0 c0 c1 w R := by kernel_rfl
theorem V73_calls (a0 : Int) (c0 : Addr) (c1 : Addr) (w : World) (R : Value → World → Prop) (h : V73 a0 c0 c1 w R) : Calls Try.prog 73 #[.int .i64 a0, .pointer (some c0), .pointer (some c1)] w fun e w' => ∃ v, e = .returned v ∧ R v w' :=
  calls_of_ev (args := [.int .i64 a0, .pointer (some c0), .pointer (some c1)]) Try.func73 (Nat.le_of_ble_eq_true (by kernel_rfl)) (by rw [V73_eq]; exact h)
theorem ok73 : fnOk Try.prog 73 = true := by kernel_rfl

/-! depot/learn.Shrink -/
def V44 (a0 : Option Addr) (a0n : Nat) (a0c : Nat) (a1 : Option Addr) (a1n : Nat) (a1c : Nat) (w : World) (R : Value → World → Prop) : Prop :=
  alc w [.slice a0 a0n a0c] 83 fun b2 w1 =>
  ldC w1 (⟨b2, 0, none⟩ : Addr) fun x4 x4n x4c =>
  cl Try.prog 71 [.slice x4 x4n x4c] w1 fun e6 w2 => ∃ x5 : Option Nat, e6 = Ending.returned (.map x5) ∧
  alc w2 [.map none] 125 fun b7 w3 =>
  st w3 ((⟨b7, 0, none⟩ : Addr).add 0) (.map x5) fun w4 =>
  ldC w4 (⟨b2, 0, none⟩ : Addr) fun x9 x9n x9c =>
  ldM w4 (⟨b7, 0, none⟩ : Addr) fun x10 =>
  cl Try.prog 72 [.slice x9 x9n x9c, .slice a1 a1n a1c, .map x10] w4 fun e12 w5 => ∃ x11 : Int, e12 = Ending.returned (.int .i64 x11) ∧
  pif (x11 != 0) (
    R (.tuple #[.slice none 0 0, .int .i64 x11]) w5) (
    ∃ x16 : Option Nat, ∃ w6 : World, (Instr.makeMap 125 none).run Try.prog w5 = .ok (.map x16) w6 ∧
    alc w6 [.map none] 125 fun b17 w7 =>
    st w7 ((⟨b17, 0, none⟩ : Addr).add 0) (.map x16) fun w8 =>
    lp (σ := Int × Unit) (fun s21 w9 k20 => match s21 with
      | (v19, _) =>
      pif (decide (v19 < (a1n : Int))) (
        ixA a1 a1n v19 1 fun p24 =>
        ldI .i64 w9 p24 fun x25 =>
        ldM w9 (⟨b17, 0, none⟩ : Addr) fun x27 =>
        ∃ w10 : World, (Instr.mapUpdate 125 (.map x27) (.int .i64 x25) (.int .i64 1)).run Try.prog w9 = .ok () w10 ∧
        k20 ((IntKind.wrap .i64 (v19 + 1)), ()) w10) (
        ∃ x30 : Option Nat, ∃ w11 : World, (Instr.makeMap 125 none).run Try.prog w9 = .ok (.map x30) w11 ∧
        alc w11 [.map none] 125 fun b31 w12 =>
        st w12 ((⟨b31, 0, none⟩ : Addr).add 0) (.map x30) fun w13 =>
        alc w13 [.nilFunc] 73 fun b33 w14 =>
        st w14 ((⟨b33, 0, none⟩ : Addr).add 0) (.func (.func 74) #[] #[.pointer (some (⟨b31, 0, none⟩ : Addr)), .pointer (some (⟨b2, 0, none⟩ : Addr)), .pointer (some (⟨b7, 0, none⟩ : Addr)), .pointer (some (⟨b17, 0, none⟩ : Addr)), .pointer (some (⟨b33, 0, none⟩ : Addr))]) fun w15 =>
        lp (σ := (Option Addr × Nat × Nat) × Int × Unit) (fun s40 w16 k39 => match s40 with
          | ((v37, v37n, v37c), v38, _) =>
          pif (decide (v38 < (a1n : Int))) (
            jn (σ := (Option Addr × Nat × Nat) × Unit) (fun k43 =>
              ixA a1 a1n v38 1 fun p46 =>
              ldI .i64 w16 p46 fun x47 =>
              ldM w16 (⟨b17, 0, none⟩ : Addr) fun x49 =>
              ∃ x50 : Int, ∃ w18 : World, (Instr.lookup 125 (.map x49) (.int .i64 x47) false).run Try.prog w16 = .ok (.int .i64 x50) w18 ∧
              pif (x50 == 2) (
                k43 ((v37, v37n, v37c), ()) w18) (
                jn (σ := (Option Addr × Nat × Nat) × Unit) (fun k52 =>
                  gd (α := (Option Addr × Nat × Nat)) (!(v38 == 0)) (fun k55 =>
                    ldC w18 (⟨b2, 0, none⟩ : Addr) fun x56 x56n x56c =>
                    k55 (x56, x56n, x56c) w18) (none, 0, 0) w18 fun x57 w20 =>
                  gd (α := (Option Nat)) (!(v38 == 0)) (fun k58 =>
                    ldM w20 (⟨b7, 0, none⟩ : Addr) fun x59 =>
                    k58 x59 w20) none w20 fun x60 w21 =>
                  gd (α := Int) (!(v38 == 0)) (fun k61 =>
                    ∃ x62 : Int, ∃ w22 : World, (Instr.lookup 125 (.map x60) (.int .i64 x47) false).run Try.prog w21 = .ok (.int .i64 x62) w22 ∧
                    k61 x62 w22) 0 w21 fun x63 w23 =>
                  gd (α := Addr) (!(v38 == 0)) (fun k64 =>
                    ixA x57.1 x57.2.1 (IntKind.wrap .i64 (x63 - 1)) 3 fun p65 =>
                    k64 p65 w23) ⟨0, 0, none⟩ w23 fun x66 w24 =>
                  gd (α := Int) (!(v38 == 0)) (fun k67 =>
                    ldI .i64 w24 (x66.add 1) fun x68 =>
                    k67 x68 w24) 0 w24 fun x69 w25 =>
                  gd (α := Value) ((!(v38 == 0)) && (decide (x69 > 0))) (fun k70 =>
                    ldV w25 (⟨b33, 0, none⟩ : Addr) fun x71 =>
                    k70 x71 w25) undef w25 fun x72 w26 =>
                  gd (α := Bool) ((!(v38 == 0)) && (decide (x69 > 0))) (fun k73 =>
                    clF Try.prog (x72) [.int .i64 x47] w26 fun e75 w27 => ∃ x74 : Bool, e75 = Ending.returned (.bool x74) ∧
                    k73 x74 w27) false w26 fun x76 w28 =>
                  pif (cond (v38 == 0) true (cond (decide (x69 > 0)) (!x76) false)) (
                    alc w28 [.int .i64 x47] 3 fun b78 w29 =>
                    ∃ (x79 : Option Addr) (x79n x79c : Nat), ∃ w30 : World, (Builtin.append_ #[26, 26] 26 #[.slice v37 v37n v37c, .slice (some (⟨b78, 0, none⟩ : Addr)) 1 1]).run Try.prog w29 = .ok (.slice x79 x79n x79c) w30 ∧
                    k52 ((x79, x79n, x79c), ()) w30) (
                    k52 ((v37, v37n, v37c), ()) w28)) fun s53 w19 => match s53 with
                | ((v51, v51n, v51c), _) =>
                ldM w19 (⟨b17, 0, none⟩ : Addr) fun x81 =>
                ∃ w31 : World, (Instr.mapUpdate 125 (.map x81) (.int .i64 x47) (.int .i64 2)).run Try.prog w19 = .ok () w31 ∧
                k43 ((v51, v51n, v51c), ()) w31)) fun s44 w17 => match s44 with
            | ((v42, v42n, v42c), _) =>
            k39 ((v42, v42n, v42c), (IntKind.wrap .i64 (v38 + 1)), ()) w17) (
            R (.tuple #[.slice v37 v37n v37c, .int .i64 0]) w16)) ((none, 0, 0), 0, ()) w15)) (0, ()) w8)
def An44 : An := .seq (.leaf) (.seq (.leaf) (.seq (.seq (.leaf) (.seq (.leaf) (.cond (.seq (.leaf) (.leaf)) (.leaf)))) (.seq (.leaf) (.seq (.seq (.leaf) (.blk (.loop [(28, .one (.int .i64))] (.seq (.leaf) (.seq (.cond (.leaf) (.leaf)) (.seq (.blk (.seq (.leaf) (.leaf))) (.leaf))))))) (.seq (.leaf) (.seq (.leaf) (.seq (.leaf) (.seq (.leaf) (.seq (.seq (.leaf) (.blk (.loop [(13, .one (.slc)), (39, .one (.int .i64))] (.seq (.leaf) (.seq (.cond (.leaf) (.leaf)) (.seq (.join [(13, .one (.slc))] (.blk (.seq (.leaf) (.seq (.seq (.leaf) (.cond (.leaf) (.leaf))) (.seq (.join [(13, .one (.slc))] (.seq (.leaf) (.cond (.leaf) (.leaf)))) (.leaf)))))) (.leaf))))))) (.seq (.leaf) (.leaf)))))))))))
theorem V44_eq (a0 : Option Addr) (a0n : Nat) (a0c : Nat) (a1 : Option Addr) (a1n : Nat) (a1c : Nat) (w : World) (R : Value → World → Prop) : evF Try.prog Try.f44 An44 [.slice a0 a0n a0c, .slice a1 a1n a1c] w R = V44 a0 a0n a0c a1 a1n a1c w R := by kernel_rfl
theorem V44_calls (a0 : Option Addr) (a0n : Nat) (a0c : Nat) (a1 : Option Addr) (a1n : Nat) (a1c : Nat) (w : World) (R : Value → World → Prop) (h : V44 a0 a0n a0c a1 a1n a1c w R) : Calls Try.prog 44 #[.slice a0 a0n a0c, .slice a1 a1n a1c] w fun e w' => ∃ v, e = .returned v ∧ R v w' :=
  calls_of_ev (args := [.slice a0 a0n a0c, .slice a1 a1n a1c]) Try.func44 (Nat.le_of_ble_eq_true (by kernel_rfl)) (by rw [V44_eq]; exact h)
theorem ok44 : fnOk Try.prog 44 = true := by kernel_rfl

/-! depot/learn.Shrink$1 -/
def V74 (a0 : Int) (c0 : Addr) (c1 : Addr) (c2 : Addr) (c3 : Addr) (c4 : Addr) (w : World) (R : Value → World → Prop) : Prop :=
  jn (σ := Unit) (fun k2 =>
    ldM w c0 fun x5 =>
    ∃ x6 : Int, ∃ w2 : World, (Instr.lookup 125 (.map x5) (.int .i64 a0) false).run Try.prog w = .ok (.int .i64 x6) w2 ∧
    pif (x6 == 0) (
      ldM w2 c0 fun x8 =>
      ∃ w3 : World, (Instr.mapUpdate 125 (.map x8) (.int .i64 a0) (.int .i64 1)).run Try.prog w2 = .ok () w3 ∧
      ldC w3 c1 fun x10 x10n x10c =>
      ldM w3 c2 fun x11 =>
      ∃ x12 : Int, ∃ w4 : World, (Instr.lookup 125 (.map x11) (.int .i64 a0) false).run Try.prog w3 = .ok (.int .i64 x12) w4 ∧
      ixA x10 x10n (IntKind.wrap .i64 (x12 - 1)) 3 fun p13 =>
      ldI .i64 w4 (p13.add 0) fun x14 =>
      ldI .i64 w4 (p13.add 1) fun x15 =>
      ldC w4 (p13.add 2) fun x16 x16n x16c =>
      alc w4 [.int .i64 0, .int .i64 0, .slice none 0 0] 120 fun b17 w5 =>
      st w5 ((⟨b17, 0, none⟩ : Addr).add 0) (.int .i64 x14) fun w6 =>
      st w6 ((⟨b17, 0, none⟩ : Addr).add 1) (.int .i64 x15) fun w7 =>
      st w7 ((⟨b17, 0, none⟩ : Addr).add 2) (.slice x16 x16n x16c) fun w8 =>
      jn (σ := Unit) (fun k18 =>
        ldC w8 ((⟨b17, 0, none⟩ : Addr).add 2) fun x21 x21n x21c =>
        pif ((x21n : Int) == 0) (
          ldM w8 c0 fun x23 =>
          ∃ w10 : World, (Instr.mapUpdate 125 (.map x23) (.int .i64 a0) (.int .i64 2)).run Try.prog w8 = .ok () w10 ∧
          k18 (()) w10) (
          k18 (()) w8)) fun s19 w9 => match s19 with
      | (_) =>
      ldC w9 ((⟨b17, 0, none⟩ : Addr).add 2) fun x25 x25n x25c =>
      lp (σ := Int × Unit) (fun s28 w11 k27 => match s28 with
        | (v26, _) =>
        pif (decide (v26 < (x25n : Int))) (
          ixA x25 x25n v26 1 fun p31 =>
          ldI .i64 w11 p31 fun x32 =>
          ldI .i64 w11 ((⟨b17, 0, none⟩ : Addr).add 0) fun x34 =>
          gd (α := (Option Addr × Nat × Nat)) (x32 != x34) (fun k35 =>
            ldC w11 c1 fun x36 x36n x36c =>
            k35 (x36, x36n, x36c) w11) (none, 0, 0) w11 fun x37 w12 =>
          gd (α := (Option Nat)) (x32 != x34) (fun k38 =>
            ldM w12 c2 fun x39 =>
            k38 x39 w12) none w12 fun x40 w13 =>
          gd (α := Int) (x32 != x34) (fun k41 =>
            ∃ x42 : Int, ∃ w14 : World, (Instr.lookup 125 (.map x40) (.int .i64 x32) false).run Try.prog w13 = .ok (.int .i64 x42) w14 ∧
            k41 x42 w14) 0 w13 fun x43 w15 =>
          gd (α := Addr) (x32 != x34) (fun k44 =>
            ixA x37.1 x37.2.1 (IntKind.wrap .i64 (x43 - 1)) 3 fun p45 =>
            k44 p45 w15) ⟨0, 0, none⟩ w15 fun x46 w16 =>
          gd (α := Int) (x32 != x34) (fun k47 =>
            ldI .i64 w16 (x46.add 1) fun x48 =>
            k47 x48 w16) 0 w16 fun x49 w17 =>
          gd (α := (Option Nat)) (cond (x32 != x34) (decide (x49 > 0)) false) (fun k50 =>
            ldM w17 c3 fun x51 =>
            k50 x51 w17) none w17 fun x52 w18 =>
          gd (α := Int) (cond (x32 != x34) (decide (x49 > 0)) false) (fun k53 =>
            ∃ x54 : Int, ∃ w19 : World, (Instr.lookup 125 (.map x52) (.int .i64 x32) false).run Try.prog w18 = .ok (.int .i64 x54) w19 ∧
            k53 x54 w19) 0 w18 fun x55 w20 =>
          gd (α := Value) (cond (cond (x32 != x34) (decide (x49 > 0)) false) (x55 == 0) false) (fun k56 =>
            ldV w20 c4 fun x57 =>
            k56 x57 w20) undef w20 fun x58 w21 =>
          gd (α := Bool) (cond (cond (x32 != x34) (decide (x49 > 0)) false) (x55 == 0) false) (fun k59 =>
            clF Try.prog (x58) [.int .i64 x32] w21 fun e61 w22 => ∃ x60 : Bool, e61 = Ending.returned (.bool x60) ∧
            k59 x60 w22) false w21 fun x62 w23 =>
          pif (cond (cond (cond (x32 != x34) (decide (x49 > 0)) false) (x55 == 0) false) (!x62) false) (
            ldM w23 c0 fun x64 =>
            ∃ w24 : World, (Instr.mapUpdate 125 (.map x64) (.int .i64 a0) (.int .i64 2)).run Try.prog w23 = .ok () w24 ∧
            k2 (()) w24) (
            k27 ((IntKind.wrap .i64 (v26 + 1)), ()) w23)) (
          k2 (()) w11)) (0, ()) w9) (
      k2 (()) w2)) fun s3 w1 => match s3 with
  | (_) =>
  ldM w1 c0 fun x67 =>
  ∃ x68 : Int, ∃ w25 : World, (Instr.lookup 125 (.map x67) (.int .i64 a0) false).run Try.prog w1 = .ok (.int .i64 x68) w25 ∧
  R (.bool (x68 == 1)) w25
def An74 : An := .seq (.leaf) (.seq (.join [] (.seq (.leaf) (.cond (.seq (.leaf) (.seq (.leaf) (.seq (.join [] (.seq (.leaf) (.cond (.leaf) (.leaf)))) (.seq (.leaf) (.blk (.loop [(33, .one (.int .i64))] (.seq (.leaf) (.seq (.cond (.leaf) (.leaf)) (.seq (.blk (.seq (.leaf) (.seq (.leaf) (.cond (.seq (.leaf) (.leaf)) (.leaf))))) (.leaf)))))))))) (.leaf)))) (.seq (.leaf) (.leaf)))
theorem V74_eq (a0 : Int) (c0 : Addr) (c1 : Addr) (c2 : Addr) (c3 : Addr) (c4 : Addr) (w : World) (R : Value → World → Prop) : evF Try.prog Try.f74 An74 [.int .i64 a0, .pointer (some c0), .pointer (some c1), .pointer (some c2), .pointer (some c3), .pointer (some c4)] w R = V74 a0 c0 c1 c2 c3 c4 w R := by kernel_rfl
theorem V74_calls (a0 : Int) (c0 : Addr) (c1 : Addr) (c2 : Addr) (c3 : Addr) (c4 : Addr) (w : World) (R : Value → World → Prop) (h : V74 a0 c0 c1 c2 c3 c4 w R) : Calls Try.prog 74 #[.int .i64 a0, .pointer (some c0), .pointer (some c1), .pointer (some c2), .pointer (some c3), .pointer (some c4)] w fun e w' => ∃ v, e = .returned v ∧ R v w' :=
  calls_of_ev (args := [.int .i64 a0, .pointer (some c0), .pointer (some c1), .pointer (some c2), .pointer (some c3), .pointer (some c4)]) Try.func74 (Nat.le_of_ble_eq_true (by kernel_rfl)) (by rw [V74_eq]; exact h)
theorem ok74 : fnOk Try.prog 74 = true := by kernel_rfl

/-! depot/lits.Has -/
def V104 (a0 : Option Addr) (a0n : Nat) (a0c : Nat) (a1 : Int) (w : World) (R : Value → World → Prop) : Prop :=
  cl Try.prog 29 [.int .i64 a1] w fun e4 w1 => ∃ x3 : Bool, e4 = Ending.returned (.bool x3) ∧
  gd (α := Bool) x3 (fun k5 =>
    cl Try.prog 106 [.slice a0 a0n a0c, .int .i64 a1] w1 fun e7 w2 => ∃ x6 : Bool, e7 = Ending.returned (.bool x6) ∧
    k5 x6 w2) false w1 fun x8 w3 =>
  R (.bool (cond x3 x8 false)) w3
def An104 : An := .seq (.leaf) (.seq (.leaf) (.leaf))
theorem V104_eq (a0 : Option Addr) (a0n : Nat) (a0c : Nat) (a1 : Int) (w : World) (R : Value → World → Prop) : evF Try.prog Try.f104 An104 [.slice a0 a0n a0c, .int .i64 a1] w R = V104 a0 a0n a0c a1 w R := by kernel_rfl
theorem V104_calls (a0 : Option Addr) (a0n : Nat) (a0c : Nat) (a1 : Int) (w : World) (R : Value → World → Prop) (h : V104 a0 a0n a0c a1 w R) : Calls Try.prog 104 #[.slice a0 a0n a0c, .int .i64 a1] w fun e w' => ∃ v, e = .returned v ∧ R v w' :=
  calls_of_ev (args := [.slice a0 a0n a0c, .int .i64 a1]) Try.func104 (Nat.le_of_ble_eq_true (by kernel_rfl)) (by rw [V104_eq]; exact h)
theorem ok104 : fnOk Try.prog 104 = true := by kernel_rfl

/-! slices.Contains[[]int,int] -/
def V106 (a0 : Option Addr) (a0n : Nat) (a0c : Nat) (a1 : Int) (w : World) (R : Value → World → Prop) : Prop :=
  cl Try.prog 107 [.slice a0 a0n a0c, .int .i64 a1] w fun e4 w1 => ∃ x3 : Int, e4 = Ending.returned (.int .i64 x3) ∧
  R (.bool (decide (x3 ≥ 0))) w1
def An106 : An := .seq (.leaf) (.seq (.leaf) (.leaf))
theorem V106_eq (a0 : Option Addr) (a0n : Nat) (a0c : Nat) (a1 : Int) (w : World) (R : Value → World → Prop) : evF Try.prog Try.f106 An106 [.slice a0 a0n a0c, .int .i64 a1] w R = V106 a0 a0n a0c a1 w R := by kernel_rfl
theorem V106_calls (a0 : Option Addr) (a0n : Nat) (a0c : Nat) (a1 : Int) (w : World) (R : Value → World → Prop) (h : V106 a0 a0n a0c a1 w R) : Calls Try.prog 106 #[.slice a0 a0n a0c, .int .i64 a1] w fun e w' => ∃ v, e = .returned v ∧ R v w' :=
  calls_of_ev (args := [.slice a0 a0n a0c, .int .i64 a1]) Try.func106 (Nat.le_of_ble_eq_true (by kernel_rfl)) (by rw [V106_eq]; exact h)
theorem ok106 : fnOk Try.prog 106 = true := by kernel_rfl

/-! slices.Index[[]int,int] -/
def V107 (a0 : Option Addr) (a0n : Nat) (a0c : Nat) (a1 : Int) (w : World) (R : Value → World → Prop) : Prop :=
  lp (σ := Int × Unit) (fun s5 w1 k4 => match s5 with
    | (v3, _) =>
    pif (decide (v3 < (a0n : Int))) (
      ixA a0 a0n v3 1 fun p9 =>
      ldI .i64 w1 p9 fun x10 =>
      pif (a1 == x10) (
        R (.int .i64 v3) w1) (
        k4 ((IntKind.wrap .i64 (v3 + 1)), ()) w1)) (
      R (.int .i64 (-1)) w1)) (0, ()) w
def An107 : An := .seq (.leaf) (.seq (.seq (.leaf) (.blk (.loop [(8, .one (.int .i64))] (.seq (.leaf) (.seq (.cond (.leaf) (.leaf)) (.seq (.blk (.seq (.leaf) (.seq (.leaf) (.cond (.seq (.leaf) (.leaf)) (.leaf))))) (.leaf))))))) (.seq (.leaf) (.leaf)))
theorem V107_eq (a0 : Option Addr) (a0n : Nat) (a0c : Nat) (a1 : Int) (w : World) (R : Value → World → Prop) : evF Try.prog Try.f107 An107 [.slice a0 a0n a0c, .int .i64 a1] w R = V107 a0 a0n a0c a1 w R := by kernel_rfl
theorem V107_calls (a0 : Option Addr) (a0n : Nat) (a0c : Nat) (a1 : Int) (w : World) (R : Value → World → Prop) (h : V107 a0 a0n a0c a1 w R) : Calls Try.prog 107 #[.slice a0 a0n a0c, .int .i64 a1] w fun e w' => ∃ v, e = .returned v ∧ R v w' :=
  calls_of_ev (args := [.slice a0 a0n a0c, .int .i64 a1]) Try.func107 (Nat.le_of_ble_eq_true (by kernel_rfl)) (by rw [V107_eq]; exact h)
theorem ok107 : fnOk Try.prog 107 = true := by kernel_rfl

end Go.Proofs.Ytmhjehodfggleaa.T

/- Entries in memory; literals, places and reasons. -/
set_option linter.unusedVariables false
set_option linter.unusedSimpArgs false
set_option maxRecDepth 100000
namespace Go.Proofs.Ytmhjehodfggleaa.Learn
open Go Go.Proofs.Ytmhjehodfggleaa.Vc Go.Proofs.Ytmhjehodfggleaa.T
open Go.Proofs.Ytmhjehodfggleaa.Apart (RdL own_rdl wrap_nat getE own_len copy same take_snoc Sl sv)

abbrev I (n : Int) : Value := .int .i64 n
abbrev i64 (x : Int) : Prop := -9223372036854775808 ≤ x ∧ x ≤ 9223372036854775807
def neg (x : Int) : Int := IntKind.wrap .i64 (0 - x)
/-- an entry -/
structure En where
  lit : Int
  lev : Int
  rs : List Int
/-- entries wherever they lie -/
structure RdE (w : World) (p : Option Addr) (n : Nat) (es : List En) : Prop where
  len : es.length = n
  cell : ∀ (i : Nat) (x : En), es[i]? = some x → ∃ a q rn rc, p = some a ∧ w.cell? ((a.add (i * 3)).add 0) = some (I x.lit) ∧ w.cell? ((a.add (i * 3)).add 1) = some (I x.lev) ∧ w.cell? ((a.add (i * 3)).add 2) = some (.slice q rn rc) ∧ RdL w q rn x.rs
/-- an entry's own cells -/
def At (w : World) (a : Addr) (x : En) : Prop := ∃ q rn rc, w.cell? (a.add 0) = some (I x.lit) ∧ w.cell? (a.add 1) = some (I x.lev) ∧ w.cell? (a.add 2) = some (.slice q rn rc) ∧ RdL w q rn x.rs
section
variable {w w' : World} {p : Option Addr} {n c : Nat} {es : List En}
theorem RdE.keep0 (h : RdE w p n es) (hk : Keep None w w') : RdE w' p n es := ⟨h.len, fun i x hx => by
  obtain ⟨a, q, rn, rc, e, c0, c1, c2, hr⟩ := h.cell i x hx
  exact ⟨a, q, rn, rc, e, hk.cell c0 fun h => h, hk.cell c1 fun h => h, hk.cell c2 fun h => h, hr.keep0 hk⟩⟩
theorem RdE.take (h : RdE w p n es) {m : Nat} (hm : m ≤ n) : RdE w p m (es.take m) := ⟨by have := h.len; simp; omega, fun i x hx => by
  rw [List.getElem?_take] at hx
  split at hx
  · exact h.cell i x hx
  · cases hx⟩
theorem RdE.ix (h : RdE w p n es) {i : Nat} {x : En} (hx : es[i]? = some x) {K : Addr → Prop} (hk : ∀ a, At w a x → K a) : ixA p n (i : Int) 3 K := by
  have hl := h.len
  have hi := (List.getElem?_eq_some_iff.1 hx).1
  obtain ⟨a, q, rn, rc, rfl, c0, c1, c2, hr⟩ := h.cell i x hx
  refine ⟨by omega, by omega, ?_⟩
  show K _
  rw [Int.toNat_natCast]
  exact hk _ ⟨q, rn, rc, c0, c1, c2, hr⟩
theorem At.keep0 {a : Addr} {x : En} (h : At w a x) (hk : Keep None w w') : At w' a x := by
  obtain ⟨q, rn, rc, c0, c1, c2, hr⟩ := h
  exact ⟨q, rn, rc, hk.cell c0 fun h => h, hk.cell c1 fun h => h, hk.cell c2 fun h => h, hr.keep0 hk⟩
/-- a call that answers v and changes nothing that was there -/
def Ans (w : World) (v0 : Value) (v : Value) (w' : World) : Prop := v = v0 ∧ Keep None w w'
theorem ans_of {k : FuncId} {args : Array Value} {v0 : Value} (h : Calls Try.prog k args w fun e w' => ∃ v, e = .returned v ∧ Ans w v0 v w') : Calls Try.prog k args w fun e w' => e = .returned v0 ∧ Keep None w w' :=
  h.mono fun e w' ⟨v, he, hv, hk⟩ => ⟨by rw [he, hv], hk⟩
/-- is it a literal? -/
def fl (l : Int) : Bool := decide (l ≠ 0) && (decide (-1048576 ≤ l) && decide (l ≤ 1048576))
theorem fl_iff {l : Int} : fl l = true ↔ l ≠ 0 ∧ -1048576 ≤ l ∧ l ≤ 1048576 := by
  unfold fl
  simp only [Bool.and_eq_true, decide_eq_true_eq]
theorem fl33 (l : Int) : Calls Try.prog 29 #[I l] w fun e w' => e = .returned (.bool (fl l)) ∧ Keep None w w' := by
  refine ans_of (V29_calls l w (Ans w _) ?_)
  unfold V29
  refine ⟨?_, Keep.refl _ _⟩
  congr 1
  rw [Bool.eq_iff_iff, fl_iff]
  simp [and_assoc]
theorem all_snoc {cs : List Int} {i : Nat} {x : Int} (hx : cs[i]? = some x) : (cs.take (i + 1)).all fl = ((cs.take i).all fl && fl x) := by
  rw [take_snoc hx, List.all_append]
  simp
theorem all_no {cs : List Int} {x : Int} (hx : x ∈ cs) (h : fl x = false) : cs.all fl = false := by
  rw [List.all_eq_false]
  exact ⟨x, hx, by rw [h]; decide⟩
theorem sound39 {cs : List Int} (h : RdL w p n cs) (hn : n ≤ 1099511627776) : Calls Try.prog 50 #[.slice p n c] w fun e w' => e = .returned (.bool (cs.all fl)) ∧ Keep None w w' := by
  refine ans_of (V50_calls p n c w (Ans w _) ?_)
  unfold V50
  have hl := h.len
  refine lp_of (fun s w1 => ∃ i : Nat, s.1 = (i : Int) ∧ i ≤ n ∧ (cs.take i).all fl = true ∧ Keep None w w1) (fun s _ => (n - s.1).toNat) ⟨0, rfl, Nat.zero_le _, rfl, Keep.refl _ _⟩ ?_
  rintro ⟨i', ⟨⟩⟩ w1 ⟨i, rfl, hi, hall, k1⟩
  simp only []
  refine pif_of (fun hlt => ?_) fun hge => ?_
  · have hlt : i < n := by simpa using hlt
    rw [wrap_nat i (by omega)]
    refine (h.keep0 k1).ix hlt fun a x hx ha => ldI_of ha (cl_of ok29 (fl33 x) fun e w2 ⟨he, k2⟩ => ⟨_, he, ?_⟩)
    refine pif_of (fun hb => ⟨?_, k1.then0 k2⟩) fun hb => ?_
    · rw [all_no (List.mem_of_getElem? hx) (by simpa using hb)]
    · exact ⟨⟨i + 1, rfl, hlt, by rw [all_snoc hx, hall]; simpa using hb, k1.then0 k2⟩, by omega⟩
  · have hge : i = n := by simp at hge; omega
    subst hge
    rw [← hl, List.take_length] at hall
    exact ⟨by rw [hall], k1⟩
end
end Go.Proofs.Ytmhjehodfggleaa.Learn

/- What makes a trail: the document's Formed. -/
set_option linter.unusedVariables false
set_option linter.unusedSimpArgs false
set_option maxRecDepth 100000
namespace Go.Proofs.Ytmhjehodfggleaa.Learn
open Go Go.Proofs.Ytmhjehodfggleaa.Vc Go.Proofs.Ytmhjehodfggleaa.T
open Go.Proofs.Ytmhjehodfggleaa.Apart (RdL own_rdl wrap_nat getE own_len copy same take_snoc Sl sv)

section
variable {w w' : World} {p : Option Addr} {n c : Nat} {es : List En}
theorem index65 {cs : List Int} (h : RdL w p n cs) (hn : n ≤ 1099511627776) (x : Int) : Calls Try.prog 107 #[.slice p n c, I x] w fun e w' => ∃ v, e = .returned (I v) ∧ (0 ≤ v ↔ x ∈ cs) ∧ Keep None w w' := by
  refine (V107_calls p n c x w (fun r w' => ∃ v, r = I v ∧ (0 ≤ v ↔ x ∈ cs) ∧ Keep None w w') ?_).mono fun e w' ⟨r, he, v, hr, hk⟩ => ⟨v, by rw [he, hr], hk⟩
  unfold V107
  have hl := h.len
  refine lp_of (fun s w1 => ∃ i : Nat, s.1 = (i : Int) ∧ i ≤ n ∧ x ∉ cs.take i ∧ Keep None w w1) (fun s _ => (n - s.1).toNat) ⟨0, rfl, Nat.zero_le _, by simp, Keep.refl _ _⟩ ?_
  rintro ⟨i', ⟨⟩⟩ w1 ⟨i, rfl, hi, hno, k1⟩
  simp only []
  refine pif_of (fun hlt => ?_) fun hge => ?_
  · have hlt : i < n := by simpa using hlt
    rw [wrap_nat i (by omega)]
    refine (h.keep0 k1).ix hlt fun a y hy ha => ldI_of ha (pif_of (fun he => ?_) fun he => ?_)
    · have he : x = y := by simpa using he
      subst he
      exact ⟨i, rfl, ⟨fun _ => List.mem_of_getElem? hy, fun _ => by omega⟩, k1⟩
    · have he : ¬ x = y := by simpa using he
      refine ⟨⟨i + 1, rfl, hlt, ?_, k1⟩, by omega⟩
      rw [take_snoc hy, List.mem_append, List.mem_singleton]
      rintro (hh | hh)
      · exact hno hh
      · exact he hh
  · have hge : i = n := by simp at hge; omega
    subst hge
    rw [← hl, List.take_length] at hno
    exact ⟨-1, rfl, ⟨fun h => by omega, fun h => absurd h hno⟩, k1⟩
theorem has60 {cs : List Int} (h : RdL w p n cs) (hn : n ≤ 1099511627776) (x : Int) : Calls Try.prog 106 #[.slice p n c, I x] w fun e w' => e = .returned (.bool (decide (x ∈ cs))) ∧ Keep None w w' := by
  refine ans_of (V106_calls p n c x w (Ans w _) ?_)
  unfold V106
  refine cl_of ok107 (index65 h hn x) fun e w1 ⟨v, he, hv, k1⟩ => ⟨v, he, ?_, k1⟩
  congr 1
  exact decide_eq_decide.2 hv
theorem has55 {cs : List Int} (h : RdL w p n cs) (hn : n ≤ 1099511627776) (x : Int) : Calls Try.prog 104 #[.slice p n c, I x] w fun e w' => e = .returned (.bool (fl x && decide (x ∈ cs))) ∧ Keep None w w' := by
  refine ans_of (V104_calls p n c x w (Ans w _) ?_)
  unfold V104
  refine cl_of ok29 (fl33 x) fun e w1 ⟨he, k1⟩ => ⟨_, he, ?_⟩
  cases hf : fl x with
  | true => exact gd_t rfl (cl_of ok106 (has60 (h.keep0 k1) hn x) fun e w2 ⟨he, k2⟩ => ⟨_, he, rfl, k1.then0 k2⟩)
  | false => exact gd_f rfl ⟨rfl, k1⟩
/-- where a literal became false -/
def Pl (es : List En) (l v : Int) : Prop := (v = -1 ∧ ∀ y ∈ es, y.lit ≠ neg l) ∨ ∃ (i : Nat) (x : En), v = (i : Int) ∧ es[i]? = some x ∧ x.lit = neg l ∧ ∀ y ∈ es.take i, y.lit ≠ neg l
theorem Pl.nonneg {es : List En} {l v : Int} (h : Pl es l v) : 0 ≤ v ↔ ∃ y ∈ es, y.lit = neg l := by
  rcases h with ⟨rfl, h⟩ | ⟨i, x, rfl, hx, hl, _⟩
  · exact ⟨fun h => by omega, fun ⟨y, hy, hl⟩ => absurd hl (h y hy)⟩
  · exact ⟨fun _ => ⟨x, List.mem_of_getElem? hx, hl⟩, fun _ => by omega⟩
theorem take_snocE {es : List En} {i : Nat} {x : En} (hx : es[i]? = some x) : es.take (i + 1) = es.take i ++ [x] := by
  rw [List.take_add_one, hx]; rfl
/-- the level behind some entries -/
def lastLev (es : List En) : Int := match es.getLast? with | some x => x.lev | none => 0
theorem lastLev_snoc {es : List En} {i : Nat} {x : En} (hx : es[i]? = some x) : lastLev (es.take (i + 1)) = x.lev := by
  rw [take_snocE hx]; unfold lastLev; simp
def Lev (pre : List En) (x : En) : Prop := (x.lev = lastLev pre ∨ x.lev = IntKind.wrap .i64 (lastLev pre + 1)) ∧ (x.lev = 0 ∨ (x.lev ≠ lastLev pre ↔ x.rs = []))
def Rsn (pre : List En) (x : En) : Prop := x.rs.all fl = true ∧ x.lit ∈ x.rs ∧ ∀ l ∈ x.rs, l ≠ x.lit → ∃ y ∈ pre, y.lit = neg l
theorem slE {p : Option Addr} {c : Nat} (h : c ≠ 0) : slA p c 0 3 = p := by
  unfold slA
  cases p with
  | none => simp
  | some a =>
    simp only [Nat.sub_zero, if_neg h, Option.map_some, Nat.zero_mul]
    unfold Addr.add
    simp
/-- an entry behind others -/
def Good (pre : List En) (x : En) : Prop := fl x.lit = true ∧ (∀ y ∈ pre, y.lit ≠ x.lit ∧ y.lit ≠ neg x.lit) ∧ Lev pre x ∧ (x.rs ≠ [] → Rsn pre x)
def Fm (es : List En) : Prop := ∀ (i : Nat) (x : En), es[i]? = some x → Good (es.take i) x
theorem fm_no {es : List En} {i : Nat} {x : En} (hx : es[i]? = some x) (h : ¬ Good (es.take i) x) : ¬ Fm es := fun hf => h (hf i x hx)
theorem neg_neg {l : Int} (h : fl l = true) : neg (neg l) = l := by
  have := fl_iff.1 h
  unfold neg
  rw [IntKind.wrap_i64, IntKind.wrap_i64]; omega
end
end Go.Proofs.Ytmhjehodfggleaa.Learn
