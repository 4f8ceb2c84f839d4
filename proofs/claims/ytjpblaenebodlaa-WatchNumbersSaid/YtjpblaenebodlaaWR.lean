/- Watch: Undo. -/
import Derived.Test.YtjpblaenebodlaaWQ
set_option linter.unusedVariables false
set_option linter.unusedSimpArgs false
set_option linter.unusedSectionVars false
set_option maxRecDepth 100000
namespace Go.Proofs.Ytjpblaenebodlaa.Wt
open Go Go.Proofs.Ytjpblaenebodlaa.Vc Go.Proofs.Ytjpblaenebodlaa.T
open Go.Proofs.Ytjpblaenebodlaa.Apart (RdL own_rdl wrap_nat getE own_len copy same take_snoc Sl sv New)
open Go.Proofs.Ytjpblaenebodlaa.Lits (fl fl_iff idx idx_inj idx_range Ans ans_of indexP formedP tidyP Td Srt)

/-- the last assumption taken back -/
theorem Iv.undo {C : List (List Int)} {S : WS} {hd0 sz0 : Nat} (h : Iv C S hd0 sz0 fun _ _ => False) {st' : List Nat} {s : Nat} (hst : S.st = st' ++ [s]) (hs1 : S.st.Pairwise (· ≤ ·)) : Iv C { S with tr := S.tr.take s, hd := s, st := st' } s s fun _ _ => False := by
  have hsm : s ∈ S.st := by rw [hst]; simp
  have hsh := h.st0 s hsm
  have hh1 := h.hd0l
  have hh2 := h.hdl
  have hle : ∀ x ∈ st', x ≤ s := fun x hx => by
    rw [hst] at hs1
    exact (List.pairwise_append.1 hs1).2.2 x hx s (by simp)
  have hsub : (S.tr.take s).Sublist S.tr := List.take_sublist _ _
  have tk : ∀ {p : Nat} {x : Int}, (S.tr.take s)[p]? = some x → S.tr[p]? = some x ∧ p < s := fun {p x} hh => by
    have := (List.getElem?_eq_some_iff.1 hh).1
    rw [List.length_take] at this
    rw [List.getElem?_take, if_pos (by omega)] at hh
    exact ⟨hh, by omega⟩
  have kt : ∀ {p : Nat} {x : Int}, S.tr[p]? = some x → p < s → (S.tr.take s)[p]? = some x := fun {p x} hh hlt => by rw [List.getElem?_take, if_pos hlt]; exact hh
  have hlen : (S.tr.take s).length = s := by rw [List.length_take]; omega
  refine ⟨⟨h.wf.nvb, fun l hl hl' => h.wf.cons l (hsub.subset hl) (hsub.subset hl'), hsub.nodup h.wf.nd, fun l hl => h.wf.wi l (hsub.subset hl), Nat.le_trans hsub.length_le h.wf.trl, h.wf.hel, h.wf.lsl, h.wf.lol⟩, Nat.le_of_eq hlen.symm, hle, Nat.le_refl _, Nat.le_refl _, Nat.le_of_eq hlen.symm, h.w1, h.w3,
    fun i h' L u v hi hH a b hab p hp1 hp2 => ?_, h.dm, fun c hc => ?_, h.src, h.cl, h.lop⟩
  · have hp2' : p < s := hp2
    obtain ⟨hp1', _⟩ := tk hp1
    rcases h.w4 i h' L u v hi hH a b hab p hp1' (by omega) with hq | ⟨q, hq1, hq2, _⟩
    · exact hq.elim
    · have hqs : q < s := by
        rcases Nat.lt_or_ge q s with hh | hh
        · exact hh
        · have := hq2 s hsm hh; omega
      exact Or.inr ⟨q, kt hq1 hqs, fun x hx => hq2 x (by rw [hst]; exact List.mem_append_left _ hx), fun _ => hqs⟩
  · rcases h.cov c hc with hq | hq | ⟨x, hx, q, hq1, hq2, _⟩
    · exact Or.inl hq
    · exact Or.inr (Or.inl hq)
    · exact Or.inr (Or.inr ⟨x, hx, q, kt hq1 (hq2 s hsm), fun y hy => hq2 y (by rw [hst]; exact List.mem_append_left _ hy), hq2 s hsm⟩)
theorem At.undo {C : List (List Int)} {S : WS} (h : At C S) {st' : List Nat} {s : Nat} (hst : S.st = st' ++ [s]) : At C { S with tr := S.tr.take s, hd := s, st := st', rest := false } := by
  have hh := h.iv.undo hst h.st1
  have hl : (S.tr.take s).length = s := by
    have := h.iv.st0 s (by rw [hst]; simp)
    have := h.iv.hdl
    rw [List.length_take]; omega
  refine ⟨?_, ?_, fun hf => by cases hf⟩
  · have h2 := hh.flags false S.clash
    show Iv C _ s (S.tr.take s).length _
    rw [hl]; exact h2
  · have := h.st1
    rw [hst] at this
    exact (List.pairwise_append.1 this).1
theorem slA_z (p : Option Addr) (c sz : Nat) : slA p c 0 sz = p := by
  unfold slA
  split
  · rfl
  · cases p with
    | none => rfl
    | some a => simp [Addr.add]
def zap (vals : List Int) (ls : List Int) : List Int := ls.foldl (fun v l => v.set (l.natAbs - 1) 0) vals
theorem undo9 {C : List (List Int)} {w : World} {b : Nat} {o : Nat → Int} {h : Hs} {S : WS} (hR : Rp noEx w b o h S) (hA : At C S) (hsl : S.st.length ≤ 17592186044416) :
    Calls Try.prog 9 #[Pt b] w fun e w' => (e = .returned (I 3) ∧ S.st = [] ∧ Keep None w w') ∨
      (e = .returned (I 0) ∧ ∃ st' s, S.st = st' ++ [s] ∧ Nx tMine noEx w b o { S with tr := S.tr.take s, hd := s, st := st', rest := false } w') := by
  refine (V9_calls (some ⟨b, 0, none⟩) w (fun v w' => (v = I 3 ∧ S.st = [] ∧ Keep None w w') ∨
      (v = I 0 ∧ ∃ st' s, S.st = st' ++ [s] ∧ Nx tMine noEx w b o { S with tr := S.tr.take s, hd := s, st := st', rest := false } w')) ?_).mono fun e w' ⟨v, he, hk⟩ => ?_
  · unfold V9
    have hl := hR.stLen
    have hwf := hA.iv.wf
    have e1 : IntKind.wrap .i64 ((h.ss.2.1 : Int) - 1) = (h.ss.2.1 : Int) - 1 := by rw [IntKind.wrap_i64]; omega
    refine nn_of (ldC_of (x := h.ss.1) (n := h.ss.2.1) (c := h.ss.2.2) (by rw [add_mk]; exact hR.self.cell 2) ?_)
    rw [e1]
    refine pif_of (fun hq => Or.inl ⟨rfl, List.eq_nil_of_length_eq_zero (by have := of_decide_eq_true hq; omega), Keep.refl _ _⟩) fun hq => ?_
    have hpos : 0 < S.st.length := by have := of_decide_eq_false hq; omega
    obtain ⟨st', s, hst⟩ : ∃ st' s, S.st = st' ++ [s] := ⟨S.st.dropLast, S.st.getLast (fun e => by rw [e] at hpos; simp at hpos), (List.dropLast_concat_getLast _).symm⟩
    have hl' : st'.length + 1 = h.ss.2.1 := by rw [← hl, hst]; simp
    have e2 : (h.ss.2.1 : Int) - 1 = (st'.length : Nat) := by omega
    rw [e2]
    have hsh := hA.iv.st0 s (by rw [hst]; simp)
    have hhd := hA.iv.hdl
    refine nn_of (ldC_of (x := h.ss.1) (n := h.ss.2.1) (c := h.ss.2.2) (by rw [add_mk]; exact hR.self.cell 2) ?_)
    refine hR.st.ix (by omega) (by omega) fun bq hbq => ?_
    have hSt := hR.st
    rw [hbq] at hSt
    refine ldI_of (x := (s : Nat)) (by rw [hSt.cell _ (by omega), Int.toNat_natCast, Nat.mul_one, List.getElem?_map, hst, List.getElem?_append_right (Nat.le_refl _), Nat.sub_self]; rfl) ?_
    refine cl_of ok28 (cut28 hR hwf.nvb hwf.cons hwf.nd hwf.wi (by have := hwf.trl; omega) hwf.trl (n := s) (by omega)) fun e w1 ⟨he, o1, h1, hR1, ha1, k1⟩ => ⟨he, ?_⟩
    have hl1 : S.st.length = h1.ss.2.1 := hR1.stLen
    have hle1 := hR1.st.le
    refine nn_of (ldC_of (x := h1.ss.1) (n := h1.ss.2.1) (c := h1.ss.2.2) (by rw [add_mk]; exact hR1.self.cell 2) ⟨by omega, by omega, nn_of ?_⟩)
    rw [slA_z, Int.toNat_natCast, Nat.sub_zero, Nat.sub_zero]
    simp only [add_mk, Nat.zero_add, Nat.add_zero]
    refine st_of hR1.self (by simp) rfl fun w2 hB2 k2 z2 => ?_
    have kk : Keep (fun j => (fun t : Int => t = -6) (o1 j)) w1 w2 := k2.mono fun j _ hj => by rw [show j = b from hj]; exact hR1.selfO
    have hstC : Own w1 3 1 h1.ss.1 st'.length h1.ss.2.2 (st'.map fun n : Nat => I n) := by
      have h2 : Own w1 3 1 h1.ss.1 h1.ss.2.1 h1.ss.2.2 (S.st.map fun n : Nat => I n) := hR1.st
      have := h2.cut (m := st'.length) (by omega)
      rw [Nat.mul_one, ← List.map_take, hst, List.take_left] at this
      exact this
    have emin : min S.hd s = s := Nat.min_eq_right hsh
    have hR2 : Rp noEx w2 b o1 { h1 with ss := (h1.ss.1, st'.length, h1.ss.2.2) } { S with tr := S.tr.take s, hd := min S.hd s, st := st' } :=
      hR1.turnSelf k2 (S' := { S with tr := S.tr.take s, hd := min S.hd s, st := st' }) (h' := { h1 with ss := (h1.ss.1, st'.length, h1.ss.2.2) }) hB2 ⟨rfl, rfl, rfl, rfl⟩ ⟨rfl, rfl, rfl, rfl⟩ (Rp.own (T := fun t => t = -6) hstC hR1.stO kk (by decide)) hR1.stO (Rp.own (T := fun t => t = -6) hR1.lo hR1.loO kk (by decide)) hR1.loO
    rw [emin] at hR2
    have h6 := hR.selfO
    have hb6 : ∀ {j : Nat}, One b j → tMine (o j) := fun {j} hj => by rw [show j = b from hj]; exact fun e => by omega
    have h9 := hR2.setRest (r := false) (K := fun w' => Nx tMine noEx w b o { S with tr := S.tr.take s, hd := s, st := st', rest := false } w') fun w3 hR3 k3 => ⟨o1, _, hR3, ha1, ((k1.mono fun j hj hh => ?_).trans k2 fun j hj hh => hb6 hh).trans k3 fun j hj hh => hb6 hh⟩
    · simp only [add_mk, Nat.zero_add, Nat.add_zero] at h9
      refine nn_of ?_
      exact ⟨h9.1, h9.2.1, h9.2.2.1, Or.inr ⟨trivial, st', s, hst, h9.2.2.2⟩⟩
    · have hh' : tPut (o j) := hh
      show o j ≠ -9
      unfold tPut at hh'; omega
  · rcases hk with ⟨rfl, hk⟩ | ⟨rfl, hk⟩
    · exact Or.inl ⟨he, hk⟩
    · exact Or.inr ⟨he, hk⟩
end Go.Proofs.Ytjpblaenebodlaa.Wt
