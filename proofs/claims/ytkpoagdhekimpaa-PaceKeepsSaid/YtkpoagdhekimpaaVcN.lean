/- The generator's theorems for code within a fence: in a round of a range over a function. Made by genN.py out of VcF, VcI, VcG. -/
import Derived.Test.YtkpoagdhekimpaaVcG
import Derived.OrdersIn
import Derived.TacticsIn
import Derived.RangeFuncCalls
set_option linter.unusedVariables false
set_option linter.unusedSimpArgs false
namespace Go.Proofs.Ytkpoagdhekimpaa.Vc
open Go

/-- a fence that lets all in -/
structure Wd (F : Fence) : Prop where
  fn : ∀ f, F.fn f
  depth : F.depth = none
  calls : ∀ {n : Nat} {P : Program} {f : FuncId} {args : Array Value} {w : World} {R : Ending → World → Prop}, Calls P f args w R → CallsIn F n P f args w R
theorem wd_wide : Wd Fence.wide := ⟨fun _ => trivial, rfl, fun h => callsIn_wide.2 h⟩
theorem wd_round (l : Nat) : Wd (Fence.wide.inRound l) := ⟨fun _ => trivial, rfl, fun h => CallsIn.inRound l (callsIn_wide.2 h)⟩
theorem semAt_val {P : Program} {F : Fence} {o : Oper} {a : Act} {w : World} (h : ∀ c, o.op ≠ .defer c) : (o.semAt F.round a.eval).run P w = (execOp a.eval o).run P w := by
  rw [Oper.semAt_eq _ _ _ h]
theorem wpIn_loop_ghost {F : Fence} {N : Nat} {P : Program} {Q : Exit → Act → World → Prop} {a : Act} {w : World} {c : Code} (I : Nat → Act → World → Prop) (n₀ : Nat) (h₀ : I n₀ a w)
    (round : ∀ n a w, I n a w → c.wpIn F N P (Exit.then (fun a' w' => ∃ n', n' < n ∧ I n' a' w') Q) a w) : (Code.loop c).wpIn F N P Q a w := by
  refine wpIn_loop (fun a w => ∃ n, I n a w) (fun a w => leastOf (fun n => I n a w)) ⟨n₀, h₀⟩ ?_
  intro a w hI
  refine wpIn_mono (round _ a w (leastOf_spec hI).1) ?_
  intro e a' w' hq
  cases e with
  | normal =>
    obtain ⟨n', hlt, hI'⟩ := hq
    exact ⟨⟨n', hI'⟩, Nat.lt_of_le_of_lt ((leastOf_spec ⟨n', hI'⟩).2 n' hI') hlt⟩
  | _ => exact hq
theorem defer_no {P : Program} {o : Oper} {a : Act} {w : World} {K : Value → World → Prop} (h : Upn P K ((execOp a.eval o).run P w)) : ∀ c, o.op ≠ .defer c := by
  intro c hc
  obtain ⟨dst, op, type, pos, after, guard⟩ := o
  simp only [] at hc
  subst hc
  simp only [execOp, Sem.run_bind] at h
  cases hr : (resolve a.eval c type).run P w with
  | ok d w' => rw [hr] at h; exact h
  | halt x w' => rw [hr] at h; exact h
theorem upn_wpIn {F : Fence} {N : Nat} (hW : Wd F) {P : Program} {o : Oper} {a : Act} {w : World} {K : Value → World → Prop} {next : Act → World → Prop} {Q : Exit → Act → World → Prop}
    (h : Upn P K ((execOp a.eval o).run P w)) (hn : ∀ v w', K v w' → next (a.put o.dst v) w') : o.wpIn F N P a w next Q := by
  refine ⟨fun f _ => hW.fn f, ?_⟩
  rw [semAt_val (defer_no h)]
  generalize (execOp a.eval o).run P w = r at h
  cases r with
  | ok x w' =>
    cases x <;> simp only [Upn] at h <;> try exact h.elim
    · exact hn _ _ h
    · exact hn _ _ h
    · refine ⟨(fun hd => by rw [hW.depth] at hd; cases hd), hW.calls (h.mono fun e w'' he => ?_)⟩
      obtain ⟨v, rfl, hK⟩ := he
      exact hn _ _ hK
  | halt x w' => exact h.elim
theorem pure_wpIn {F : Fence} {N : Nat} (hW : Wd F) {P : Program} {o : Oper} {a : Act} {w : World} {v : Value} {next : Act → World → Prop} {Q : Exit → Act → World → Prop}
    (h : (execOp a.eval o).run P w = .ok (.value v) w) (hn : next (a.put o.dst v) w) : o.wpIn F N P a w next Q :=
  upn_wpIn hW (K := fun v' w' => v' = v ∧ w' = w) (by rw [h]; exact ⟨rfl, rfl⟩) fun v' w' hh => by obtain ⟨rfl, rfl⟩ := hh; exact hn
theorem evPrim_specIn {F : Fence} {N : Nat} (hW : Wd F) {P : Program} {o : Oper} {E : Env} {p : Path} {w : World} {K : Value → World → Prop} {a : Act} {Q : Exit → Act → World → Prop}
    (hs : Sim E a) (hp : On a p) (h : evPrim P o E p w K) : o.wpIn F N P a w (fun a' w' => ∃ v, a' = a.put o.dst v ∧ K v w') Q :=
  upn_wpIn hW (evPrim_run hs hp h) fun v w' hK => ⟨v, rfl, hK⟩
theorem evReg_specIn {F : Fence} {N : Nat} (hW : Wd F) {P : Program} {n : Nat} {ops : Array Oper} {K : Env → World → Prop} {Q : Exit → Act → World → Prop} : ∀ (l : List Oper) (le e : Env) (w : World) (a : Act),
    Loc le e → Sim (le ++ e) a → a.tmps.size = n → evReg P n ops l le e w K →
    (∀ a' w' e', Sim e' a' → (∀ x ∈ e', x.path = []) → a'.tmps.size = n → a'.defers = a.defers → (∀ t, ¬ dsts l t → a'.tmps[t]? = a.tmps[t]?) → K e' w' → Q .normal a' w') →
    wpListIn F N P ops Q l a w := by
  intro l
  induction l with
  | nil =>
    intro le e w a hl hs hn h hQ
    simp only [evReg] at h
    split at h
    · rename_i hw
      exact hQ a w _ (fun t en hlk => hs t en (look_of_strong hl.di hw hlk)) (fun x hx => by
        rcases List.mem_append.1 hx with hx | hx
        · have := (List.mem_filter.1 hx).2; simpa using this
        · exact hl.st x hx) hn rfl (fun t _ => rfl) h
    · exact h.elim
  | cons o l ih =>
    intro le e w a hl hs hn h hQ
    simp only [evReg] at h
    cases hd : dstOk n le o.dst with
    | false => rw [hd] at h; exact h.elim
    | true =>
      rw [hd] at h
      simp only [] at h
      -- the rest, behind a value that was put
      have rest : ∀ (p : Path) (v v' : Value) (w' : World), (∀ y ∈ p, ∃ z ∈ le, z.slot = y.1) → (On a p → v' = v) → (¬ On a p → v' = undef) →
          evReg P n ops l (put1 o.dst p v le) e w' K → wpListIn F N P ops Q l (a.put o.dst v') w' := by
        intro p v v' w' hp h1 h2 h3
        obtain ⟨hs', hl'⟩ := hs.put1 hl hn hd hp h1 h2
        refine ih _ e w' _ hl' hs' (by rw [put_size]; exact hn) h3 fun a' w'' e' q1 q2 q3 q4 q5 q6 => hQ a' w'' e' q1 q2 q3 (by rw [q4, put_defers]) (fun t ht => ?_) q6
        rw [q5 t (fun ⟨o', ho', hd'⟩ => ht ⟨o', List.mem_cons_of_mem _ ho', hd'⟩)]
        cases hdd : o.dst with
        | none => rfl
        | some d => exact put_ne fun hdt => ht ⟨o, List.mem_cons_self, by rw [hdd, hdt]⟩
      cases hg : o.guard with
      | none =>
        rw [hg] at h
        simp only [] at h
        unfold wpListIn
        rw [if_pos (by simp [Region.wanted, hg])]
        cases hv : evPure P o.op (le ++ e) [] with
        | some v =>
          rw [hv] at h
          exact pure_wpIn hW (evPure_spec hs (On.nil a) hv w) (rest [] v v w (fun y hy => by cases hy) (fun _ => rfl) (fun hno => absurd (On.nil a) hno) h)
        | none =>
          rw [hv] at h
          refine Oper.wpIn_mono (fun a' w' hx => ?_) (evPrim_specIn (Q := Q) hW hs (On.nil a) h)
          obtain ⟨v, rfl, hK⟩ := hx
          exact rest [] v v w' (fun y hy => by cases hy) (fun _ => rfl) (fun hno => absurd (On.nil a) hno) hK
      | some jw =>
        obtain ⟨j, want⟩ := jw
        rw [hg] at h
        simp only [] at h
        cases hso : slotOf ops j with
        | none => rw [hso] at h; exact h.elim
        | some s =>
          rw [hso] at h
          simp only [] at h
          cases hle : look le s with
          | none => rw [hle] at h; exact h.elim
          | some en =>
            rw [hle] at h
            simp only [] at h
            have hen := hs s en (look_append_left hle)
            have hsl := look_slot hle
            have hp : ∀ y ∈ (s, want) :: en.path, ∃ z ∈ le, z.slot = y.1 := fun y hy => by
              rcases List.mem_cons.1 hy with rfl | hy
              · exact ⟨en, look_mem hle, hsl⟩
              · exact hl.wk en (look_mem hle) y hy
            have hon : Region.wanted o (yielded ops a.tmps) = true ↔ On a ((s, want) :: en.path) := by
              rw [wanted_guard hg hso]
              constructor
              · intro hv
                have hop : On a en.path := Classical.byContradiction fun hno => by
                  have := hen.no hno; rw [hsl, hv] at this; simp [undef] at this
                intro y hy
                rcases List.mem_cons.1 hy with rfl | hy
                · exact hv
                · exact hop y hy
              · intro ho; exact ho (s, want) List.mem_cons_self
            unfold wpListIn
            cases hv : evPure P o.op (le ++ e) ((s, want) :: en.path) with
            | some v =>
              rw [hv] at h
              by_cases hw : Region.wanted o (yielded ops a.tmps) = true
              · rw [if_pos hw]
                exact pure_wpIn hW (evPure_spec hs (hon.1 hw) hv w) (rest _ v v w hp (fun _ => rfl) (fun hno => absurd (hon.1 hw) hno) h)
              · rw [if_neg hw]
                exact ⟨fun f _ => hW.fn f, rest _ v undef w hp (fun hy => absurd (hon.2 hy) hw) (fun _ => rfl) h⟩
            | none =>
              rw [hv] at h
              simp only [] at h
              split at h
              · rename_i c kd hc hkd
                have hcp := pathB_spec hs hc
                by_cases hw : Region.wanted o (yielded ops a.tmps) = true
                · rw [if_pos hw]
                  have h1 := h.1 (hcp.2 (hon.1 hw))
                  refine Oper.wpIn_mono (fun a' w' hx => ?_) (evPrim_specIn (Q := Q) hW hs (hon.1 hw) h1)
                  obtain ⟨v, rfl, hK⟩ := hx
                  obtain ⟨x, rfl, hK'⟩ := unk_spec hK
                  exact rest _ _ _ w' hp (fun _ => rfl) (fun hno => absurd (hon.1 hw) hno) hK'
                · rw [if_neg hw]
                  have hcf : c = false := by
                    cases c with
                    | false => rfl
                    | true => exact absurd (hon.2 (hcp.1 rfl)) hw
                  exact ⟨fun f _ => hW.fn f, rest _ _ undef w hp (fun hy => absurd (hon.2 hy) hw) (fun _ => rfl) (h.2 hcf)⟩
              · exact h.elim
section
variable {P : Program} {n : Nat} {ops : Array Oper} {bm : List Nat}
theorem draw_mainIn {F : Fence} {N : Nat} (hW : Wd F) (hdr : drOk P ops bm = true) {a0 : Act} (hn0 : a0.tmps.size = n) {e : Env} {K : Env → World → Prop} {Q : Exit → Act → World → Prop}
    (hQ : ∀ a' w' e', Sim e' a' → (∀ x ∈ e', x.path = []) → a'.tmps.size = n → a'.defers = a0.defers → (∀ t, (∀ j, ¬ Wr ops t j) → a'.tmps[t]? = a0.tmps[t]?) → K e' w' → Q .normal a' w') :
    ∀ (fuel : Nat) (listed : Array Bool) (a : Act) (w : World) (D : Nat) (f d : Nat) (pend : List Pd) (le : Env) (ac : Act) (out : Nat → Value),
      Rel ops listed D → leftN ops D = fuel → St ops a0 out D a → Clo ops D → (∀ k, hasB D k = true → hasB d k = true) → (∀ k, hasB d k = true → k < ops.size) →
      CI P ops a0 out e d pend le ac → firstR d ops.toList 0 = none → Owed P ops a0 out pend D d w → evT P n ops bm (f + 1) d pend le e w K →
      wpAnyIn F N P .any ops Q fuel listed a w := by
  simp only [drOk, Bool.and_eq_true] at hdr
  obtain ⟨⟨⟨⟨hdep, hac⟩, hbm⟩, hns⟩, hfol⟩ := hdr
  have hu := depOk_spec hdep
  have fin : ∀ (listed : Array Bool) (a : Act) (w : World) (D : Nat) (f d : Nat) (pend : List Pd) (le : Env) (ac : Act) (out : Nat → Value),
      Rel ops listed D → St ops a0 out D a → (∀ k, hasB D k = true → hasB d k = true) → (∀ k, hasB d k = true → k < ops.size) →
      CI P ops a0 out e d pend le ac → firstR d ops.toList 0 = none → evT P n ops bm (f + 1) d pend le e w K → (∀ i, i < ops.size → hasB D i = true) → Q .normal a w := by
    intro listed a w D f d pend le ac out hrel hst hDd hdlt hci hfr h hall
    simp only [evT, hfr] at h
    cases hre : readyE d ops.toList 0 with
    | cons x r =>
      exfalso
      have hm : x ∈ readyE d ops.toList 0 := by rw [hre]; exact List.mem_cons_self
      obtain ⟨m, h1, h2, h3⟩ := readyE_spec _ hm
      have hlt : x.1 < ops.size := by
        have := (List.getElem?_eq_some_iff.1 h2).1; simp at this; omega
      simp only [rdyB, Bool.and_eq_true, Bool.not_eq_true'] at h3
      rw [hDd _ (hall _ hlt)] at h3; cases h3.1
    | nil =>
      rw [hre] at h
      simp only [] at h
      split at h
      · split at h
        · rename_i hw
          have hteq : a.tmps = ac.tmps := by
            apply Array.ext_getElem?
            intro t
            by_cases hw : ∃ j, Wr ops t j
            · obtain ⟨j, hw⟩ := hw
              rw [hst.yes t j hw (hall j (wr_lt hw)), hci.st.yes t j hw (hDd j (hall j (wr_lt hw)))]
            · rw [hst.no t (fun j hj => absurd ⟨j, hj⟩ hw), hci.st.no t (fun j hj => absurd ⟨j, hj⟩ hw)]
          have haeq : a = ac := by
            cases a; cases ac
            simp only [Act.mk.injEq]
            exact ⟨hteq, hst.defers.trans hci.st.defers.symm⟩
          rw [haeq]
          refine hQ ac w _ (fun t en hlk => hci.sim t en (look_of_strong hci.loc.di hw hlk)) (fun x hx => ?_) (by rw [hci.st.size, hn0]) hci.st.defers (fun t ht => hci.st.no t fun j hj => absurd hj (ht j)) h
          rcases List.mem_append.1 hx with hx | hx
          · have := (List.mem_filter.1 hx).2; simpa using this
          · exact hci.loc.st x hx
        · exact h.elim
      · exact h.elim
  intro fuel
  induction fuel with
  | zero =>
    intro listed a w D f d pend le ac out hrel hleft hst hclo hDd hdlt hci hfr how h
    have hall := leftN_zero hleft
    have hready : Region.ready .any ops listed = [] := by
      cases hr : Region.ready .any ops listed with
      | nil => rfl
      | cons x r =>
        exfalso
        obtain ⟨o, ho, hrd⟩ := hrel.ready.1 (by rw [hr]; exact List.mem_cons_self)
        simp only [rdyB, Bool.and_eq_true, Bool.not_eq_true'] at hrd
        rw [hall x (Array.getElem?_eq_some_iff.1 ho).1] at hrd; cases hrd.1
    exact ⟨hready, fin listed a w D f d pend le ac out hrel hst hDd hdlt hci hfr h hall⟩
  | succ fuel ih =>
    intro listed a w D f d pend le ac out hrel hleft hst hclo hDd hdlt hci hfr how h
    refine ⟨fun hready => fin listed a w D f d pend le ac out hrel hst hDd hdlt hci hfr h (acy_ready hac hrel hready), fun i hi => ?_⟩
    obtain ⟨o, ho, hrdD⟩ := hrel.ready.1 hi
    have hilt : i < ops.size := (Array.getElem?_eq_some_iff.1 ho).1
    have hiD : hasB D i = false := by simp only [rdyB, Bool.and_eq_true, Bool.not_eq_true'] at hrdD; exact hrdD.1
    have hleft' : leftN ops (addB D i) = fuel := by have := leftN_add hilt hiD; omega
    unfold wpOpIn
    simp only [ho]
    cases hid : hasB d i with
    | true =>
      obtain ⟨hrd, ai, di, hrec, hdi, hya⟩ := how i o hid hiD ho
      obtain ⟨he, hw⟩ := same_run hu hns hclo hrec.2.1 hst hrec.1 ho hrdD hrec.2.2.1
      have hya' := hya.same he hw
      have hdst : ∀ t, o.dst = some t → t < a0.tmps.size := fun t ht => by
        have hwr : Wr ops t i := by unfold Wr; rw [ho]; exact ht
        have := hci.st.yes t i hwr hid
        rw [← hci.st.size]
        exact (Array.getElem?_eq_some_iff.1 this).1
      have next : wpAnyIn F N P .any ops Q fuel (listed.setIfInBounds i true) (a.put o.dst (out i)) w := by
        refine ih _ _ w (addB D i) f d pend le ac out (hrel.set hilt) hleft' (hst.put hu ho hdst) (hclo.add ho hrdD) (fun k hk => ?_) hdlt hci hfr (fun j oj hj hjn hoj => ?_) h
        · rw [hasB_add] at hk
          simp only [Bool.or_eq_true, decide_eq_true_eq] at hk
          rcases hk with hk | rfl
          · exact hDd k hk
          · exact hid
        · rw [hasB_add] at hjn
          simp only [Bool.or_eq_false_iff] at hjn
          exact how j oj hj hjn.1 hoj
      by_cases hwt : Region.wanted o (yielded ops a.tmps) = true
      · rw [if_pos hwt]
        exact pure_wpIn hW (hya'.1 hwt) next
      · rw [if_neg hwt]
        rw [hya'.2 (by simpa using hwt)] at next
        exact ⟨fun f _ => hW.fn f, next⟩
    | false =>
      have hrdd : rdyB d i o = true := by
        simp only [rdyB, Bool.and_eq_true, Bool.not_eq_true'] at hrdD ⊢
        exact ⟨hid, subB_mk fun j hj => hDd j (subB_spec hrdD.2 hj)⟩
      have hol : ops.toList[i]? = some o := by simpa using ho
      have hnr : rdB o.op = false := by
        cases hb : rdB o.op with
        | false => rfl
        | true =>
          have := firstR_none _ hfr i o hol hb
          rw [Nat.zero_add, hrdd] at this; cases this
      have hmem := readyE_mem (k := 0) _ hol hnr (by rw [Nat.zero_add]; exact hrdd)
      rw [Nat.zero_add] at hmem
      have h' := h
      simp only [evT, hfr] at h'
      have hef : efStep P n ops o le e w fun le' w' => chks P w' (bm.getD i 0) pend (evT P n ops bm f (addB d i) pend le' e w' K) := by
        cases hre : readyE d ops.toList 0 with
        | nil => rw [hre] at hmem; cases hmem
        | cons x r =>
          rw [hre] at h'
          simp only [] at h'
          have := allE_mem h' (by rw [← hre]; exact hmem)
          exact this
      obtain ⟨hdn, hY, hN⟩ := efStep_spec hci.loc hci.sim (by rw [hci.st.size, hn0]) hef
      obtain ⟨he, hw⟩ := same_run hu hns hclo hci.clo hst hci.st ho hrdD hrdd
      have hdst : ∀ t, o.dst = some t → t < a0.tmps.size := fun t ht => by rw [hn0]; exact hdn t ht
      have hiall : ∀ j, edge ops i j = true → hasB D j = true := fun j hj => by
        rw [edge_spec ho] at hj
        simp only [rdyB, Bool.and_eq_true] at hrdD
        exact subB_spec hrdD.2 hj
      have next : ∀ (v : Value) (w' : World), (∃ le', Sim (le' ++ e) (ac.put o.dst v) ∧ Loc le' e ∧ chks P w' (bm.getD i 0) pend (evT P n ops bm f (addB d i) pend le' e w' K)) →
          wpAnyIn F N P .any ops Q fuel (listed.setIfInBounds i true) (a.put o.dst v) w' := by
        rintro v w' ⟨le', hs', hl', hck⟩
        obtain ⟨hev, hchk⟩ := chks_spec _ hck
        let out1 : Nat → Value := fun k => if k = i then v else out k
        have ho1 : ∀ k, hasB d k = true → out1 k = out k := fun k hk => by
          have : k ≠ i := fun e => by subst e; rw [hid] at hk; cases hk
          simp [out1, this]
        have ho1D : ∀ k, hasB D k = true → out1 k = out k := fun k hk => ho1 k (hDd k hk)
        have hoi : out1 i = v := by simp [out1]
        have hadd : ∀ k, hasB d k = true → hasB (addB d i) k = true := fun k hk => by rw [hasB_add, hk]; rfl
        have hst1 : St ops a0 out1 (addB D i) (a.put o.dst v) := by
          have := (hst.out ho1D).put hu ho hdst
          rwa [hoi] at this
        have hci1 : CI P ops a0 out1 e (addB d i) pend le' (ac.put o.dst v) := by
          refine ⟨(by have := (hci.st.out ho1).put hu ho hdst; rwa [hoi] at this), hci.clo.add ho hrdd, fun k hk => (by
            rw [hasB_add] at hk
            simp only [Bool.or_eq_true, decide_eq_true_eq] at hk
            rcases hk with hk | rfl
            · exact hci.lt k hk
            · exact hilt), hs', hl', fun j oj hj hoj hrj => ?_⟩
          rw [hasB_add] at hj
          simp only [Bool.or_eq_true, decide_eq_true_eq] at hj
          have hij : i ≠ j := fun e => by
            subst e
            obtain rfl : o = oj := Option.some.inj (ho.symm.trans hoj)
            rw [hnr] at hrj; cases hrj
          have hjd := hj.resolve_right hij
          obtain ⟨aj, dj, g1, g2⟩ := hci.rec' j oj hjd hoj hrj
          exact ⟨aj, dj, fun k hk => hadd k (g1 k hk), g2.out (fun k hk => ho1 k (g1 k hk)) (ho1 j hjd) fun pd hp => hp⟩
        have how1 : ∀ j oj, hasB d j = true → hasB D j = false → ops[j]? = some oj → rdB oj.op = true ∧ ∃ aj dj, Rec P ops a0 out1 pend j oj aj dj ∧ (∀ k, hasB dj k = true → hasB d k = true) ∧ YA P ops w' oj (out1 j) aj := by
          intro j oj hj hjn hoj
          obtain ⟨hrd, aj, dj, hrec, hdj, hya⟩ := how j oj hj hjn hoj
          refine ⟨hrd, aj, dj, hrec.out (fun k hk => ho1 k (hdj k hk)) (ho1 j hj) (fun pd hp => hp), hdj, ?_⟩
          rw [ho1 j hj]
          rcases hrec.2.2.2 with h4 | ⟨pd, hm, hpi, h4⟩
          · exact h4 w'
          · refine h4 w' (hchk pd hm ?_)
            cases hb : hasB (bm.getD i 0) pd.i with
            | false => rfl
            | true =>
              rw [hpi] at hb
              have := bm_clo hac hbm hclo hrel.lt i hilt hiall j hb
              rw [hjn] at this; cases this
        obtain ⟨f', d', pend', le2, ac2, out2, c1, c2, c3, c4, c5, c6⟩ := advance hu hn0 _ _ _ _ _ _ hci1 hev
        refine ih _ _ w' (addB D i) f' d' pend' le2 ac2 out2 (hrel.set hilt) hleft' (hst1.out fun k hk => ?_) (hclo.add ho hrdD) (fun k hk => ?_) c1.lt c1 c2 (fun j oj hj hjn hoj => ?_) c3
        · rw [hasB_add] at hk
          simp only [Bool.or_eq_true, decide_eq_true_eq] at hk
          rcases hk with hk | rfl
          · exact (c4 k (hadd k (hDd k hk))).2
          · exact (c4 i (by rw [hasB_add]; simp)).2
        · rw [hasB_add] at hk
          simp only [Bool.or_eq_true, decide_eq_true_eq] at hk
          rcases hk with hk | rfl
          · exact (c4 k (hadd k (hDd k hk))).1
          · exact (c4 i (by rw [hasB_add]; simp)).1
        · rw [hasB_add] at hjn
          simp only [Bool.or_eq_false_iff, decide_eq_false_iff_not] at hjn
          cases hjd : hasB d j with
          | true =>
            obtain ⟨hrd, aj, dj, hrec, hdj, hya⟩ := how1 j oj hjd hjn.1 hoj
            have hj2 := c4 j (hadd j hjd)
            refine ⟨hrd, aj, dj, hrec.out (fun k hk => (c4 k (hadd k (hdj k hk))).2) hj2.2 c5, fun k hk => (c4 k (hadd k (hdj k hk))).1, ?_⟩
            rw [hj2.2]; exact hya
          | false =>
            exact c6 j oj hj (by rw [hasB_add, hjd]; simp [hjn.2]) hoj
      by_cases hwt : Region.wanted o (yielded ops a.tmps) = true
      · rw [if_pos hwt]
        refine upn_wpIn hW (K := fun v w' => ∃ le', Sim (le' ++ e) (ac.put o.dst v) ∧ Loc le' e ∧ chks P w' (bm.getD i 0) pend (evT P n ops bm f (addB d i) pend le' e w' K)) ?_ fun v w' hK => next v w' hK
        rw [he]
        exact hY (by rw [← hw]; exact hwt)
      · rw [if_neg hwt]
        exact ⟨fun f _ => hW.fn f, next undef w (hN (by rw [← hw]; simpa using hwt))⟩

theorem evDraw_specIn {F : Fence} {N : Nat} (hW : Wd F) (hdr : drOk P ops bm = true) {id f : Nat} {a : Act} {w : World} {e : Env} {K : Env → World → Prop} {Q : Exit → Act → World → Prop} (hs : Sim e a) (hst : ∀ x ∈ e, x.path = []) (hn : a.tmps.size = n)
    (h : evT P n ops bm f 0 [] [] e w.drew K)
    (hQ : ∀ a' w' e', Sim e' a' → (∀ x ∈ e', x.path = []) → a'.tmps.size = n → a'.defers = a.defers → (∀ t, (∀ j, ¬ Wr ops t j) → a'.tmps[t]? = a.tmps[t]?) → K e' w' → Q .normal a' w') :
    (Code.region id ops true).wpIn F N P Q a w := by
  have hdr' := hdr
  simp only [drOk, Bool.and_eq_true] at hdr'
  have hu := depOk_spec hdr'.1.1.1.1
  have h0 : ∀ k, hasB 0 k = false := fun k => by simp [hasB]
  have habs : ∀ k, hasB 0 k = true → False := fun k hk => by rw [h0] at hk; cases hk
  have hst0 : St ops a (fun _ => undef) 0 a := ⟨rfl, rfl, fun t j _ hj => (habs j hj).elim, fun _ _ => rfl⟩
  have hclo0 : Clo ops 0 := fun i j hi _ => (habs i hi).elim
  have hci : CI P ops a (fun _ => undef) e 0 [] [] a :=
    ⟨hst0, hclo0, fun k hk => (habs k hk).elim, (by simpa using hs), ⟨fun x hx => (by cases hx), hst, fun x hx => (by cases hx)⟩, fun j o hj => (habs j hj).elim⟩
  obtain ⟨f', d', pend', le', ac', out', c1, c2, c3, c4, c5, c6⟩ := advance hu hn _ _ _ _ _ _ hci h
  refine wpIn_region_any hdr'.2 (draw_mainIn hW hdr hn hQ ops.size _ a w.drew 0 f' d' pend' le' ac' out' ⟨(by simp), fun i hi => ?_, fun i hi => (habs i hi).elim⟩ ?_ (hst0.out fun k hk => (habs k hk).elim) hclo0 (fun k hk => (habs k hk).elim) c1.lt c1 c2 (fun j o hj hjn ho => c6 j o hj (h0 j) ho) c3)
  · simp [hi, h0]
  · unfold leftN
    rw [List.filter_eq_self.2 (fun i _ => by rw [h0]; rfl)]
    simp
end
theorem evC_specIn {F : Fence} {N : Nat} (hW : Wd F) {P : Program} {n : Nat} : ∀ (an : An) (c : Code) (e : Env) (w : World) (K : Exit → Env → World → Prop) (a : Act),
    Sim e a → Str e → a.tmps.size = n → evC P n an c e w K → c.wpIn F N P (fun ex a' w' => ∃ e', Sim e' a' ∧ Str e' ∧ Fr n c a a' ∧ K ex e' w') a w := by
  intro an
  induction an with
  | seq x y ihx ihy =>
    intro c e w K a hs hst hn h
    simp only [evC] at h
    split at h
    · rename_i ca cb
      refine wpIn_seq (wpIn_mono (ihx ca e w _ a hs hst hn h) fun ex a' w' hq => ?_)
      obtain ⟨e', h1, h2, h3, h4⟩ := hq
      cases ex with
      | normal =>
        refine wpIn_mono (ihy cb e' w' K a' h1 h2 h3.size h4) fun ex2 a2 w2 hq2 => ?_
        obtain ⟨e2, g1, g2, g3, g4⟩ := hq2
        exact ⟨e2, g1, g2, ⟨g3.size, g3.defers.trans h3.defers, fun t ht => by
          simp only [writesB, Bool.or_eq_false_iff] at ht
          rw [g3.keep t ht.2, h3.keep t ht.1]⟩, g4⟩
      | _ => exact ⟨e', h1, h2, ⟨h3.size, h3.defers, fun t ht => by
          simp only [writesB, Bool.or_eq_false_iff] at ht
          exact h3.keep t ht.1⟩, h4⟩
    · exact h.elim
  | cond x y ihx ihy =>
    intro c e w K a hs hst hn h
    simp only [evC] at h
    split at h
    · rename_i v ca cb
      split at h
      · rename_i t hv
        have hve := opd_spec hs (On.nil a) hv
        refine wpIn_cond_split hve (fun ht => ?_) (fun ht => ?_)
        · refine wpIn_mono (ihx ca e w K a hs hst hn (h.1 ht)) fun ex a' w' hq => ?_
          obtain ⟨e', h1, h2, h3, h4⟩ := hq
          exact ⟨e', h1, h2, ⟨h3.size, h3.defers, fun t ht => by
            simp only [writesB, Bool.or_eq_false_iff] at ht
            exact h3.keep t ht.1⟩, h4⟩
        · refine wpIn_mono (ihy cb e w K a hs hst hn (h.2 ht)) fun ex a' w' hq => ?_
          obtain ⟨e', h1, h2, h3, h4⟩ := hq
          exact ⟨e', h1, h2, ⟨h3.size, h3.defers, fun t ht => by
            simp only [writesB, Bool.or_eq_false_iff] at ht
            exact h3.keep t ht.2⟩, h4⟩
      · exact h.elim
    · exact h.elim
  | blk x ihx =>
    intro c e w K a hs hst hn h
    simp only [evC] at h
    split at h
    · rename_i id ca
      refine wpIn_block (wpIn_mono (ihx ca e w _ a hs hst hn h) fun ex a' w' hq => ?_)
      obtain ⟨e', h1, h2, h3, h4⟩ := hq
      have h3' : Fr n (.block id ca) a a' := ⟨h3.size, h3.defers, h3.keep⟩
      cases ex with
      | exit id' =>
        simp only [Exit.inBlock]
        by_cases hid : id' = id
        · subst hid
          simp only [Nat.beq_refl, cond_true] at h4
          simp only [if_true]
          exact ⟨e', h1, h2, h3', h4⟩
        · have hb : Nat.beq id' id = false := by
            cases hb : Nat.beq id' id with
            | false => rfl
            | true => exact absurd (Nat.eq_of_beq_eq_true hb) hid
          simp only [hb, cond_false] at h4
          rw [if_neg hid]
          exact ⟨e', h1, h2, h3', h4⟩
      | _ => exact ⟨e', h1, h2, h3', h4⟩
    · exact h.elim
  | loop ks x ihx =>
    intro c e w K a hs hst hn h
    simp only [evC] at h
    split at h
    · rename_i ca
      obtain ⟨s, h, hs0, hst0⟩ := decA_spec hs h
      obtain ⟨I, μ, hI, hround⟩ := h
      refine wpIn_loop_ghost (fun k a' w' => ∃ s, Sim (encA ks s ++ kill ca e) a' ∧ Str (encA ks s ++ kill ca e) ∧ Fr n (.loop ca) a a' ∧ I s w' ∧ μ s w' = k) (μ s w)
        ⟨s, sim_app hs0 (sim_kill (n := n) hs hst fun _ _ => rfl), str_app hst0 (str_kill hst), ⟨hn, rfl, fun _ _ => rfl⟩, hI, rfl⟩ ?_
      intro k a1 w1 hr
      obtain ⟨s1, g1, g2, g3, g4, rfl⟩ := hr
      refine wpIn_mono (ihx ca _ w1 _ a1 g1 g2 g3.size (hround s1 w1 g4)) fun ex a' w' hq => ?_
      obtain ⟨e', h1, h2, h3, h4⟩ := hq
      have h3' : Fr n (.loop ca) a a' := ⟨h3.size, h3.defers.trans g3.defers, fun t ht => by
        rw [h3.keep t ht, g3.keep t ht]⟩
      cases ex with
      | normal =>
        obtain ⟨s', ⟨hI', hμ⟩, hs', hst'⟩ := decA_spec h1 h4
        exact ⟨μ s' w', hμ, s', sim_app hs' (sim_kill (n := n) hs hst fun t ht => h3'.keep t ht), str_app hst' (str_kill hst), h3', hI', rfl⟩
      | _ => exact ⟨e', h1, h2, h3', h4⟩
    · exact h.elim
  | join ks x ihx =>
    intro c e w K a hs hst hn h
    simp only [evC] at h
    obtain ⟨R, hA, hB⟩ := h
    refine wpIn_mono (ihx c e w _ a hs hst hn hA) fun ex a' w' hq => ?_
    obtain ⟨e', h1, h2, h3, h4⟩ := hq
    cases ex with
    | normal =>
      obtain ⟨s, hR, hs', hst'⟩ := decA_spec h1 h4
      exact ⟨_, sim_app hs' (sim_kill (n := n) hs hst h3.keep), str_app hst' (str_kill hst), h3, hB s w' hR⟩
    | _ => exact ⟨e', h1, h2, h3, h4⟩
  | draw bm =>
    intro c e w K a hs hst hn h
    simp only [evC] at h
    split at h
    · rename_i id ops d
      split at h
      · rename_i hdr
        refine evDraw_specIn hW hdr hs hst hn h fun a' w' e' q1 q2 q3 q4 q5 q6 => ⟨e', q1, q2, ⟨q3, q4, fun t ht => q5 t fun j hj => ?_⟩, q6⟩
        unfold Wr at hj
        cases ho : ops[j]? with
        | none => simp [ho] at hj
        | some o =>
          rw [ho] at hj
          exact dsts_of_writes ht ⟨o, Array.mem_toList_iff.2 (Array.mem_of_getElem? ho), by simpa using hj⟩
      · exact h.elim
    · exact h.elim
  | leaf =>
    intro c e w K a hs hst hn h
    simp only [evC] at h
    split at h
    · exact wpIn_skip ⟨e, hs, hst, ⟨hn, rfl, fun _ _ => rfl⟩, h⟩
    · exact wpIn_ret ⟨e, hs, hst, ⟨hn, rfl, fun _ _ => rfl⟩, h⟩
    · exact wpIn_exit ⟨e, hs, hst, ⟨hn, rfl, fun _ _ => rfl⟩, h⟩
    · exact wpIn_label ⟨e, hs, hst, ⟨hn, rfl, fun _ _ => rfl⟩, h⟩
    · rename_i id ops d
      split at h
      · refine wpIn_region_list (evReg_specIn hW ops.toList [] e w a ⟨fun x hx => (by cases hx), hst, fun x hx => (by cases hx)⟩ (by simpa using hs) hn h ?_)
        intro a' w' e' q1 q2 q3 q4 q5 q6
        exact ⟨e', q1, q2, ⟨q3, q4, fun t ht => q5 t (dsts_of_writes ht)⟩, q6⟩
      · exact h.elim
    · exact h.elim

end Go.Proofs.Ytkpoagdhekimpaa.Vc
