/- pace.Seq's iterator yields Luby's numbers, without an end. -/
import Derived.Test.YtkpoagdhekimpaaVcY
import Derived.Test.YtkpoagdhekimpaaLuby
set_option linter.unusedVariables false
set_option linter.unusedSimpArgs false
set_option maxRecDepth 100000
namespace Go.Proofs.Ytkpoagdhekimpaa.Pace
open Go Go.Proofs.Ytkpoagdhekimpaa.Vc Go.Proofs.Ytkpoagdhekimpaa.T

theorem li_cons {F : Fence} {N : Nat} {P : Program} {ops : Array Oper} {Q : Exit → Act → World → Prop} {o : Oper} {rest : List Oper} {a : Act} {w : World} (h : o.guard = none)
    (hk : o.wpIn F N P a w (wpListIn F N P ops Q rest) Q) : wpListIn F N P ops Q (o :: rest) a w := by
  unfold wpListIn
  rw [if_pos (by simp [Region.wanted, h])]
  exact hk
def At27 (l k : Nat) (a : Act) : Prop := a.tmps.size = 9 ∧ a.defers = [] ∧ a.tmps[0]? = some (.func (.yield l) #[] #[]) ∧ a.tmps[2]? = some (.int .i64 ((k : Int) + 1))
theorem At27.get {l k : Nat} {a : Act} (h : At27 l k a) : a.eval (.tmp 0) = .func (.yield l) #[] #[] ∧ a.eval (.tmp 2) = .int .i64 ((k : Int) + 1) := by
  obtain ⟨h1, h2, h3, h4⟩ := h
  exact ⟨by simp [Act.eval, h3], by simp [Act.eval, h4]⟩
theorem put_at {a : Act} {t : Nat} {v : Value} (h : t < a.tmps.size) : (a.put (some t) v).eval (.tmp t) = v := by
  simp [Act.eval, Act.put, h]
theorem put_ne' {a : Act} {t s : Nat} {v : Value} (h : s ≠ t) : (a.put (some t) v).eval (.tmp s) = a.eval (.tmp s) := by
  simp [Act.eval, Act.put, Array.getElem?_setIfInBounds_ne (Ne.symm h)]
theorem At27.put {l k : Nat} {a : Act} {t : Nat} {v : Value} (h : At27 l k a) (h0 : t ≠ 0) (h2 : t ≠ 2) : At27 l k (a.put (some t) v) := by
  obtain ⟨h1, hd, h3, h4⟩ := h
  refine ⟨by simp [Act.put, h1], by simp [Act.put, hd], ?_, ?_⟩
  · simp [Act.put, Array.getElem?_setIfInBounds_ne h0, h3]
  · simp [Act.put, Array.getElem?_setIfInBounds_ne h2, h4]
theorem seq27 (M : Nat) (hMb : M ≤ 1099511627776) : Endless Try.prog 27 #[] (fun k => #[.int .i64 (lub (k + 1))]) M := fun l J Jx W hM hY h0 => by
  refine (callsIn_wide (n := 0)).1 (callsIn_of_wp Try.func27 rfl trivial ?_ rfl)
  refine wpIn_seq (wpIn_region_list (li_cons rfl (pure_wpIn wd_wide (v := .int .i64 1) (by simp [execOp, Act.eval]) ?_)))
  refine wpListIn_nil ?_
  refine wpIn_block (wpIn_loop_ghost (fun m a w => ∃ k, M - k = m ∧ At27 l k a ∧ J k w) M ⟨0, by omega, ?_, h0⟩ ?_)
  · refine ⟨by rfl, by simp [Act.put], ?_, ?_⟩
    · rfl
    · rfl
  rintro m a w ⟨k, rfl, hA, hj⟩
  have hk := hM k w hj
  have hs := hA.1
  refine wpIn_seq (wpIn_seq (wpIn_region_list ?_))
  refine li_cons rfl (pure_wpIn wd_wide (v := .func (.yield l) #[] #[]) (by simp [execOp, hA.get.1]) ?_)
  have hA1 := hA.put (t := 3) (v := .func (.yield l) #[] #[]) (by decide) (by decide)
  have e3 := put_at (a := a) (t := 3) (v := .func (.yield l) #[] #[]) (by omega)
  generalize a.put (some 3) (.func (.yield l) #[] #[]) = a1 at *
  refine li_cons rfl (pure_wpIn wd_wide (v := .int .i64 ((k : Int) + 1)) (by simp [execOp, hA1.get.2]) ?_)
  have hA2 := hA1.put (t := 4) (v := .int .i64 ((k : Int) + 1)) (by decide) (by decide)
  have e4 := put_at (a := a1) (t := 4) (v := .int .i64 ((k : Int) + 1)) (by have := hA1.1; omega)
  have e3' := (put_ne' (a := a1) (t := 4) (s := 3) (v := .int .i64 ((k : Int) + 1)) (by decide)).trans e3
  generalize a1.put (some 4) (.int .i64 ((k : Int) + 1)) = a2 at *
  have hlub := luby15 ((k : Int) + 1) w (by omega)
  rw [show ((k : Int) + 1).toNat = k + 1 by omega] at hlub
  refine li_cons rfl (upn_wpIn wd_wide (K := fun v w' => v = .int .i64 (lub (k + 1)) ∧ w' = w) ?_ ?_)
  · have er : ∀ (o : Oper), o.op = .call { callee := .value (.func 15), args := #[.tmp 4], argTypes := #[3] } → (execOp a2.eval o).run Try.prog w = (callFunc 15 #[.int .i64 ((k : Int) + 1)]).run Try.prog w := by
      intro o ho
      have e4' : a2.tmps[4]?.getD undef = .int .i64 ((k : Int) + 1) := by simpa [Act.eval] using e4
      simp [execOp, ho, resolve, e4', invoke, Act.eval, go_sem]
    rw [er _ rfl, run_callFunc_enter (by kernel_rfl)]
    exact hlub.mono fun e w' ⟨he, hw⟩ => ⟨_, he, rfl, hw⟩
  rintro v w' ⟨rfl, rfl⟩
  have hA3 := hA2.put (t := 5) (v := .int .i64 (lub (k + 1))) (by decide) (by decide)
  have e5 := put_at (a := a2) (t := 5) (v := .int .i64 (lub (k + 1))) (by have := hA2.1; omega)
  have e3'' := (put_ne' (a := a2) (t := 5) (s := 3) (v := .int .i64 (lub (k + 1))) (by decide)).trans e3'
  generalize a2.put (some 5) (.int .i64 (lub (k + 1))) = a3 at *
  obtain ⟨fn, tmps, assign, body, hy, hR⟩ := hY k w' hj
  have er : ∀ (o : Oper), o.op = .call { callee := .value (.tmp 3), args := #[.tmp 5], argTypes := #[3] } → (execOp a3.eval o).run Try.prog w' = (Instr.yield l #[.int .i64 (lub (k + 1))]).run Try.prog w' := by
    intro o ho
    have f3 : a3.tmps[3]?.getD undef = .func (.yield l) #[] #[] := by simpa [Act.eval] using e3''
    have f5 : a3.tmps[5]?.getD undef = .int .i64 (lub (k + 1)) := by simpa [Act.eval] using e5
    simp [execOp, ho, resolve, f3, f5, invoke, go_sem]
  refine li_cons rfl ⟨fun _ _ => trivial, ?_⟩
  rw [semAt_val (fun c h => by cases h), er _ rfl, hy]
  refine ⟨(fun h => by cases h), hR.mono fun e w2 hh => ?_⟩
  have hA4 : ∀ v, At27 l k (a3.put (some 6) v) := fun v => hA3.put (by decide) (by decide)
  have e6 : ∀ v, (a3.put (some 6) v).eval (.tmp 6) = v := fun v => put_at (by have := hA3.1; omega)
  rcases hh with ⟨rfl, hj2⟩ | ⟨rfl, hjx⟩
  · refine wpListIn_nil ?_
    have hA4 := hA4 (.bool true)
    have e6 := e6 (.bool true)
    generalize a3.put (some 6) (.bool true) = a4 at *
    refine wpIn_cond_true e6 (wpIn_skip ?_)
    refine wpIn_seq (wpIn_block (wpIn_skip ?_))
    refine wpIn_region_list ?_
    refine li_cons rfl (pure_wpIn wd_wide (v := .int .i64 ((k : Int) + 1)) (by simp [execOp, hA4.get.2]) ?_)
    have hA5 := hA4.put (t := 7) (v := .int .i64 ((k : Int) + 1)) (by decide) (by decide)
    have e7 := put_at (a := a4) (t := 7) (v := .int .i64 ((k : Int) + 1)) (by have := hA4.1; omega)
    generalize a4.put (some 7) (.int .i64 ((k : Int) + 1)) = a5 at *
    have ew : IntKind.wrap .i64 ((k : Int) + 1 + 1) = (k : Int) + 1 + 1 := by rw [IntKind.wrap_i64]; omega
    refine li_cons rfl (pure_wpIn wd_wide (v := .int .i64 ((k : Int) + 1 + 1)) ?_ ?_)
    · have f7 : a5.tmps[7]?.getD undef = .int .i64 ((k : Int) + 1) := by simpa [Act.eval] using e7
      have u3 := Try.underlying3
      simp [execOp, f7, go_sem, run_underlying u3, ew]
    have hA6 := hA5.put (t := 8) (v := .int .i64 ((k : Int) + 1 + 1)) (by decide) (by decide)
    have e8 := put_at (a := a5) (t := 8) (v := .int .i64 ((k : Int) + 1 + 1)) (by have := hA5.1; omega)
    generalize a5.put (some 8) (.int .i64 ((k : Int) + 1 + 1)) = a6 at *
    refine li_cons rfl (pure_wpIn wd_wide (v := .int .i64 ((k : Int) + 1 + 1)) (by simp [execOp, e8]) ?_)
    refine wpListIn_nil ?_
    obtain ⟨s1, s2, s3, s4⟩ := hA6
    refine ⟨M - (k + 1), by omega, k + 1, rfl, ⟨by simp [Act.put, s1], by simp [Act.put, s2], ?_, ?_⟩, hj2⟩
    · simp [Act.put, s3]
    · simp [Act.put, s1]
  · refine wpListIn_nil ?_
    have hA4 := hA4 (.bool false)
    have e6 := e6 (.bool false)
    generalize a3.put (some 6) (.bool false) = a4 at *
    refine wpIn_cond_false e6 (wpIn_exit ?_)
    exact ⟨hA4.2.1, _, results_none rfl _ _ _, ⟨_, rfl⟩, hjx⟩
end Go.Proofs.Ytkpoagdhekimpaa.Pace
