/- A range over an iterator that may have no end: the law, where the rounds are bounded by what the body keeps. -/
import Derived.Test.YtkpoagdhekimpaaVcN
import Derived.Test.YtkpoagdhekimpaaVcU
import Derived.RangeFuncIn
import Derived.RangeFuncRecord
import Derived.RangeFuncSeq
import Derived.RangeFuncNested
set_option linter.unusedVariables false
set_option linter.unusedSimpArgs false
namespace Go.Proofs.Ytkpoagdhekimpaa.Vc
open Go

/-- all but the loop's own two blocks may have turned -/
def Oth (b : Nat) (i : Nat) : Prop := i ≠ b ∧ i ≠ b + 1
def Own2 (b : Nat) (i : Nat) : Prop := i = b ∨ i = b + 1
theorem Keep.putObj {S : Nat → Prop} {w : World} {r : Nat} {o : Obj} (hS : S r) : Keep S w (w.putObj r o) :=
  ⟨rfl, rfl, rfl, by simp, fun i _ hn => World.putObj_heap_other fun e => hn (e ▸ hS)⟩
/-- how a round may be left -/
def rnd (b : Nat) (J : World → Prop) (Jx : Code → World → Prop) (W : World) : Exit → Act → World → Prop
  | .normal, _, W' => Keep (Oth b) W W' ∧ J W'
  | .ret, _, W' => Keep (Oth b) W W' ∧ Jx .ret W'
  | .exit id, _, W' => Keep (Oth b) W W' ∧ Jx (.exit id) W'
  | .goto t, _, W' => Keep (Oth b) W W' ∧ Jx (.goto t) W'
  | _, _, _ => False
/-- an iterator without an end that yields encs 0, encs 1, .. -/
def Endless (P : Program) (gf : FuncId) (lb : Array Value) (encs : Nat → Array Value) (M : Nat) : Prop :=
  ∀ (l : Nat) (J : Nat → World → Prop) (Jx : World → Prop) (W : World), (∀ k W, J k W → k < M) →
    (∀ k W, J k W → YieldAt Fence.wide 0 P l (encs k) W fun e W' => (e = .returned (.bool true) ∧ J (k + 1) W') ∨ (e = .returned (.bool false) ∧ Jx W')) →
    J 0 W → Calls P gf (#[.func (.yield l) #[] #[]] ++ lb) W fun e W' => (∃ v, e = .returned v) ∧ Jx W'
theorem wpIn_endless {P : Program} {g : Operand} {ps : Array Tmp} {assign body : Code} {Q : Exit → Act → World → Prop} {a : Act} {w : World} {gf : FuncId} {lb : Array Value}
    (hg : a.eval g = .func (.func gf) #[] lb) (hok : fnOk P gf = true) {encs : Nat → Array Value} {M : Nat} (hps : ∀ k, (encs k).size = ps.size) (hit : Endless P gf lb encs M)
    (J : Nat → World → Prop) (Jx : Code → World → Prop) (hM : ∀ k W, J k W → k < M)
    (hJ : ∀ k W W', J k W → Keep (Own2 w.heap.size) W W' → J k W') (hJx : ∀ c W W', Jx c W → Keep (Own2 w.heap.size) W W' → Jx c W')
    (h0 : ∀ W, Keep None w W → w.heap.size + 2 ≤ W.heap.size → J 0 W)
    (hround : ∀ (k : Nat) (W : World), J k W →
      assign.wpIn (Fence.wide.inRound (w.heap.size + 1)) 0 P (Exit.then (fun a₁ W₁ => Keep (Oth w.heap.size) W W₁ ∧ ∀ W₂, Keep (Own2 w.heap.size) W₁ W₂ → (∃ r, W₂.heap[w.heap.size + 1]? = some (.loop r)) → body.wpIn (Fence.wide.inRound (w.heap.size + 1)) 0 P (rnd w.heap.size (J (k + 1)) Jx W₂) a₁ W₂) (fun _ _ _ => False))
        { tmps := (ps.zip (encs k)).foldl (fun t (p, v) => t.setIfInBounds p v) a.tmps, defers := [] } W)
    (hstop : ∀ (c : Code) (W : World), Jx c W → W.heap[w.heap.size]? = some (.deferred (some [])) →
      c.wpIn Fence.wide 0 P Q { a with defers := { target := .collected w.heap.size, args := #[] } :: a.defers } W) :
    (Code.rangeFunc g ps assign body).wpIn Fence.wide 0 P Q a w := by
  refine wpIn_rangeFunc fun fn hfn => ?_
  obtain ⟨rec, hrec⟩ : ∃ rec : LoopState → Option Code → Loop, rec = fun st pe => { state := st, pending := pe, fn, tmps := a.tmps, params := ps, assign, body, defers := w.heap.size } := ⟨_, rfl⟩
  obtain ⟨W1, hW1⟩ : ∃ W1, (w.alloc (.deferred (some []))).alloc (.loop (rec .ready none)) = W1 := ⟨_, rfl⟩
  have hL1 : W1.heap[w.heap.size + 1]? = some (.loop (rec .ready none)) := by
    rw [← hW1]; have := World.alloc_heap_new (w.alloc (.deferred (some []))) (.loop (rec .ready none)); rwa [World.size_alloc] at this
  have hK1 : W1.heap[w.heap.size]? = some (.deferred (some [])) := by
    rw [← hW1]; exact (RowKit.Below.heap_alloc _ _ _ (by simp)).trans (World.alloc_heap_new w _)
  have hk1 : Keep None w W1 := by rw [← hW1]; exact ((Keep.refl _ w).alloc _).alloc _
  refine ⟨w.heap.size + 1, [{ target := .collected w.heap.size, args := #[] }], W1, { target := .fn (.func gf) lb, args := #[.func (.yield (w.heap.size + 1)) #[] #[]] }, W1, gf,
    #[.func (.yield (w.heap.size + 1)) #[] #[]] ++ lb, W1, ?_, ?_, fun _ _ => trivial, ?_, (fun h => by cases h), ?_⟩
  · rw [← hW1, hrec]; exact run_enterLoop_outer _ _ _ _ _
  · simp only [resolve, hg]
    simp [go_sem]
  · simp [invoke, go_sem, run_callFunc_enter hok]
  · refine wd_wide.calls ((hit (w.heap.size + 1)
      (fun k W => J k W ∧ W.heap[w.heap.size + 1]? = some (.loop (rec .ready none)) ∧ W.heap[w.heap.size]? = some (.deferred (some [])))
      (fun W => ∃ c, Jx c W ∧ W.heap[w.heap.size + 1]? = some (.loop (rec .done (some c))) ∧ W.heap[w.heap.size]? = some (.deferred (some [])))
      W1 (fun k W h => hM k W h.1) ?_ ⟨h0 W1 hk1 (by rw [← hW1]; simp), hL1, hK1⟩).mono ?_)
    · rintro k W ⟨hj, hl, hk⟩
      have hlt : w.heap.size + 1 < W.heap.size := (Array.getElem?_eq_some_iff.1 hl).1
      have hy := run_yield (P := P) (args := encs k) hl (by rw [hrec]; exact hps k)
      rw [hrec] at hy
      refine ⟨fn, _, assign, body, hy, roundIn_of_wpIn hfn (wpIn_mono (hround k W hj) ?_)⟩
      intro ex a1 Wa hex
      cases ex <;> try exact hex.elim
      obtain ⟨hka, hbody⟩ := hex
      have hl0 := hl
      have hl := (hka.block (w.heap.size + 1) hlt fun h => h.2 rfl).trans hl0
      have hk := (hka.block w.heap.size (by omega) fun h => h.1 rfl).trans hk
      have hlt : w.heap.size + 1 < Wa.heap.size := by have := hka.size; omega
      refine ⟨_, run_beginRound hl (by rw [hrec]), ?_⟩
      clear hl0 hka hj hy
      have hl2 : (Wa.putObj (w.heap.size + 1) (.loop { rec .ready none with state := .busy })).heap[w.heap.size + 1]? = some (.loop { rec .ready none with state := .busy }) := World.putObj_heap_same hlt
      have hk2 : (Wa.putObj (w.heap.size + 1) (.loop { rec .ready none with state := .busy })).heap[w.heap.size]? = some (.deferred (some [])) := (World.putObj_heap_other (by omega)).trans hk
      have kp : ∀ {V : World} {o : Obj}, Keep (Own2 w.heap.size) V (V.putObj (w.heap.size + 1) o) := Keep.putObj (Or.inr rfl)
      refine wpIn_mono (hbody _ kp ⟨_, hl2⟩) ?_
      have fin : ∀ (jump : Option Code) (W3 : World), Keep (Oth w.heap.size) (Wa.putObj (w.heap.size + 1) (.loop { rec .ready none with state := .busy })) W3 →
          (Instr.endRound (w.heap.size + 1) jump).run P W3 = .ok (.bool jump.isNone) (W3.putObj (w.heap.size + 1) (.loop (rec (if jump.isNone then .ready else .done) jump))) ∧
          (W3.putObj (w.heap.size + 1) (.loop (rec (if jump.isNone then .ready else .done) jump))).heap[w.heap.size + 1]? = some (.loop (rec (if jump.isNone then .ready else .done) jump)) ∧
          (W3.putObj (w.heap.size + 1) (.loop (rec (if jump.isNone then .ready else .done) jump))).heap[w.heap.size]? = some (.deferred (some [])) := fun jump W3 hk3 => by
        have hl3 := (hk3.block (w.heap.size + 1) (by simpa using hlt) fun h => h.2 rfl).trans hl2
        have hd3 := (hk3.block w.heap.size (by simp; omega) fun h => h.1 rfl).trans hk2
        have := run_endRound (P := P) jump hl3
        rw [hrec] at this ⊢
        exact ⟨this, World.putObj_heap_same (Array.getElem?_eq_some_iff.1 hl3).1, (World.putObj_heap_other (by omega)).trans hd3⟩
      rintro e a3 W3 hp
      cases e with
      | normal =>
        obtain ⟨hk3, hj3⟩ := hp
        obtain ⟨hr, hl4, hk4⟩ := fin none W3 hk3
        exact ⟨_, _, hr, .inl ⟨rfl, hJ _ _ _ hj3 kp, hl4, hk4⟩⟩
      | ret =>
        obtain ⟨hk3, hj3⟩ := hp
        obtain ⟨hr, hl4, hk4⟩ := fin (some .ret) W3 hk3
        exact ⟨_, _, hr, .inr ⟨rfl, .ret, hJx _ _ _ hj3 kp, hl4, hk4⟩⟩
      | exit id =>
        obtain ⟨hk3, hj3⟩ := hp
        obtain ⟨hr, hl4, hk4⟩ := fin (some (.exit id)) W3 hk3
        exact ⟨_, _, hr, .inr ⟨rfl, .exit id, hJx _ _ _ hj3 kp, hl4, hk4⟩⟩
      | goto t =>
        obtain ⟨hk3, hj3⟩ := hp
        obtain ⟨hr, hl4, hk4⟩ := fin (some (.goto t)) W3 hk3
        exact ⟨_, _, hr, .inr ⟨rfl, .goto t, hJx _ _ _ hj3 kp, hl4, hk4⟩⟩
      | panic ch => exact hp.elim
      | outgrown => exact hp.elim
    · rintro e W2 ⟨⟨v, rfl⟩, c, hj, hl, hk⟩
      exact ⟨some c, _, by have := run_endLoop (P := P) hl (by rw [hrec]; simp); rw [hrec] at this; exact this,
        hstop c _ (hJx _ _ _ hj (Keep.putObj (Or.inr rfl))) ((World.putObj_heap_other (by omega)).trans hk)⟩

/-- within a round the new loop lays one block of its own -/
def Oth1 (b : Nat) (i : Nat) : Prop := i ≠ b
def rnd1 (b : Nat) (J : World → Prop) (Jx : Code → World → Prop) (W : World) : Exit → Act → World → Prop
  | .normal, _, W' => Keep (Oth1 b) W W' ∧ J W'
  | .ret, _, W' => Keep (Oth1 b) W W' ∧ Jx .ret W'
  | .exit id, _, W' => Keep (Oth1 b) W W' ∧ Jx (.exit id) W'
  | .goto t, _, W' => Keep (Oth1 b) W W' ∧ Jx (.goto t) W'
  | _, _, _ => False
theorem wpIn_endless_in {P : Program} {g : Operand} {ps : Array Tmp} {assign body : Code} {Q : Exit → Act → World → Prop} {a : Act} {w : World} {gf : FuncId} {lb : Array Value} {l₀ : Nat}
    (hl₀ : ∃ r, w.heap[l₀]? = some (.loop r)) (hg : a.eval g = .func (.func gf) #[] lb) (hok : fnOk P gf = true) {encs : Nat → Array Value} {M : Nat} (hps : ∀ k, (encs k).size = ps.size) (hit : Endless P gf lb encs M)
    (J : Nat → World → Prop) (Jx : Code → World → Prop) (hM : ∀ k W, J k W → k < M)
    (hJ : ∀ k W W', J k W → Keep (One w.heap.size) W W' → J k W') (hJx : ∀ c W W', Jx c W → Keep (One w.heap.size) W W' → Jx c W')
    (h0 : ∀ W, Keep None w W → w.heap.size + 1 ≤ W.heap.size → J 0 W)
    (hround : ∀ (k : Nat) (W : World), J k W →
      assign.wpIn (Fence.wide.inRound w.heap.size) 0 P (Exit.then (fun a₁ W₁ => Keep (Oth1 w.heap.size) W W₁ ∧ ∀ W₂, Keep (One w.heap.size) W₁ W₂ → body.wpIn (Fence.wide.inRound w.heap.size) 0 P (rnd1 w.heap.size (J (k + 1)) Jx W₂) a₁ W₂) (fun _ _ _ => False))
        { tmps := (ps.zip (encs k)).foldl (fun t (p, v) => t.setIfInBounds p v) a.tmps, defers := [] } W)
    (hstop : ∀ (c : Code) (W : World), Jx c W → c.wpIn (Fence.wide.inRound l₀) 0 P Q a W) :
    (Code.rangeFunc g ps assign body).wpIn (Fence.wide.inRound l₀) 0 P Q a w := by
  obtain ⟨r₀, hl₀⟩ := hl₀
  refine wpIn_rangeFunc fun fn hfn => ?_
  obtain ⟨rec, hrec⟩ : ∃ rec : LoopState → Option Code → Loop, rec = fun st pe => { state := st, pending := pe, fn, tmps := a.tmps, params := ps, assign, body, defers := r₀.defers } := ⟨_, rfl⟩
  obtain ⟨W1, hW1⟩ : ∃ W1, w.alloc (.loop (rec .ready none)) = W1 := ⟨_, rfl⟩
  have hL1 : W1.heap[w.heap.size]? = some (.loop (rec .ready none)) := by rw [← hW1]; exact World.alloc_heap_new w _
  have hk1 : Keep None w W1 := by rw [← hW1]; exact (Keep.refl _ w).alloc _
  refine ⟨w.heap.size, [], W1, { target := .fn (.func gf) lb, args := #[.func (.yield w.heap.size) #[] #[]] }, W1, gf,
    #[.func (.yield w.heap.size) #[] #[]] ++ lb, W1, ?_, ?_, fun _ _ => trivial, ?_, (fun h => by cases h), ?_⟩
  · rw [← hW1, hrec]; exact run_enterLoop_inner hl₀ _ _ _ _ _
  · simp only [resolve, hg]
    simp [go_sem]
  · simp [invoke, go_sem, run_callFunc_enter hok]
  · refine (wd_round l₀).calls ((hit w.heap.size
      (fun k W => J k W ∧ W.heap[w.heap.size]? = some (.loop (rec .ready none)))
      (fun W => ∃ c, Jx c W ∧ W.heap[w.heap.size]? = some (.loop (rec .done (some c))))
      W1 (fun k W h => hM k W h.1) ?_ ⟨h0 W1 hk1 (by rw [← hW1]; simp), hL1⟩).mono ?_)
    · rintro k W ⟨hj, hl⟩
      have hlt : w.heap.size < W.heap.size := (Array.getElem?_eq_some_iff.1 hl).1
      have hy := run_yield (P := P) (args := encs k) hl (by rw [hrec]; exact hps k)
      rw [hrec] at hy
      refine ⟨fn, _, assign, body, hy, roundIn_of_wpIn hfn (wpIn_mono (hround k W hj) ?_)⟩
      intro ex a1 Wa hex
      cases ex <;> try exact hex.elim
      obtain ⟨hka, hbody⟩ := hex
      have hl0 := hl
      have hl := (hka.block w.heap.size hlt fun h => h rfl).trans hl0
      have hlt : w.heap.size < Wa.heap.size := by have := hka.size; omega
      refine ⟨_, run_beginRound hl (by rw [hrec]), ?_⟩
      clear hl0 hka hj hy
      have hl2 : (Wa.putObj w.heap.size (.loop { rec .ready none with state := .busy })).heap[w.heap.size]? = some (.loop { rec .ready none with state := .busy }) := World.putObj_heap_same hlt
      have kp : ∀ {V : World} {o : Obj}, Keep (One w.heap.size) V (V.putObj w.heap.size o) := Keep.putObj rfl
      refine wpIn_mono (hbody _ kp) ?_
      have fin : ∀ (jump : Option Code) (W3 : World), Keep (Oth1 w.heap.size) (Wa.putObj w.heap.size (.loop { rec .ready none with state := .busy })) W3 →
          (Instr.endRound w.heap.size jump).run P W3 = .ok (.bool jump.isNone) (W3.putObj w.heap.size (.loop (rec (if jump.isNone then .ready else .done) jump))) ∧
          (W3.putObj w.heap.size (.loop (rec (if jump.isNone then .ready else .done) jump))).heap[w.heap.size]? = some (.loop (rec (if jump.isNone then .ready else .done) jump)) := fun jump W3 hk3 => by
        have hl3 := (hk3.block w.heap.size (by simpa using hlt) fun h => h rfl).trans hl2
        have := run_endRound (P := P) jump hl3
        rw [hrec] at this ⊢
        exact ⟨this, World.putObj_heap_same (Array.getElem?_eq_some_iff.1 hl3).1⟩
      rintro e a3 W3 hp
      cases e with
      | normal =>
        obtain ⟨hk3, hj3⟩ := hp
        obtain ⟨hr, hl4⟩ := fin none W3 hk3
        exact ⟨_, _, hr, .inl ⟨rfl, hJ _ _ _ hj3 kp, hl4⟩⟩
      | ret =>
        obtain ⟨hk3, hj3⟩ := hp
        obtain ⟨hr, hl4⟩ := fin (some .ret) W3 hk3
        exact ⟨_, _, hr, .inr ⟨rfl, .ret, hJx _ _ _ hj3 kp, hl4⟩⟩
      | exit id =>
        obtain ⟨hk3, hj3⟩ := hp
        obtain ⟨hr, hl4⟩ := fin (some (.exit id)) W3 hk3
        exact ⟨_, _, hr, .inr ⟨rfl, .exit id, hJx _ _ _ hj3 kp, hl4⟩⟩
      | goto t =>
        obtain ⟨hk3, hj3⟩ := hp
        obtain ⟨hr, hl4⟩ := fin (some (.goto t)) W3 hk3
        exact ⟨_, _, hr, .inr ⟨rfl, .goto t, hJx _ _ _ hj3 kp, hl4⟩⟩
      | panic ch => exact hp.elim
      | outgrown => exact hp.elim
    · rintro e W2 ⟨⟨v, rfl⟩, c, hj, hl⟩
      exact ⟨some c, _, by have := run_endLoop (P := P) hl (by rw [hrec]; simp); rw [hrec] at this; exact this,
        hstop c _ (hJx _ _ _ hj (Keep.putObj rfl))⟩
end Go.Proofs.Ytkpoagdhekimpaa.Vc
