/- Ranges over endless iterators within rounds of such: third storey of the generator. -/
import Derived.Test.YtkpoagdhekimpaaVcX
set_option linter.unusedVariables false
set_option linter.unusedSimpArgs false
namespace Go.Proofs.Ytkpoagdhekimpaa.Vc
open Go

/-- how a round of a loop within a round may be left -/
def rndE1 (b : Nat) (ids : List Nat) (J Jr : World → Prop) (Je : Nat → World → Prop) (W : World) : Exit → World → Prop
  | .normal, W' => Keep (Oth1 b) W W' ∧ J W'
  | .ret, W' => Keep (Oth1 b) W W' ∧ Jr W'
  | .exit id, W' => bif ids.any (Nat.beq id) then (Keep (Oth1 b) W W' ∧ Je id W') else False
  | _, _ => False
theorem rnd1_of {b : Nat} {ids : List Nat} {J Jr : World → Prop} {Je : Nat → World → Prop} {W : World} {ex : Exit} {a : Act} {W' : World} (h : rndE1 b ids J Jr Je W ex W') : rnd1 b J (jx ids Jr Je) W ex a W' := by
  cases ex with
  | exit id =>
    simp only [rndE1] at h
    cases hi : ids.any (Nat.beq id) with
    | true => rw [hi] at h; exact ⟨h.1, hi, h.2⟩
    | false => rw [hi] at h; exact h.elim
  | normal => exact h
  | ret => exact h
  | _ => exact h.elim
def rgs1 (P : Program) (gf : FuncId) (lb : Array Value) (l0 : Nat) (w : World) (round : (Nat → Int) → (J : Nat → World → Prop) → (Jr : World → Prop) → (Je : Nat → World → Prop) → Prop) (behind : (World → Prop) → (Nat → World → Prop) → Prop) : Prop :=
  (∃ r, w.heap[l0]? = some (.loop r)) ∧ ∃ (encs : Nat → Int) (M : Nat) (J : Nat → World → Prop) (Jr : World → Prop) (Je : Nat → World → Prop), Endless P gf lb (fun k => #[.int .i64 (encs k)]) M ∧ (∀ k W, J k W → k < M) ∧
    (∀ k W W', J k W → Keep (One w.heap.size) W W' → J k W') ∧ (∀ W W', Jr W → Keep (One w.heap.size) W W' → Jr W') ∧ (∀ id W W', Je id W → Keep (One w.heap.size) W W' → Je id W') ∧ (∀ W, Keep None w W → w.heap.size + 1 ≤ W.heap.size → J 0 W) ∧
    round encs J Jr Je ∧ behind Jr Je
def evR (P : Program) (n l0 : Nat) : An2 → Code → Env → World → (Exit → Env → World → Prop) → Prop
  | .base an, c, e, w, K => evC P n an c e w K
  | .seq x y, c, e, w, K => match c with
    | .seq a b => evR P n l0 x a e w fun ex e' w' => match ex with
      | .normal => evR P n l0 y b e' w' K
      | ex => K ex e' w'
    | _ => False
  | .cond x y, c, e, w, K => match c with
    | .cond v a b => match opd e [] v with
      | some (.bool t) => pif t (evR P n l0 x a e w K) (evR P n l0 y b e w K)
      | _ => False
    | _ => False
  | .blk x, c, e, w, K => match c with
    | .block id a => evR P n l0 x a e w fun ex e' w' => match ex with
      | .exit id' => bif Nat.beq id' id then K .normal e' w' else K (.exit id') e' w'
      | ex => K ex e' w'
    | _ => False
  | .rng x y ids, c, e, w, K => match c with
    | .rangeFunc g ps assign body => match opd e [] g, ps.toList with
      | some v, [p] => ∃ (gf : FuncId) (lb : Array Value), v = .func (.func gf) #[] lb ∧ fnOk P gf = true ∧ p < n ∧
        rgs1 P gf lb l0 w (fun encs J Jr Je => ∀ k W, J k W → evC P n x assign (parE p (.int .i64 (encs k)) e) W fun ex e' W₁ => match ex with
          | .normal => Keep (Oth1 w.heap.size) W W₁ ∧ ∀ W₂, Keep (One w.heap.size) W₁ W₂ → evC P n y body e' W₂ fun ex _ W' => rndE1 w.heap.size ids (J (k + 1)) Jr Je W₂ ex W'
          | _ => False) fun Jr Je => (∀ W, Jr W → K .ret e W) ∧ allI ids fun id => ∀ W, Je id W → K (.exit id) e W
      | _, _ => False
    | _ => False
theorem evR_spec {P : Program} {n l0 : Nat} : ∀ (an : An2) (c : Code) (e : Env) (w : World) (K : Exit → Env → World → Prop) (a : Act),
    Sim e a → Str e → a.tmps.size = n → evR P n l0 an c e w K → c.wpIn (Fence.wide.inRound l0) 0 P (fun ex a' w' => ∃ e', Sim e' a' ∧ Str e' ∧ a'.tmps.size = n ∧ a'.defers = a.defers ∧ K ex e' w') a w := by
  intro an
  induction an with
  | base an =>
    intro c e w K a hs hst hn h
    refine wpIn_mono (evC_specIn (wd_round l0) an c e w _ a hs hst hn h) fun ex a' w' hq => ?_
    obtain ⟨e', h1, h2, h3, h4⟩ := hq
    exact ⟨e', h1, h2, h3.size, h3.defers, h4⟩
  | seq x y ihx ihy =>
    intro c e w K a hs hst hn h
    simp only [evR] at h
    split at h
    · rename_i ca cb
      refine wpIn_seq (wpIn_mono (ihx ca e w _ a hs hst hn h) fun ex a' w' hq => ?_)
      obtain ⟨e', h1, h2, h3, hd, h4⟩ := hq
      cases ex with
      | normal =>
        refine wpIn_mono (ihy cb e' w' _ a' h1 h2 h3 h4) fun ex2 a2 w2 hq2 => ?_
        obtain ⟨e2, g1, g2, g3, gd, g4⟩ := hq2
        exact ⟨e2, g1, g2, g3, gd.trans hd, g4⟩
      | _ => exact ⟨e', h1, h2, h3, hd, h4⟩
    · exact h.elim
  | cond x y ihx ihy =>
    intro c e w K a hs hst hn h
    simp only [evR] at h
    split at h
    · rename_i v ca cb
      split at h
      · rename_i t hv
        have hve := opd_spec hs (On.nil a) hv
        exact wpIn_cond_split hve (fun ht => ihx ca e w K a hs hst hn (h.1 ht)) (fun ht => ihy cb e w K a hs hst hn (h.2 ht))
      · exact h.elim
    · exact h.elim
  | blk x ihx =>
    intro c e w K a hs hst hn h
    simp only [evR] at h
    split at h
    · rename_i id ca
      refine wpIn_block (wpIn_mono (ihx ca e w _ a hs hst hn h) fun ex a' w' hq => ?_)
      obtain ⟨e', h1, h2, h3, hd, h4⟩ := hq
      cases ex with
      | exit id' =>
        simp only [Exit.inBlock]
        by_cases hid : id' = id
        · subst hid
          simp only [Nat.beq_refl, cond_true] at h4
          simp only [if_true]
          exact ⟨e', h1, h2, h3, hd, h4⟩
        · have hb : Nat.beq id' id = false := by
            cases hb : Nat.beq id' id with
            | false => rfl
            | true => exact absurd (Nat.eq_of_beq_eq_true hb) hid
          simp only [hb, cond_false] at h4
          rw [if_neg hid]
          exact ⟨e', h1, h2, h3, hd, h4⟩
      | _ => exact ⟨e', h1, h2, h3, hd, h4⟩
    · exact h.elim
  | rng x y ids =>
    intro c e w K a hs hst hn h
    simp only [evR] at h
    split at h
    · rename_i g ps assign body
      split at h
      · rename_i v p hg hps
        obtain ⟨gf, lb, rfl, hok, hp, hrec, encs, M, J, Jr, Je, hit, hM, hJ, hJr, hJe, h0, hround, hb1, hb2⟩ := h
        have hge := opd_spec hs (On.nil a) hg
        have hps' : ps = #[p] := by apply Array.ext'; simpa using hps
        subst hps'
        refine wpIn_endless_in hrec hge hok (fun k => by simp) hit J (jx ids Jr Je) hM hJ (fun c W W' h k => ?_) h0 (fun k W hj => ?_) fun c W hjx => ?_
        · cases c <;> simp only [jx] at h ⊢ <;> try exact h.elim
          · exact ⟨h.1, hJe _ _ _ h.2 k⟩
          · exact hJr _ _ h k
        · have hsp := sim_par (n := n) (p := p) (v := .int .i64 (encs k)) hs hst hn hp []
          have et : ∀ f : Array Value → Tmp × Value → Array Value, (∀ t p v, f t (p, v) = t.setIfInBounds p v) → ((#[p] : Array Tmp).zip #[Value.int .i64 (encs k)]).foldl f a.tmps = a.tmps.setIfInBounds p (.int .i64 (encs k)) := fun f hf => by simp [hf]
          rw [et _ fun _ _ _ => rfl]
          refine wpIn_mono (evC_specIn (wd_round w.heap.size) x assign _ W _ { tmps := a.tmps.setIfInBounds p (.int .i64 (encs k)), defers := [] } hsp.1 hsp.2 (by simpa using hn) (hround k W hj)) fun ex a1 W1 hq => ?_
          obtain ⟨e1, q1, q2, q3, q4⟩ := hq
          cases ex with
          | normal =>
            refine ⟨q4.1, fun W2 hk2 => wpIn_mono (evC_specIn (wd_round w.heap.size) y body e1 W2 _ a1 q1 q2 q3.size (q4.2 W2 hk2)) fun ex2 a2 W3 hq2 => ?_⟩
            obtain ⟨e2, r1, r2, r3, r4⟩ := hq2
            exact rnd1_of r4
          | _ => exact q4.elim
        · cases c <;> simp only [jx] at hjx <;> try exact hjx.elim
          · exact wpIn_exit ⟨e, hs, hst, hn, rfl, allI_mem hb2 hjx.1 W hjx.2⟩
          · exact wpIn_ret ⟨e, hs, hst, hn, rfl, hb1 W hjx⟩
      · exact h.elim
    · exact h.elim

inductive An3 where
  | base (a : An)
  | seq (a b : An3)
  | cond (a b : An3)
  | blk (a : An3)
  | rng (x : An) (y : An2) (ids : List Nat)
def evC3 (P : Program) (n : Nat) : An3 → Code → Env → World → (Exit → Env → List Nat → World → Prop) → Prop
  | .base an, c, e, w, K => evC P n an c e w fun ex e' w' => K ex e' [] w'
  | .seq x y, c, e, w, K => match c with
    | .seq a b => evC3 P n x a e w fun ex e' ms w' => match ex with
      | .normal => evC3 P n y b e' w' fun ex e2 ms2 w2 => K ex e2 (ms2 ++ ms) w2
      | ex => K ex e' ms w'
    | _ => False
  | .cond x y, c, e, w, K => match c with
    | .cond v a b => match opd e [] v with
      | some (.bool t) => pif t (evC3 P n x a e w K) (evC3 P n y b e w K)
      | _ => False
    | _ => False
  | .blk x, c, e, w, K => match c with
    | .block id a => evC3 P n x a e w fun ex e' ms w' => match ex with
      | .exit id' => bif Nat.beq id' id then K .normal e' ms w' else K (.exit id') e' ms w'
      | ex => K ex e' ms w'
    | _ => False
  | .rng x y ids, c, e, w, K => match c with
    | .rangeFunc g ps assign body => match opd e [] g, ps.toList with
      | some v, [p] => ∃ (gf : FuncId) (lb : Array Value), v = .func (.func gf) #[] lb ∧ fnOk P gf = true ∧ p < n ∧
        rgs P gf lb w (fun encs J Jr Je => ∀ k W, J k W → evC P n x assign (parE p (.int .i64 (encs k)) e) W fun ex e' W₁ => match ex with
          | .normal => Keep (Oth w.heap.size) W W₁ ∧ ∀ W₂, Keep (Own2 w.heap.size) W₁ W₂ → (∃ r, W₂.heap[w.heap.size + 1]? = some (.loop r)) → evR P n (w.heap.size + 1) y body e' W₂ fun ex _ W' => rndE w.heap.size ids (J (k + 1)) Jr Je W₂ ex W'
          | _ => False) fun Jr Je => (∀ W, Jr W → W.heap[w.heap.size]? = some (.deferred (some [])) → K .ret e [w.heap.size] W) ∧
            allI ids fun id => ∀ W, Je id W → W.heap[w.heap.size]? = some (.deferred (some [])) → K (.exit id) e [w.heap.size] W
      | _, _ => False
    | _ => False
theorem evC3_spec {P : Program} {n : Nat} : ∀ (an : An3) (c : Code) (e : Env) (w : World) (K : Exit → Env → List Nat → World → Prop) (a : Act),
    Sim e a → Str e → a.tmps.size = n → evC3 P n an c e w K → c.wpIn Fence.wide 0 P (fun ex a' w' => ∃ e' ms, Sim e' a' ∧ Str e' ∧ a'.tmps.size = n ∧ a'.defers = marks ms ++ a.defers ∧ K ex e' ms w') a w := by
  intro an
  induction an with
  | base an =>
    intro c e w K a hs hst hn h
    refine wpIn_mono (evC_specIn wd_wide an c e w _ a hs hst hn h) fun ex a' w' hq => ?_
    obtain ⟨e', h1, h2, h3, h4⟩ := hq
    exact ⟨e', [], h1, h2, h3.size, h3.defers, h4⟩
  | seq x y ihx ihy =>
    intro c e w K a hs hst hn h
    simp only [evC3] at h
    split at h
    · rename_i ca cb
      refine wpIn_seq (wpIn_mono (ihx ca e w _ a hs hst hn h) fun ex a' w' hq => ?_)
      obtain ⟨e', ms, h1, h2, h3, hd, h4⟩ := hq
      cases ex with
      | normal =>
        refine wpIn_mono (ihy cb e' w' _ a' h1 h2 h3 h4) fun ex2 a2 w2 hq2 => ?_
        obtain ⟨e2, ms2, g1, g2, g3, gd, g4⟩ := hq2
        exact ⟨e2, ms2 ++ ms, g1, g2, g3, by rw [gd, hd]; simp [marks], g4⟩
      | _ => exact ⟨e', ms, h1, h2, h3, hd, h4⟩
    · exact h.elim
  | cond x y ihx ihy =>
    intro c e w K a hs hst hn h
    simp only [evC3] at h
    split at h
    · rename_i v ca cb
      split at h
      · rename_i t hv
        have hve := opd_spec hs (On.nil a) hv
        exact wpIn_cond_split hve (fun ht => ihx ca e w K a hs hst hn (h.1 ht)) (fun ht => ihy cb e w K a hs hst hn (h.2 ht))
      · exact h.elim
    · exact h.elim
  | blk x ihx =>
    intro c e w K a hs hst hn h
    simp only [evC3] at h
    split at h
    · rename_i id ca
      refine wpIn_block (wpIn_mono (ihx ca e w _ a hs hst hn h) fun ex a' w' hq => ?_)
      obtain ⟨e', ms, h1, h2, h3, hd, h4⟩ := hq
      cases ex with
      | exit id' =>
        simp only [Exit.inBlock]
        by_cases hid : id' = id
        · subst hid
          simp only [Nat.beq_refl, cond_true] at h4
          simp only [if_true]
          exact ⟨e', ms, h1, h2, h3, hd, h4⟩
        · have hb : Nat.beq id' id = false := by
            cases hb : Nat.beq id' id with
            | false => rfl
            | true => exact absurd (Nat.eq_of_beq_eq_true hb) hid
          simp only [hb, cond_false] at h4
          rw [if_neg hid]
          exact ⟨e', ms, h1, h2, h3, hd, h4⟩
      | _ => exact ⟨e', ms, h1, h2, h3, hd, h4⟩
    · exact h.elim
  | rng x y ids =>
    intro c e w K a hs hst hn h
    simp only [evC3] at h
    split at h
    · rename_i g ps assign body
      split at h
      · rename_i v p hg hps
        obtain ⟨gf, lb, rfl, hok, hp, encs, M, J, Jr, Je, hit, hM, hJ, hJr, hJe, h0, hround, hb1, hb2⟩ := h
        have hge := opd_spec hs (On.nil a) hg
        have hps' : ps = #[p] := by apply Array.ext'; simpa using hps
        subst hps'
        refine wpIn_endless hge hok (fun k => by simp) hit J (jx ids Jr Je) hM hJ (fun c W W' h k => ?_) h0 (fun k W hj => ?_) fun c W hjx hD => ?_
        · cases c <;> simp only [jx] at h ⊢ <;> try exact h.elim
          · exact ⟨h.1, hJe _ _ _ h.2 k⟩
          · exact hJr _ _ h k
        · have hsp := sim_par (n := n) (p := p) (v := .int .i64 (encs k)) hs hst hn hp []
          have et : ∀ f : Array Value → Tmp × Value → Array Value, (∀ t p v, f t (p, v) = t.setIfInBounds p v) → ((#[p] : Array Tmp).zip #[Value.int .i64 (encs k)]).foldl f a.tmps = a.tmps.setIfInBounds p (.int .i64 (encs k)) := fun f hf => by simp [hf]
          rw [et _ fun _ _ _ => rfl]
          refine wpIn_mono (evC_specIn (wd_round (w.heap.size + 1)) x assign _ W _ { tmps := a.tmps.setIfInBounds p (.int .i64 (encs k)), defers := [] } hsp.1 hsp.2 (by simpa using hn) (hround k W hj)) fun ex a1 W1 hq => ?_
          obtain ⟨e1, q1, q2, q3, q4⟩ := hq
          cases ex with
          | normal =>
            refine ⟨q4.1, fun W2 hk2 hrec => wpIn_mono (evR_spec y body e1 W2 _ a1 q1 q2 q3.size (q4.2 W2 hk2 hrec)) fun ex2 a2 W3 hq2 => ?_⟩
            obtain ⟨e2, r1, r2, r3, _, r4⟩ := hq2
            exact rnd_of r4
          | _ => exact q4.elim
        · have hs' : Sim e { a with defers := { target := .collected w.heap.size, args := #[] } :: a.defers } := fun t en hl => ⟨fun ho => (hs t en hl).yes ho, fun hno => (hs t en hl).no hno⟩
          cases c <;> simp only [jx] at hjx <;> try exact hjx.elim
          · exact wpIn_exit ⟨e, [w.heap.size], hs', hst, hn, rfl, allI_mem hb2 hjx.1 W hjx.2 hD⟩
          · exact wpIn_ret ⟨e, [w.heap.size], hs', hst, hn, rfl, hb1 W hjx hD⟩
      · exact h.elim
    · exact h.elim
def evF3 (P : Program) (fn : Func) (an : An3) (args : List Value) (w : World) (R : Value → World → Prop) : Prop :=
  match fn.body with
  | some c => evC3 P fn.ntmps an c (args.zipIdx.map fun (v, i) => ⟨i, [], v⟩) w fun ex e ms w' => match ex with
    | .normal => outM ms w' fun w2 => evRes P fn.results.toList e w2 fun vs => R (tupV vs) w2
    | .ret => outM ms w' fun w2 => evRes P fn.results.toList e w2 fun vs => R (tupV vs) w2
    | _ => False
  | none => False
theorem calls_of_ev3 {P : Program} {f : FuncId} {fn : Func} {an : An3} {args : List Value} {w : World} {R : Value → World → Prop}
    (hf : P.funcs[f]? = some fn) (hn : args.length ≤ fn.ntmps) (h : evF3 P fn an args w R) :
    Calls P f args.toArray w fun e w' => ∃ v, e = .returned v ∧ R v w' := by
  unfold evF3 at h
  split at h
  · rename_i c hb
    refine (callsIn_wide (n := 0)).1 (callsIn_of_wp_marks hf hb trivial ?_ rfl)
    refine wpIn_mono (evC3_spec an c _ w _ _ ?_ ?_ ?_ h) ?_
    · intro t en hl
      have key : ∀ (l : List Value) (k : Nat), look ((l.zipIdx k).map fun (v, i) => (⟨i, [], v⟩ : Ent)) t = some en → en.path = [] ∧ ∃ j, t = k + j ∧ l[j]? = some en.val := by
        intro l
        induction l with
        | nil => intro k h; simp [look] at h
        | cons v l ih =>
          intro k h
          simp only [List.zipIdx_cons, List.map_cons, look] at h
          cases hbb : Nat.beq k t with
          | true =>
            rw [hbb] at h; simp only [cond_true, Option.some.injEq] at h; subst h
            exact ⟨rfl, 0, (Nat.eq_of_beq_eq_true hbb).symm, rfl⟩
          | false =>
            rw [hbb] at h
            obtain ⟨h1, j, h2, h3⟩ := ih (k + 1) h
            exact ⟨h1, j + 1, by omega, by simpa using h3⟩
      obtain ⟨h1, j, h2, h3⟩ := key args 0 hl
      have hsl := look_slot hl
      refine ⟨fun _ => ?_, fun hno => absurd (by rw [h1]; exact On.nil _) hno⟩
      have hj : j < args.length := (List.getElem?_eq_some_iff.1 h3).1
      rw [hsl, h2, Nat.zero_add]
      simp only [Array.getElem?_append, List.size_toArray, hj, if_true]
      simpa using h3
    · intro x hx
      obtain ⟨y, hy, rfl⟩ := List.mem_map.1 hx
      rfl
    · simp; omega
    · intro ex a' w' hq
      obtain ⟨e', ms, h1, h2, h3, hd, h4⟩ := hq
      cases ex with
      | normal =>
        show LeavesInM _ _ _ _ _ _ a'.defers _ _
        rw [hd, List.append_nil]
        exact leaves_of h1 h4
      | ret =>
        show LeavesInM _ _ _ _ _ _ a'.defers _ _
        rw [hd, List.append_nil]
        exact leaves_of h1 h4
      | _ => exact h4.elim
  · exact h.elim
end Go.Proofs.Ytkpoagdhekimpaa.Vc
