/- Code that holds a range over an endless iterator: second storey of the generator. -/
import Derived.Test.YtkpoagdhekimpaaVcY
set_option linter.unusedVariables false
set_option linter.unusedSimpArgs false
namespace Go.Proofs.Ytkpoagdhekimpaa.Vc
open Go

inductive An2 where
  | base (a : An)
  | seq (a b : An2)
  | cond (a b : An2)
  | blk (a : An2)
  | rng (x y : An) (ids : List Nat)
/-- how a round may be left -/
def rndE (b : Nat) (ids : List Nat) (J Jr : World → Prop) (Je : Nat → World → Prop) (W : World) : Exit → World → Prop
  | .normal, W' => Keep (Oth b) W W' ∧ J W'
  | .ret, W' => Keep (Oth b) W W' ∧ Jr W'
  | .exit id, W' => bif ids.any (Nat.beq id) then (Keep (Oth b) W W' ∧ Je id W') else False
  | _, _ => False
def jx (ids : List Nat) (Jr : World → Prop) (Je : Nat → World → Prop) : Code → World → Prop
  | .ret, W => Jr W
  | .exit id, W => ids.any (Nat.beq id) = true ∧ Je id W
  | _, _ => False
theorem rnd_of {b : Nat} {ids : List Nat} {J Jr : World → Prop} {Je : Nat → World → Prop} {W : World} {ex : Exit} {a : Act} {W' : World} (h : rndE b ids J Jr Je W ex W') : rnd b J (jx ids Jr Je) W ex a W' := by
  cases ex with
  | exit id =>
    simp only [rndE] at h
    cases hi : ids.any (Nat.beq id) with
    | true => rw [hi] at h; exact ⟨h.1, hi, h.2⟩
    | false => rw [hi] at h; exact h.elim
  | normal => exact h
  | ret => exact h
  | _ => exact h.elim
def allI : List Nat → (Nat → Prop) → Prop
  | [], _ => True
  | i :: r, f => f i ∧ allI r f
theorem allI_mem : ∀ {l : List Nat} {f : Nat → Prop} {i : Nat}, allI l f → l.any (Nat.beq i) = true → f i := by
  intro l
  induction l with
  | nil => intro f i _ h; cases h
  | cons x l ih =>
    intro f i h hm
    simp only [List.any_cons, Bool.or_eq_true] at hm
    rcases hm with hm | hm
    · rw [Nat.eq_of_beq_eq_true hm]; exact h.1
    · exact ih h.2 hm
/-- a round's values: the parameter's, and what is known else -/
def parE (p : Nat) (v : Value) (e : Env) : Env := ⟨p, [], v⟩ :: e.filter fun x => !(Nat.beq x.slot p)
/-- the iterator that is gone over, and what the rounds keep -/
def rgs (P : Program) (gf : FuncId) (lb : Array Value) (w : World) (round : (Nat → Int) → (J : Nat → World → Prop) → (Jr : World → Prop) → (Je : Nat → World → Prop) → Prop) (behind : (World → Prop) → (Nat → World → Prop) → Prop) : Prop :=
  ∃ (encs : Nat → Int) (M : Nat) (J : Nat → World → Prop) (Jr : World → Prop) (Je : Nat → World → Prop), Endless P gf lb (fun k => #[.int .i64 (encs k)]) M ∧ (∀ k W, J k W → k < M) ∧
    (∀ k W W', J k W → Keep (Own2 w.heap.size) W W' → J k W') ∧ (∀ W W', Jr W → Keep (Own2 w.heap.size) W W' → Jr W') ∧ (∀ id W W', Je id W → Keep (Own2 w.heap.size) W W' → Je id W') ∧ (∀ W, Keep None w W → w.heap.size + 2 ≤ W.heap.size → J 0 W) ∧
    round encs J Jr Je ∧ behind Jr Je
def evC2 (P : Program) (n : Nat) : An2 → Code → Env → World → (Exit → Env → List Nat → World → Prop) → Prop
  | .base an, c, e, w, K => evC P n an c e w fun ex e' w' => K ex e' [] w'
  | .seq x y, c, e, w, K => match c with
    | .seq a b => evC2 P n x a e w fun ex e' ms w' => match ex with
      | .normal => evC2 P n y b e' w' fun ex e2 ms2 w2 => K ex e2 (ms2 ++ ms) w2
      | ex => K ex e' ms w'
    | _ => False
  | .cond x y, c, e, w, K => match c with
    | .cond v a b => match opd e [] v with
      | some (.bool t) => pif t (evC2 P n x a e w K) (evC2 P n y b e w K)
      | _ => False
    | _ => False
  | .blk x, c, e, w, K => match c with
    | .block id a => evC2 P n x a e w fun ex e' ms w' => match ex with
      | .exit id' => bif Nat.beq id' id then K .normal e' ms w' else K (.exit id') e' ms w'
      | ex => K ex e' ms w'
    | _ => False
  | .rng x y ids, c, e, w, K => match c with
    | .rangeFunc g ps assign body => match opd e [] g, ps.toList with
      | some v, [p] => ∃ (gf : FuncId) (lb : Array Value), v = .func (.func gf) #[] lb ∧ fnOk P gf = true ∧ p < n ∧
        rgs P gf lb w (fun encs J Jr Je => ∀ k W, J k W → evC P n x assign (parE p (.int .i64 (encs k)) e) W fun ex e' W₁ => match ex with
          | .normal => Keep (Oth w.heap.size) W W₁ ∧ ∀ W₂, Keep (Own2 w.heap.size) W₁ W₂ → evC P n y body e' W₂ fun ex _ W' => rndE w.heap.size ids (J (k + 1)) Jr Je W₂ ex W'
          | _ => False) fun Jr Je => (∀ W, Jr W → W.heap[w.heap.size]? = some (.deferred (some [])) → K .ret e [w.heap.size] W) ∧
            allI ids fun id => ∀ W, Je id W → W.heap[w.heap.size]? = some (.deferred (some [])) → K (.exit id) e [w.heap.size] W
      | _, _ => False
    | _ => False
def marks (ms : List Nat) : List Deferred := ms.map fun D => { target := .collected D, args := #[] }
theorem sim_par {n p : Nat} {v : Value} {e : Env} {a : Act} (hs : Sim e a) (hst : Str e) (hn : a.tmps.size = n) (hp : p < n) (ds : List Deferred) : Sim (parE p v e) { tmps := a.tmps.setIfInBounds p v, defers := ds } ∧ Str (parE p v e) := by
  constructor
  · intro t en h
    unfold parE at h
    simp only [look] at h
    cases hb : Nat.beq p t with
    | true =>
      rw [hb] at h
      simp only [cond_true, Option.some.injEq] at h
      subst h
      refine ⟨fun _ => ?_, fun hno => absurd (On.nil _) hno⟩
      simp [show p < a.tmps.size by omega]
    | false =>
      rw [hb] at h
      simp only [cond_false] at h
      have key : ∀ (e : Env), look (e.filter fun x => !(Nat.beq x.slot p)) t = some en → look e t = some en := by
        intro e
        induction e with
        | nil => intro h; exact h
        | cons x e ih =>
          intro h
          simp only [List.filter_cons] at h
          simp only [look]
          cases hx : Nat.beq x.slot p with
          | true =>
            rw [hx] at h
            simp only [Bool.not_true, Bool.false_eq_true, if_false] at h
            have e1 := Nat.eq_of_beq_eq_true hx
            rw [e1, hb]
            exact ih h
          | false =>
            rw [hx] at h
            simp only [Bool.not_false, if_true, look] at h
            cases hxt : Nat.beq x.slot t with
            | true => rw [hxt] at h; exact h
            | false => rw [hxt] at h; exact ih h
      have hl := key e h
      have hok := hs t en hl
      have hpa := hst en (look_mem hl)
      have hsl := look_slot hl
      have hv := hok.yes (by rw [hpa]; exact On.nil a)
      have hne : p ≠ t := fun e1 => by rw [e1, Nat.beq_refl] at hb; cases hb
      refine ⟨fun _ => ?_, fun hno => absurd (by rw [hpa]; exact On.nil _) hno⟩
      rw [hsl] at hv ⊢
      simp [Array.getElem?_setIfInBounds_ne hne, hv]
  · intro x hx
    rcases List.mem_cons.1 hx with rfl | hx
    · rfl
    · exact hst x (List.mem_filter.1 hx).1
theorem evC2_spec {P : Program} {n : Nat} : ∀ (an : An2) (c : Code) (e : Env) (w : World) (K : Exit → Env → List Nat → World → Prop) (a : Act),
    Sim e a → Str e → a.tmps.size = n → evC2 P n an c e w K → c.wpIn Fence.wide 0 P (fun ex a' w' => ∃ e' ms, Sim e' a' ∧ Str e' ∧ a'.tmps.size = n ∧ a'.defers = marks ms ++ a.defers ∧ K ex e' ms w') a w := by
  intro an
  induction an with
  | base an =>
    intro c e w K a hs hst hn h
    refine wpIn_mono (evC_specIn wd_wide an c e w _ a hs hst hn h) fun ex a' w' hq => ?_
    obtain ⟨e', h1, h2, h3, h4⟩ := hq
    exact ⟨e', [], h1, h2, h3.size, h3.defers, h4⟩
  | seq x y ihx ihy =>
    intro c e w K a hs hst hn h
    simp only [evC2] at h
    split at h
    · rename_i ca cb
      refine wpIn_seq (wpIn_mono (ihx ca e w _ a hs hst hn h) fun ex a' w' hq => ?_)
      obtain ⟨e', ms, h1, h2, h3, hd, h4⟩ := hq
      cases ex with
      | normal =>
        refine wpIn_mono (ihy cb e' w' _ a' h1 h2 h3 h4) fun ex2 a2 w2 hq2 => ?_
        obtain ⟨e2, ms2, g1, g2, g3, gd, g4⟩ := hq2
        exact ⟨e2, ms2 ++ ms, g1, g2, g3, by rw [gd, hd]; simp [marks], g4⟩
      | _ => exact ⟨e', ms, h1, h2, h3, hd, h4⟩
    · exact h.elim
  | cond x y ihx ihy =>
    intro c e w K a hs hst hn h
    simp only [evC2] at h
    split at h
    · rename_i v ca cb
      split at h
      · rename_i t hv
        have hve := opd_spec hs (On.nil a) hv
        exact wpIn_cond_split hve (fun ht => ihx ca e w K a hs hst hn (h.1 ht)) (fun ht => ihy cb e w K a hs hst hn (h.2 ht))
      · exact h.elim
    · exact h.elim
  | blk x ihx =>
    intro c e w K a hs hst hn h
    simp only [evC2] at h
    split at h
    · rename_i id ca
      refine wpIn_block (wpIn_mono (ihx ca e w _ a hs hst hn h) fun ex a' w' hq => ?_)
      obtain ⟨e', ms, h1, h2, h3, hd, h4⟩ := hq
      cases ex with
      | exit id' =>
        simp only [Exit.inBlock]
        by_cases hid : id' = id
        · subst hid
          simp only [Nat.beq_refl, cond_true] at h4
          simp only [if_true]
          exact ⟨e', ms, h1, h2, h3, hd, h4⟩
        · have hb : Nat.beq id' id = false := by
            cases hb : Nat.beq id' id with
            | false => rfl
            | true => exact absurd (Nat.eq_of_beq_eq_true hb) hid
          simp only [hb, cond_false] at h4
          rw [if_neg hid]
          exact ⟨e', ms, h1, h2, h3, hd, h4⟩
      | _ => exact ⟨e', ms, h1, h2, h3, hd, h4⟩
    · exact h.elim
  | rng x y ids =>
    intro c e w K a hs hst hn h
    simp only [evC2] at h
    split at h
    · rename_i g ps assign body
      split at h
      · rename_i v p hg hps
        obtain ⟨gf, lb, rfl, hok, hp, encs, M, J, Jr, Je, hit, hM, hJ, hJr, hJe, h0, hround, hb1, hb2⟩ := h
        have hge := opd_spec hs (On.nil a) hg
        have hps' : ps = #[p] := by apply Array.ext'; simpa using hps
        subst hps'
        refine wpIn_endless hge hok (fun k => by simp) hit J (jx ids Jr Je) hM hJ (fun c W W' h k => ?_) h0 (fun k W hj => ?_) fun c W hjx hD => ?_
        · cases c <;> simp only [jx] at h ⊢ <;> try exact h.elim
          · exact ⟨h.1, hJe _ _ _ h.2 k⟩
          · exact hJr _ _ h k
        · have hsp := sim_par (n := n) (p := p) (v := .int .i64 (encs k)) hs hst hn hp []
          have et : ∀ f : Array Value → Tmp × Value → Array Value, (∀ t p v, f t (p, v) = t.setIfInBounds p v) → ((#[p] : Array Tmp).zip #[Value.int .i64 (encs k)]).foldl f a.tmps = a.tmps.setIfInBounds p (.int .i64 (encs k)) := fun f hf => by simp [hf]
          rw [et _ fun _ _ _ => rfl]
          refine wpIn_mono (evC_specIn (wd_round (w.heap.size + 1)) x assign _ W _ { tmps := a.tmps.setIfInBounds p (.int .i64 (encs k)), defers := [] } hsp.1 hsp.2 (by simpa using hn) (hround k W hj)) fun ex a1 W1 hq => ?_
          obtain ⟨e1, q1, q2, q3, q4⟩ := hq
          cases ex with
          | normal =>
            refine ⟨q4.1, fun W2 hk2 _ => wpIn_mono (evC_specIn (wd_round (w.heap.size + 1)) y body e1 W2 _ a1 q1 q2 q3.size (q4.2 W2 hk2)) fun ex2 a2 W3 hq2 => ?_⟩
            obtain ⟨e2, r1, r2, r3, r4⟩ := hq2
            exact rnd_of r4
          | _ => exact q4.elim
        · have hs' : Sim e { a with defers := { target := .collected w.heap.size, args := #[] } :: a.defers } := fun t en hl => ⟨fun ho => (hs t en hl).yes ho, fun hno => (hs t en hl).no hno⟩
          cases c <;> simp only [jx] at hjx <;> try exact hjx.elim
          · exact wpIn_exit ⟨e, [w.heap.size], hs', hst, hn, rfl, allI_mem hb2 hjx.1 W hjx.2 hD⟩
          · exact wpIn_ret ⟨e, [w.heap.size], hs', hst, hn, rfl, hb1 W hjx hD⟩
      · exact h.elim
    · exact h.elim
end Go.Proofs.Ytkpoagdhekimpaa.Vc
