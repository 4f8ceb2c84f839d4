/- The verification-condition generator, seventh part: code: sequences, tests, blocks, loops, where ways meet; functions. -/
import Derived.Test.YtjpblaenebodlaaVcI
set_option linter.unusedVariables false
set_option linter.unusedSimpArgs false
namespace Go.Proofs.Ytjpblaenebodlaa.Vc
open Go

/-- how a piece of code is to be gone through -/
inductive An where
  | leaf
  | seq (a b : An)
  | cond (a b : An)
  | blk (a : An)
  | loop (ks : List (Nat × Kd)) (a : An)
  | join (ks : List (Nat × Kd)) (a : An)
  | draw (bm : List Nat)

@[reducible] def TupK : List (Nat × Kd) → Type
  | [] => Unit
  | (_, k) :: r => KTy k × TupK r
def decA : (ks : List (Nat × Kd)) → Env → (TupK ks → Prop) → Prop
  | [], _, f => f ()
  | (t, k) :: r, e, f => match look e t with
    | some en => (match en.path with
      | [] => unk k en.val fun x => decA r e fun y => f (x, y)
      | _ :: _ => False)
    | none => False
def encA : (ks : List (Nat × Kd)) → TupK ks → Env
  | [], _ => []
  | (t, k) :: r, x => ⟨t, [], kval k x.1⟩ :: encA r x.2

def writesO (l : List Oper) (t : Nat) : Bool := l.any fun o => match o.dst with | some d => Nat.beq d t | none => false
def writesB : Code → Nat → Bool
  | .seq a b, t => writesB a t || writesB b t
  | .cond _ a b, t => writesB a t || writesB b t
  | .block _ a, t => writesB a t
  | .loop a, t => writesB a t
  | .scope a, t => writesB a t
  | .region _ ops _, t => writesO ops.toList t
  | .skip, _ => false
  | .ret, _ => false
  | .exit _, _ => false
  | .label _, _ => false
  | _, _ => true
def kill (c : Code) (e : Env) : Env := e.filter fun x => !(writesB c x.slot)

def evC (P : Program) (n : Nat) : An → Code → Env → World → (Exit → Env → World → Prop) → Prop
  | .seq x y, c, e, w, K => match c with
    | .seq a b => evC P n x a e w fun ex e' w' => match ex with
      | .normal => evC P n y b e' w' K
      | ex => K ex e' w'
    | _ => False
  | .cond x y, c, e, w, K => match c with
    | .cond v a b => match opd e [] v with
      | some (.bool t) => pif t (evC P n x a e w K) (evC P n y b e w K)
      | _ => False
    | _ => False
  | .blk x, c, e, w, K => match c with
    | .block id a => evC P n x a e w fun ex e' w' => match ex with
      | .exit id' => bif Nat.beq id' id then K .normal e' w' else K (.exit id') e' w'
      | ex => K ex e' w'
    | _ => False
  | .loop ks x, c, e, w, K => match c with
    | .loop a => decA ks e fun s => lp (fun s w k => evC P n x a (encA ks s ++ kill a e) w fun ex e' w' => match ex with
      | .normal => decA ks e' fun s' => k s' w'
      | ex => K ex e' w') s w
    | _ => False
  | .join ks x, c, e, w, K => jn (fun k => evC P n x c e w fun ex e' w' => match ex with
      | .normal => decA ks e' fun s => k s w'
      | ex => K ex e' w') fun s w' => K .normal (encA ks s ++ kill c e) w'
  | .draw bm, c, e, w, K => match c with
    | .region _ ops d => match d, drOk P ops bm with
      | true, true => evT P n ops bm (ops.toList.length + 1) 0 [] [] e w.drew fun e' w' => K .normal e' w'
      | _, _ => False
    | _ => False
  | .leaf, c, e, w, K => match c with
    | .skip => K .normal e w
    | .ret => K .ret e w
    | .exit id => K (.exit id) e w
    | .label _ => K .normal e w
    | .region _ ops d => match d with
      | false => evReg P n ops ops.toList [] e w fun e' w' => K .normal e' w'
      | true => False
    | _ => False

/-! The proof -/
def Str (e : Env) : Prop := ∀ x ∈ e, x.path = []
structure Fr (n : Nat) (c : Code) (a a' : Act) : Prop where
  size : a'.tmps.size = n
  defers : a'.defers = a.defers
  keep : ∀ t, writesB c t = false → a'.tmps[t]? = a.tmps[t]?

theorem decA_spec : ∀ {ks : List (Nat × Kd)} {e : Env} {f : TupK ks → Prop} {a : Act}, Sim e a → decA ks e f → ∃ s, f s ∧ Sim (encA ks s) a ∧ Str (encA ks s)
  | [], e, f, a, _, h => ⟨(), h, fun t en h => by simp [encA, look] at h, fun x hx => by simp [encA] at hx⟩
  | (t, k) :: r, e, f, a, hs, h => by
    simp only [decA] at h
    split at h
    · rename_i en hl
      split at h
      · rename_i hp
        obtain ⟨x, hx, h⟩ := unk_spec h
        obtain ⟨y, hy, h1, h2⟩ := decA_spec hs h
        refine ⟨(x, y), hy, fun t' en' hl' => ?_, fun z hz => ?_⟩
        · simp only [encA, look] at hl'
          cases hb : Nat.beq t t' with
          | true =>
            rw [hb] at hl'; simp only [cond_true, Option.some.injEq] at hl'; subst hl'
            have hv := (hs t en hl).yes (by rw [hp]; exact On.nil a)
            rw [look_slot hl, hx] at hv
            exact ⟨fun _ => hv, fun hno => absurd (On.nil a) hno⟩
          | false => rw [hb] at hl'; exact h1 t' en' hl'
        · simp only [encA, List.mem_cons] at hz
          rcases hz with rfl | hz
          · rfl
          · exact h2 z hz
      · exact h.elim
    · exact h.elim

theorem look_kill {c : Code} : ∀ {e : Env} {t : Nat} {en : Ent}, look (kill c e) t = some en → look e t = some en ∧ writesB c t = false
  | [], t, en, h => by simp [kill, look] at h
  | x :: r, t, en, h => by
    simp only [kill, List.filter_cons] at h
    simp only [look]
    cases hw : writesB c x.slot with
    | true =>
      rw [hw] at h
      simp only [Bool.not_true, Bool.false_eq_true, if_false] at h
      obtain ⟨h1, h2⟩ := look_kill (c := c) (e := r) h
      cases hb : Nat.beq x.slot t with
      | true => have := Nat.eq_of_beq_eq_true hb; subst this; rw [hw] at h2; cases h2
      | false => exact ⟨h1, h2⟩
    | false =>
      rw [hw] at h
      simp only [Bool.not_false, if_true, look] at h
      cases hb : Nat.beq x.slot t with
      | true =>
        rw [hb] at h
        have := Nat.eq_of_beq_eq_true hb; subst this
        exact ⟨h, hw⟩
      | false => rw [hb] at h; exact look_kill (c := c) (e := r) h

theorem sim_app {e1 e2 : Env} {a : Act} (h1 : Sim e1 a) (h2 : ∀ t en, look e2 t = some en → EntOk a en) : Sim (e1 ++ e2) a := by
  induction e1 with
  | nil => exact h2
  | cons x r ih =>
    intro t en h
    simp only [List.cons_append, look] at h
    cases hb : Nat.beq x.slot t with
    | true =>
      rw [hb] at h
      exact h1 t en (by simp only [look, hb]; exact h)
    | false =>
      rw [hb] at h
      refine ih2 h1 h2 hb h
where
  ih2 {x : Ent} {r e2 : Env} {a : Act} {t : Nat} {en : Ent} (h1 : Sim (x :: r) a) (h2 : ∀ t en, look e2 t = some en → EntOk a en) (hb : Nat.beq x.slot t = false) (h : look (r ++ e2) t = some en) : EntOk a en := by
    by_cases hr : ∃ en', look r t = some en'
    · obtain ⟨en', hr⟩ := hr
      have := look_append_left (e := e2) hr
      rw [h] at this; simp at this; subst this
      exact h1 t en (by simp only [look, hb]; exact hr)
    · have hn : look r t = none := by cases hl : look r t with | none => rfl | some z => exact absurd ⟨z, hl⟩ hr
      have he : look e2 t = some en := by
        clear h1 hr hb
        induction r with
        | nil => exact h
        | cons y q ih =>
          simp only [List.cons_append, look] at h hn
          cases hb' : Nat.beq y.slot t with
          | true => rw [hb'] at hn; simp at hn
          | false => rw [hb'] at h hn; exact ih h hn
      exact h2 t en he

theorem sim_kill {c : Code} {n : Nat} {e : Env} {a a' : Act} (hs : Sim e a) (hst : Str e) (hf : ∀ t, writesB c t = false → a'.tmps[t]? = a.tmps[t]?) :
    ∀ t en, look (kill c e) t = some en → EntOk a' en := by
  intro t en h
  obtain ⟨h1, h2⟩ := look_kill h
  have hok := hs t en h1
  have hp := hst en (look_mem h1)
  have hv := hok.yes (by rw [hp]; exact On.nil a)
  rw [look_slot h1] at hv
  refine ⟨fun _ => by rw [look_slot h1, hf t h2, hv], fun hno => absurd (by rw [hp]; exact On.nil a') hno⟩
theorem str_kill {c : Code} {e : Env} (h : Str e) : Str (kill c e) := fun x hx => h x (List.mem_filter.1 hx).1
theorem str_app {e1 e2 : Env} (h1 : Str e1) (h2 : Str e2) : Str (e1 ++ e2) := fun x hx => (List.mem_append.1 hx).elim (h1 x) (h2 x)

theorem dsts_of_writes {l : List Oper} {t : Nat} (h : writesO l t = false) : ¬ dsts l t := by
  rintro ⟨o, ho, hd⟩
  have := List.any_eq_false.1 h o ho
  rw [hd] at this
  exact this (Nat.beq_refl t)

theorem evC_spec {P : Program} {n : Nat} : ∀ (an : An) (c : Code) (e : Env) (w : World) (K : Exit → Env → World → Prop) (a : Act),
    Sim e a → Str e → a.tmps.size = n → evC P n an c e w K → c.wp P (fun ex a' w' => ∃ e', Sim e' a' ∧ Str e' ∧ Fr n c a a' ∧ K ex e' w') a w := by
  intro an
  induction an with
  | seq x y ihx ihy =>
    intro c e w K a hs hst hn h
    simp only [evC] at h
    split at h
    · rename_i ca cb
      refine wp_seq (wp_mono (ihx ca e w _ a hs hst hn h) fun ex a' w' hq => ?_)
      obtain ⟨e', h1, h2, h3, h4⟩ := hq
      cases ex with
      | normal =>
        refine wp_mono (ihy cb e' w' K a' h1 h2 h3.size h4) fun ex2 a2 w2 hq2 => ?_
        obtain ⟨e2, g1, g2, g3, g4⟩ := hq2
        exact ⟨e2, g1, g2, ⟨g3.size, g3.defers.trans h3.defers, fun t ht => by
          simp only [writesB, Bool.or_eq_false_iff] at ht
          rw [g3.keep t ht.2, h3.keep t ht.1]⟩, g4⟩
      | _ => exact ⟨e', h1, h2, ⟨h3.size, h3.defers, fun t ht => by
          simp only [writesB, Bool.or_eq_false_iff] at ht
          exact h3.keep t ht.1⟩, h4⟩
    · exact h.elim
  | cond x y ihx ihy =>
    intro c e w K a hs hst hn h
    simp only [evC] at h
    split at h
    · rename_i v ca cb
      split at h
      · rename_i t hv
        have hve := opd_spec hs (On.nil a) hv
        refine wp_cond_split hve (fun ht => ?_) (fun ht => ?_)
        · refine wp_mono (ihx ca e w K a hs hst hn (h.1 ht)) fun ex a' w' hq => ?_
          obtain ⟨e', h1, h2, h3, h4⟩ := hq
          exact ⟨e', h1, h2, ⟨h3.size, h3.defers, fun t ht => by
            simp only [writesB, Bool.or_eq_false_iff] at ht
            exact h3.keep t ht.1⟩, h4⟩
        · refine wp_mono (ihy cb e w K a hs hst hn (h.2 ht)) fun ex a' w' hq => ?_
          obtain ⟨e', h1, h2, h3, h4⟩ := hq
          exact ⟨e', h1, h2, ⟨h3.size, h3.defers, fun t ht => by
            simp only [writesB, Bool.or_eq_false_iff] at ht
            exact h3.keep t ht.2⟩, h4⟩
      · exact h.elim
    · exact h.elim
  | blk x ihx =>
    intro c e w K a hs hst hn h
    simp only [evC] at h
    split at h
    · rename_i id ca
      refine wp_block (wp_mono (ihx ca e w _ a hs hst hn h) fun ex a' w' hq => ?_)
      obtain ⟨e', h1, h2, h3, h4⟩ := hq
      have h3' : Fr n (.block id ca) a a' := ⟨h3.size, h3.defers, h3.keep⟩
      cases ex with
      | exit id' =>
        simp only [Exit.inBlock]
        by_cases hid : id' = id
        · subst hid
          simp only [Nat.beq_refl, cond_true] at h4
          simp only [if_true]
          exact ⟨e', h1, h2, h3', h4⟩
        · have hb : Nat.beq id' id = false := by
            cases hb : Nat.beq id' id with
            | false => rfl
            | true => exact absurd (Nat.eq_of_beq_eq_true hb) hid
          simp only [hb, cond_false] at h4
          rw [if_neg hid]
          exact ⟨e', h1, h2, h3', h4⟩
      | _ => exact ⟨e', h1, h2, h3', h4⟩
    · exact h.elim
  | loop ks x ihx =>
    intro c e w K a hs hst hn h
    simp only [evC] at h
    split at h
    · rename_i ca
      obtain ⟨s, h, hs0, hst0⟩ := decA_spec hs h
      obtain ⟨I, μ, hI, hround⟩ := h
      refine wp_loop_ghost (fun k a' w' => ∃ s, Sim (encA ks s ++ kill ca e) a' ∧ Str (encA ks s ++ kill ca e) ∧ Fr n (.loop ca) a a' ∧ I s w' ∧ μ s w' = k) (μ s w)
        ⟨s, sim_app hs0 (sim_kill (n := n) hs hst fun _ _ => rfl), str_app hst0 (str_kill hst), ⟨hn, rfl, fun _ _ => rfl⟩, hI, rfl⟩ ?_
      intro k a1 w1 hr
      obtain ⟨s1, g1, g2, g3, g4, rfl⟩ := hr
      refine wp_mono (ihx ca _ w1 _ a1 g1 g2 g3.size (hround s1 w1 g4)) fun ex a' w' hq => ?_
      obtain ⟨e', h1, h2, h3, h4⟩ := hq
      have h3' : Fr n (.loop ca) a a' := ⟨h3.size, h3.defers.trans g3.defers, fun t ht => by
        rw [h3.keep t ht, g3.keep t ht]⟩
      cases ex with
      | normal =>
        obtain ⟨s', ⟨hI', hμ⟩, hs', hst'⟩ := decA_spec h1 h4
        exact ⟨μ s' w', hμ, s', sim_app hs' (sim_kill (n := n) hs hst fun t ht => h3'.keep t ht), str_app hst' (str_kill hst), h3', hI', rfl⟩
      | _ => exact ⟨e', h1, h2, h3', h4⟩
    · exact h.elim
  | join ks x ihx =>
    intro c e w K a hs hst hn h
    simp only [evC] at h
    obtain ⟨R, hA, hB⟩ := h
    refine wp_mono (ihx c e w _ a hs hst hn hA) fun ex a' w' hq => ?_
    obtain ⟨e', h1, h2, h3, h4⟩ := hq
    cases ex with
    | normal =>
      obtain ⟨s, hR, hs', hst'⟩ := decA_spec h1 h4
      exact ⟨_, sim_app hs' (sim_kill (n := n) hs hst h3.keep), str_app hst' (str_kill hst), h3, hB s w' hR⟩
    | _ => exact ⟨e', h1, h2, h3, h4⟩
  | draw bm =>
    intro c e w K a hs hst hn h
    simp only [evC] at h
    split at h
    · rename_i id ops d
      split at h
      · rename_i hdr
        refine evDraw_spec hdr hs hst hn h fun a' w' e' q1 q2 q3 q4 q5 q6 => ⟨e', q1, q2, ⟨q3, q4, fun t ht => q5 t fun j hj => ?_⟩, q6⟩
        unfold Wr at hj
        cases ho : ops[j]? with
        | none => simp [ho] at hj
        | some o =>
          rw [ho] at hj
          exact dsts_of_writes ht ⟨o, Array.mem_toList_iff.2 (Array.mem_of_getElem? ho), by simpa using hj⟩
      · exact h.elim
    · exact h.elim
  | leaf =>
    intro c e w K a hs hst hn h
    simp only [evC] at h
    split at h
    · exact wp_skip ⟨e, hs, hst, ⟨hn, rfl, fun _ _ => rfl⟩, h⟩
    · exact wp_ret ⟨e, hs, hst, ⟨hn, rfl, fun _ _ => rfl⟩, h⟩
    · exact wp_exit ⟨e, hs, hst, ⟨hn, rfl, fun _ _ => rfl⟩, h⟩
    · exact wp_label ⟨e, hs, hst, ⟨hn, rfl, fun _ _ => rfl⟩, h⟩
    · rename_i id ops d
      split at h
      · refine wp_region_list (evReg_spec ops.toList [] e w a ⟨fun x hx => (by cases hx), hst, fun x hx => (by cases hx)⟩ (by simpa using hs) hn h ?_)
        intro a' w' e' q1 q2 q3 q4 q5 q6
        exact ⟨e', q1, q2, ⟨q3, q4, fun t ht => q5 t (dsts_of_writes ht)⟩, q6⟩
      · exact h.elim
    · exact h.elim

/-! ### Functions -/
/-- what a function hands back, read at its end -/
def evRes (P : Program) : List ResultVar → Env → World → (List Value → Prop) → Prop
  | [], _, _, K => K []
  | r :: rs, e, w, K => match r with
    | .tmp t => match opd e [] (.tmp t) with
      | some v => evRes P rs e w fun vs => K (v :: vs)
      | none => False
    | .cell t ty => adr (opd e [] (.tmp t)) fun a => loadT P ty a w fun v => evRes P rs e w fun vs => K (v :: vs)
def tupV (vs : List Value) : Value := match vs with | [v] => v | vs => .tuple vs.toArray

def evF (P : Program) (fn : Func) (an : An) (args : List Value) (w : World) (R : Value → World → Prop) : Prop :=
  match fn.body with
  | some c => evC P fn.ntmps an c (args.zipIdx.map fun (v, i) => ⟨i, [], v⟩) w fun ex e w' => match ex with
    | .normal => evRes P fn.results.toList e w' fun vs => R (tupV vs) w'
    | .ret => evRes P fn.results.toList e w' fun vs => R (tupV vs) w'
    | _ => False
  | none => False

theorem evRes_spec {P : Program} {w : World} : ∀ {rs : List ResultVar} {e : Env} {K : List Value → Prop} {a : Act}, Sim e a → evRes P rs e w K →
    ∃ vs : List Value, (rs.mapM (fun | .tmp t => pure (a.tmps.getD t undef) | .cell b t => do loadVar t (← asAddr (a.tmps.getD b undef)) : ResultVar → Sem Value)).run P w = .ok vs w ∧ K vs
  | [], e, K, a, hs, h => ⟨[], rfl, h⟩
  | r :: rs, e, K, a, hs, h => by
    simp only [evRes] at h
    split at h
    · rename_i t
      split at h
      · rename_i v hv
        have hv' := opd_spec hs (On.nil a) hv
        simp only [Act.eval] at hv'
        obtain ⟨vs, h1, h2⟩ := evRes_spec hs h
        refine ⟨v :: vs, ?_, h2⟩
        rw [List.mapM_cons]
        simp only [Sem.run_bind, Sem.run_pure, Result.andThen_ok, hv']
        erw [h1]
        rfl
      · exact h.elim
    · rename_i t ty
      obtain ⟨ad, hx, h⟩ := adr_spec h
      have hv' := opd_spec hs (On.nil a) hx
      simp only [Act.eval] at hv'
      obtain ⟨v, hl, h⟩ := loadT_spec h
      obtain ⟨vs, h1, h2⟩ := evRes_spec hs h
      refine ⟨v :: vs, ?_, h2⟩
      rw [List.mapM_cons]
      simp only [Sem.run_bind, hv', asAddr, Sem.run_pure, Result.andThen_ok, hl]
      erw [h1]
      rfl

theorem results_of {P : Program} {fn : Func} {e : Env} {w : World} {K : List Value → Prop} {a : Act} (hs : Sim e a) (h : evRes P fn.results.toList e w K) :
    ∃ vs, (results fn a.tmps).run P w = .ok (tupV vs) w ∧ K vs := by
  obtain ⟨vs, h1, h2⟩ := evRes_spec hs h
  refine ⟨vs, ?_, h2⟩
  unfold results
  rw [Array.mapM_eq_mapM_toList]
  simp only [Sem.run_bind, Sem.run_map]
  erw [h1]
  simp only [Result.andThen_ok, Sem.run_pure]
  congr 1
  match vs with
  | [] => rfl
  | [v] => rfl
  | v :: u :: r =>
    rw [dif_neg (by simp)]
    rfl

theorem calls_of_ev {P : Program} {f : FuncId} {fn : Func} {an : An} {args : List Value} {w : World} {R : Value → World → Prop}
    (hf : P.funcs[f]? = some fn) (hn : args.length ≤ fn.ntmps) (h : evF P fn an args w R) :
    Calls P f args.toArray w fun e w' => ∃ v, e = .returned v ∧ R v w' := by
  unfold evF at h
  split at h
  · rename_i c hb
    refine calls_of_wp hf hb ?_
    refine wp_mono (evC_spec an c _ w _ _ ?_ ?_ ?_ h) ?_
    · intro t en hl
      have key : ∀ (l : List Value) (k : Nat), look ((l.zipIdx k).map fun (v, i) => (⟨i, [], v⟩ : Ent)) t = some en → en.path = [] ∧ ∃ j, t = k + j ∧ l[j]? = some en.val := by
        intro l
        induction l with
        | nil => intro k h; simp [look] at h
        | cons v l ih =>
          intro k h
          simp only [List.zipIdx_cons, List.map_cons, look] at h
          cases hbb : Nat.beq k t with
          | true =>
            rw [hbb] at h; simp only [cond_true, Option.some.injEq] at h; subst h
            exact ⟨rfl, 0, (Nat.eq_of_beq_eq_true hbb).symm, rfl⟩
          | false =>
            rw [hbb] at h
            obtain ⟨h1, j, h2, h3⟩ := ih (k + 1) h
            exact ⟨h1, j + 1, by omega, by simpa using h3⟩
      obtain ⟨h1, j, h2, h3⟩ := key args 0 hl
      have hsl := look_slot hl
      refine ⟨fun _ => ?_, fun hno => absurd (by rw [h1]; exact On.nil _) hno⟩
      have hj : j < args.length := (List.getElem?_eq_some_iff.1 h3).1
      rw [hsl, h2, Nat.zero_add]
      simp only [Array.getElem?_append, List.size_toArray, hj, if_true]
      simpa using h3
    · intro x hx
      obtain ⟨y, hy, rfl⟩ := List.mem_map.1 hx
      rfl
    · simp; omega
    · intro ex a' w' hq
      obtain ⟨e', h1, h2, h3, h4⟩ := hq
      cases ex with
      | normal =>
        obtain ⟨vs, g1, g2⟩ := results_of h1 h4
        exact ⟨h3.defers, _, g1, _, rfl, g2⟩
      | ret =>
        obtain ⟨vs, g1, g2⟩ := results_of h1 h4
        exact ⟨h3.defers, _, g1, _, rfl, g2⟩
      | _ => exact h4.elim
  · exact h.elim
end Go.Proofs.Ytjpblaenebodlaa.Vc
