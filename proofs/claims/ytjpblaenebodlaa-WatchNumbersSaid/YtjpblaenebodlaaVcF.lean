/- The verification-condition generator, sixth part: a region's operations, one behind the other. -/
import Derived.Test.YtjpblaenebodlaaVcE
set_option linter.unusedVariables false
set_option linter.unusedSimpArgs false
namespace Go.Proofs.Ytjpblaenebodlaa.Vc
open Go

def slotOf (ops : Array Oper) (j : Nat) : Option Nat := match ops[j]? with | some o => o.dst | none => none
def dstOk (n : Nat) (le : Env) (d : Option Nat) : Bool :=
  match d with
  | none => true
  | some d => Nat.blt d n && !(le.any fun x => Nat.beq x.slot d)
def put1 (d : Option Nat) (p : Path) (v : Value) (le : Env) : Env := match d with | none => le | some d => ⟨d, p, v⟩ :: le
def strong (le : Env) : Env := le.filter fun x => x.path.isEmpty
/-- what was made under a condition hides nothing of before -/
def wkOk (le e : Env) : Bool := le.all fun x => x.path.isEmpty || (match look e x.slot with | none => true | some _ => false)

def dflL : (l : Leaf) → LTy l
  | .int _ => (0 : Int)
  | .bool => false
  | .flt _ => (0 : Nat)
  | .str => ByteArray.empty
  | .ptr => none
  | .slc => (none, 0, 0)
  | .mp => none
  | .any => undef
def dflLs : (ls : List Leaf) → TupL ls
  | [] => ()
  | l :: ls => (dflL l, dflLs ls)
def dfl : (k : Kd) → KTy k
  | .one l => dflL l
  | .agg ls => dflLs ls
  | .unit => ()
  | .adr => ⟨0, 0, none⟩

/-- the kind of what a guarded operation comes to -/
def gkd (P : Program) (o : Oper) : Option Kd :=
  match o.op with
  | .indexAddr .. => some .adr
  | .nilCheck _ => some .adr
  | .store .. => some .unit
  | .mapUpdate .. => some .unit
  | _ => match rkOf P o.type with
    | some (.one k) => some k
    | _ => none

def evReg (P : Program) (n : Nat) (ops : Array Oper) : List Oper → Env → Env → World → (Env → World → Prop) → Prop
  | [], le, e, w, K => match wkOk le e with | true => K (strong le ++ e) w | false => False
  | o :: rest, le, e, w, K =>
    match dstOk n le o.dst with
    | false => False
    | true => match o.guard with
      | none => match evPure P o.op (le ++ e) [] with
        | some v => evReg P n ops rest (put1 o.dst [] v le) e w K
        | none => evPrim P o (le ++ e) [] w fun v w' => evReg P n ops rest (put1 o.dst [] v le) e w' K
      | some (j, want) => match slotOf ops j with
        | none => False
        | some s => match look le s with
          | none => False
          | some en => match evPure P o.op (le ++ e) ((s, want) :: en.path) with
            | some v => evReg P n ops rest (put1 o.dst ((s, want) :: en.path) v le) e w K
            | none => match pathB (le ++ e) ((s, want) :: en.path), gkd P o with
              | some c, some kd => gd c (fun k => evPrim P o (le ++ e) ((s, want) :: en.path) w fun v w' => unk kd v fun x => k x w') (dfl kd) w
                  (fun x w' => evReg P n ops rest (put1 o.dst ((s, want) :: en.path) (kval kd x) le) e w' K)
              | _, _ => False

/-! The proof -/
structure Loc (le e : Env) : Prop where
  wk : ∀ x ∈ le, ∀ y ∈ x.path, ∃ z ∈ le, z.slot = y.1
  st : ∀ x ∈ e, x.path = []
  di : ∀ x ∈ le, ∀ y ∈ le, x.slot = y.slot → x = y

theorem dstOk_spec {n : Nat} {le : Env} {d : Nat} (h : dstOk n le (some d) = true) : d < n ∧ ∀ x ∈ le, x.slot ≠ d := by
  simp only [dstOk, Bool.and_eq_true, Bool.not_eq_true'] at h
  refine ⟨Nat.le_of_ble_eq_true h.1, fun x hx e => ?_⟩
  have := List.any_eq_false.1 h.2 x hx
  rw [e] at this
  exact this (Nat.beq_refl d)

theorem look_append_left : ∀ {le e : Env} {t : Nat} {en : Ent}, look le t = some en → look (le ++ e) t = some en
  | x :: r, e, t, en, h => by
    simp only [List.cons_append, look] at h ⊢
    cases hb : Nat.beq x.slot t with
    | true => rw [hb] at h; exact h
    | false => rw [hb] at h; exact look_append_left h

theorem put_ne {a : Act} {d t : Nat} {v : Value} (h : d ≠ t) : (a.put (some d) v).tmps[t]? = a.tmps[t]? := by
  simp [Act.put, Array.getElem?_setIfInBounds_ne h]
theorem put_self {a : Act} {d : Nat} {v : Value} (h : d < a.tmps.size) : (a.put (some d) v).tmps[d]? = some v := by
  simp [Act.put, h]
theorem put_size (a : Act) (d : Option Nat) (v : Value) : (a.put d v).tmps.size = a.tmps.size := by cases d <;> simp [Act.put]
theorem put_defers (a : Act) (d : Option Nat) (v : Value) : (a.put d v).defers = a.defers := by cases d <;> rfl

theorem on_put {a : Act} {d : Nat} {v : Value} {p : Path} (h : ∀ y ∈ p, y.1 ≠ d) : On (a.put (some d) v) p ↔ On a p := by
  constructor
  · intro ho x hx; have := ho x hx; rwa [put_ne (Ne.symm (h x hx))] at this
  · intro ho x hx; have := ho x hx; rwa [put_ne (Ne.symm (h x hx))]

theorem Sim.put1 {n : Nat} {le e : Env} {a : Act} {d : Option Nat} {p : Path} {v v' : Value} (hl : Loc le e) (hs : Sim (le ++ e) a) (hn : a.tmps.size = n) (hd : dstOk n le d = true)
    (hp : ∀ y ∈ p, ∃ z ∈ le, z.slot = y.1) (h1 : On a p → v' = v) (h2 : ¬ On a p → v' = undef) : Sim (put1 d p v le ++ e) (a.put d v') ∧ Loc (put1 d p v le) e := by
  cases d with
  | none => exact ⟨hs, hl⟩
  | some d =>
    obtain ⟨hdn, hdl⟩ := dstOk_spec hd
    refine ⟨fun t en hlk => ?_, ⟨fun x hx y hy => ?_, hl.st, fun x hx y hy hxy => ?_⟩⟩
    · simp only [Vc.put1, List.cons_append, look] at hlk
      cases hb : Nat.beq d t with
      | true =>
        have hdt := Nat.eq_of_beq_eq_true hb
        subst hdt
        rw [hb] at hlk; simp only [cond_true, Option.some.injEq] at hlk; subst hlk
        have hpn : ∀ y ∈ p, y.1 ≠ d := fun y hy => by obtain ⟨z, hz, hzs⟩ := hp y hy; rw [← hzs]; exact hdl z hz
        exact ⟨fun ho => by rw [put_self (by omega), h1 ((on_put hpn).1 ho)], fun ho => by rw [put_self (by omega), h2 (fun h => ho ((on_put hpn).2 h))]⟩
      | false =>
        rw [hb] at hlk; simp only [cond_false] at hlk
        have hne : d ≠ t := fun h => by subst h; simp at hb
        have hslot := look_slot hlk
        have hok := hs t en hlk
        have hpn : ∀ y ∈ en.path, y.1 ≠ d := fun y hy => by
          rcases List.mem_append.1 (look_mem hlk) with hm | hm
          · obtain ⟨z, hz, hzs⟩ := hl.wk en hm y hy; rw [← hzs]; exact hdl z hz
          · rw [hl.st en hm] at hy; cases hy
        exact ⟨fun ho => by rw [put_ne (by rw [hslot]; exact hne)]; exact hok.yes ((on_put hpn).1 ho),
          fun ho => by rw [put_ne (by rw [hslot]; exact hne)]; exact hok.no (fun h => ho ((on_put hpn).2 h))⟩
    · rcases List.mem_cons.1 hx with rfl | hx
      · obtain ⟨z, hz, hzs⟩ := hp y hy; exact ⟨z, List.mem_cons_of_mem _ hz, hzs⟩
      · obtain ⟨z, hz, hzs⟩ := hl.wk x hx y hy; exact ⟨z, List.mem_cons_of_mem _ hz, hzs⟩
    · rcases List.mem_cons.1 hx with rfl | hx' <;> rcases List.mem_cons.1 hy with rfl | hy'
      · rfl
      · exact absurd hxy.symm (hdl y hy')
      · exact absurd hxy (hdl x hx')
      · exact hl.di x hx' y hy' hxy

theorem look_strong : ∀ {le e : Env} {t : Nat} {en : Ent}, (∀ x ∈ e, x.path = []) → look (strong le ++ e) t = some en →
    en.path = [] := by
  intro le e t en he h
  rcases List.mem_append.1 (look_mem h) with hm | hm
  · have := (List.mem_filter.1 hm).2; simpa using this
  · exact he en hm

theorem look_of_strong : ∀ {le e : Env} {t : Nat} {en : Ent}, (∀ x ∈ le, ∀ y ∈ le, x.slot = y.slot → x = y) → wkOk le e = true →
    look (strong le ++ e) t = some en → look (le ++ e) t = some en
  | [], e, t, en, _, _, h => h
  | x :: r, e, t, en, hd, hw, h => by
    have hd' : ∀ x ∈ r, ∀ y ∈ r, x.slot = y.slot → x = y := fun a ha b hb => hd a (List.mem_cons_of_mem _ ha) b (List.mem_cons_of_mem _ hb)
    simp only [wkOk, List.all_cons, Bool.and_eq_true] at hw
    have hw' : wkOk r e = true := hw.2
    cases hs : x.path.isEmpty with
    | true =>
      have e1 : strong (x :: r) = x :: strong r := by simp [strong, hs]
      rw [e1] at h
      simp only [List.cons_append, look] at h ⊢
      cases hb : Nat.beq x.slot t with
      | true => rw [hb] at h; exact h
      | false => rw [hb] at h; exact look_of_strong hd' hw' h
    | false =>
      have e1 : strong (x :: r) = strong r := by simp [strong, hs]
      rw [e1] at h
      have ih := look_of_strong hd' hw' h
      simp only [List.cons_append, look]
      cases hb : Nat.beq x.slot t with
      | false => exact ih
      | true =>
        exfalso
        have hxt := Nat.eq_of_beq_eq_true hb
        have hsl := look_slot h
        have hmem : en ∈ strong r ∨ en ∈ e := List.mem_append.1 (look_mem h)
        by_cases hm : en ∈ strong r
        · have hm' := List.mem_filter.1 hm
          have := hd x List.mem_cons_self en (List.mem_cons_of_mem _ hm'.1) (hxt.trans hsl.symm)
          subst this
          rw [hs] at hm'; simp at hm'
        · have hn : look (strong r) t = none := by
            cases hl : look (strong r) t with
            | none => rfl
            | some en' =>
              have := look_append_left (e := e) hl
              rw [h] at this; simp at this; subst this
              exact absurd (look_mem hl) hm
          have he : look e t = some en := by
            clear ih hm hmem hw hw' hd hd' e1
            revert h hn
            generalize strong r = q
            intro h hn
            induction q with
            | nil => exact h
            | cons y q ih =>
              simp only [List.cons_append, look] at h hn
              cases hb' : Nat.beq y.slot t with
              | true => rw [hb'] at hn; simp at hn
              | false => rw [hb'] at h hn; exact ih h hn
          have := hw.1
          rw [hs, hxt, he] at this
          simp at this

def dsts (l : List Oper) (t : Nat) : Prop := ∃ o ∈ l, o.dst = some t

theorem gd_spec {α : Type} {c : Bool} {A : (α → World → Prop) → Prop} {d : α} {w : World} {K : α → World → Prop} (h : gd c A d w K) : (c = true → A K) ∧ (c = false → K d w) := h

theorem wanted_guard {ops : Array Oper} {o : Oper} {j s : Nat} {want : Bool} (hg : o.guard = some (j, want)) (hs : slotOf ops j = some s) (a : Act) :
    Region.wanted o (yielded ops a.tmps) = true ↔ a.tmps[s]? = some (.bool want) := by
  have hj : (ops[j]?).bind (·.dst) = some s := by
    unfold slotOf at hs; split at hs
    · rename_i oj hoj; simp [hoj, hs]
    · cases hs
  simp only [Region.wanted, hg, yielded, hj, Option.bind_some]
  cases hv : a.tmps[s]? with
  | none => simp
  | some v => cases v <;> simp

theorem evReg_spec {P : Program} {n : Nat} {ops : Array Oper} {K : Env → World → Prop} {Q : Exit → Act → World → Prop} : ∀ (l : List Oper) (le e : Env) (w : World) (a : Act),
    Loc le e → Sim (le ++ e) a → a.tmps.size = n → evReg P n ops l le e w K →
    (∀ a' w' e', Sim e' a' → (∀ x ∈ e', x.path = []) → a'.tmps.size = n → a'.defers = a.defers → (∀ t, ¬ dsts l t → a'.tmps[t]? = a.tmps[t]?) → K e' w' → Q .normal a' w') →
    wpList P ops Q l a w := by
  intro l
  induction l with
  | nil =>
    intro le e w a hl hs hn h hQ
    simp only [evReg] at h
    split at h
    · rename_i hw
      exact hQ a w _ (fun t en hlk => hs t en (look_of_strong hl.di hw hlk)) (fun x hx => by
        rcases List.mem_append.1 hx with hx | hx
        · have := (List.mem_filter.1 hx).2; simpa using this
        · exact hl.st x hx) hn rfl (fun t _ => rfl) h
    · exact h.elim
  | cons o l ih =>
    intro le e w a hl hs hn h hQ
    simp only [evReg] at h
    cases hd : dstOk n le o.dst with
    | false => rw [hd] at h; exact h.elim
    | true =>
      rw [hd] at h
      simp only [] at h
      -- the rest, behind a value that was put
      have rest : ∀ (p : Path) (v v' : Value) (w' : World), (∀ y ∈ p, ∃ z ∈ le, z.slot = y.1) → (On a p → v' = v) → (¬ On a p → v' = undef) →
          evReg P n ops l (put1 o.dst p v le) e w' K → wpList P ops Q l (a.put o.dst v') w' := by
        intro p v v' w' hp h1 h2 h3
        obtain ⟨hs', hl'⟩ := hs.put1 hl hn hd hp h1 h2
        refine ih _ e w' _ hl' hs' (by rw [put_size]; exact hn) h3 fun a' w'' e' q1 q2 q3 q4 q5 q6 => hQ a' w'' e' q1 q2 q3 (by rw [q4, put_defers]) (fun t ht => ?_) q6
        rw [q5 t (fun ⟨o', ho', hd'⟩ => ht ⟨o', List.mem_cons_of_mem _ ho', hd'⟩)]
        cases hdd : o.dst with
        | none => rfl
        | some d => exact put_ne fun hdt => ht ⟨o, List.mem_cons_self, by rw [hdd, hdt]⟩
      cases hg : o.guard with
      | none =>
        rw [hg] at h
        simp only [] at h
        unfold wpList
        rw [if_pos (by simp [Region.wanted, hg])]
        refine .inl ?_
        cases hv : evPure P o.op (le ++ e) [] with
        | some v =>
          rw [hv] at h
          unfold Oper.wp
          rw [evPure_spec hs (On.nil a) hv]
          exact rest [] v v w (fun y hy => by cases hy) (fun _ => rfl) (fun hno => absurd (On.nil a) hno) h
        | none =>
          rw [hv] at h
          refine Oper.wp_mono (fun a' w' hx => ?_) (evPrim_spec (Q := Q) hs (On.nil a) h)
          obtain ⟨v, rfl, hK⟩ := hx
          exact rest [] v v w' (fun y hy => by cases hy) (fun _ => rfl) (fun hno => absurd (On.nil a) hno) hK
      | some jw =>
        obtain ⟨j, want⟩ := jw
        rw [hg] at h
        simp only [] at h
        cases hso : slotOf ops j with
        | none => rw [hso] at h; exact h.elim
        | some s =>
          rw [hso] at h
          simp only [] at h
          cases hle : look le s with
          | none => rw [hle] at h; exact h.elim
          | some en =>
            rw [hle] at h
            simp only [] at h
            have hen := hs s en (look_append_left hle)
            have hsl := look_slot hle
            have hp : ∀ y ∈ (s, want) :: en.path, ∃ z ∈ le, z.slot = y.1 := fun y hy => by
              rcases List.mem_cons.1 hy with rfl | hy
              · exact ⟨en, look_mem hle, hsl⟩
              · exact hl.wk en (look_mem hle) y hy
            have hon : Region.wanted o (yielded ops a.tmps) = true ↔ On a ((s, want) :: en.path) := by
              rw [wanted_guard hg hso]
              constructor
              · intro hv
                have hop : On a en.path := Classical.byContradiction fun hno => by
                  have := hen.no hno; rw [hsl, hv] at this; simp [undef] at this
                intro y hy
                rcases List.mem_cons.1 hy with rfl | hy
                · exact hv
                · exact hop y hy
              · intro ho; exact ho (s, want) List.mem_cons_self
            unfold wpList
            cases hv : evPure P o.op (le ++ e) ((s, want) :: en.path) with
            | some v =>
              rw [hv] at h
              by_cases hw : Region.wanted o (yielded ops a.tmps) = true
              · rw [if_pos hw]
                refine .inl ?_
                unfold Oper.wp
                rw [evPure_spec hs (hon.1 hw) hv]
                exact rest _ v v w hp (fun _ => rfl) (fun hno => absurd (hon.1 hw) hno) h
              · rw [if_neg hw]
                exact rest _ v undef w hp (fun hy => absurd (hon.2 hy) hw) (fun _ => rfl) h
            | none =>
              rw [hv] at h
              simp only [] at h
              split at h
              · rename_i c kd hc hkd
                have hcp := pathB_spec hs hc
                by_cases hw : Region.wanted o (yielded ops a.tmps) = true
                · rw [if_pos hw]
                  refine .inl ?_
                  have h1 := h.1 (hcp.2 (hon.1 hw))
                  refine Oper.wp_mono (fun a' w' hx => ?_) (evPrim_spec (Q := Q) hs (hon.1 hw) h1)
                  obtain ⟨v, rfl, hK⟩ := hx
                  obtain ⟨x, rfl, hK'⟩ := unk_spec hK
                  exact rest _ _ _ w' hp (fun _ => rfl) (fun hno => absurd (hon.1 hw) hno) hK'
                · rw [if_neg hw]
                  have hcf : c = false := by
                    cases c with
                    | false => rfl
                    | true => exact absurd (hon.2 (hcp.1 rfl)) hw
                  exact rest _ _ undef w hp (fun hy => absurd (hon.2 hy) hw) (fun _ => rfl) (h.2 hcf)
              · exact h.elim
end Go.Proofs.Ytjpblaenebodlaa.Vc
