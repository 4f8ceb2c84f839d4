/- The verification-condition generator, eighth part: regions whose order Go leaves open. -/
import Derived.Test.YtjpblaenebodlaaVcF
set_option linter.unusedVariables false
set_option linter.unusedSimpArgs false
namespace Go.Proofs.Ytjpblaenebodlaa.Vc
open Go

/-- operations that change nothing -/
def rdB : Op → Bool
  | .move _ | .assign _ | .pick .. | .unOp .. | .binOp .. | .convert .. | .field .. | .extract .. | .makeFunc .. | .makeInterface .. | .fieldAddr .. | .build ..
  | .load .. | .nilCheck _ | .indexAddr .. | .index .. | .slice .. => true
  | .call c => match c.callee with
    | .builtin b => (match b with | .len | .cap | .min | .max => true | _ => false)
    | _ => false
  | _ => false
def ldB' (o : Op) : Bool := match o with | .load .. => true | _ => false
def stB (o : Op) : Bool := match o with | .nilCheck _ | .binOp .. | .indexAddr .. | .index .. | .slice .. => true | _ => false

/-- a load that has been made, to be asked again -/
structure Pd where
  i : Nat
  o : Oper
  E : Env
  p : Path
  c : Option Bool
  v : Value
def chkP (P : Program) (w : World) (d : Pd) : Prop :=
  match d.c with
  | none => evPrim P d.o d.E d.p w fun v' _ => v' = d.v
  | some c => c = true → evPrim P d.o d.E d.p w fun v' _ => v' = d.v

def hasB (d i : Nat) : Bool := Nat.testBit d i
def addB (d i : Nat) : Nat := d ||| (1 <<< i)
def predM (o : Oper) : Nat := o.after.toList.foldr (fun e acc => bif Region.binds .any e then addB acc e.on else acc) 0
def subB (x y : Nat) : Bool := Nat.beq (x &&& y) x
def rdyB (d i : Nat) (o : Oper) : Bool := !(hasB d i) && subB (predM o) d

def firstR (d : Nat) : List Oper → Nat → Option (Nat × Oper)
  | [], _ => none
  | o :: r, i => bif rdB o.op && rdyB d i o then some (i, o) else firstR d r (i + 1)
def readyE (d : Nat) : List Oper → Nat → List (Nat × Oper)
  | [], _ => []
  | o :: r, i => bif !(rdB o.op) && rdyB d i o then (i, o) :: readyE d r (i + 1) else readyE d r (i + 1)
def allE {α : Type} : List α → (α → Prop) → Prop
  | [], _ => True
  | i :: r, f => match r with | [] => f i | _ :: _ => f i ∧ allE r f
def chks (P : Program) (w : World) (m : Nat) : List Pd → Prop → Prop
  | [], Q => Q
  | d :: r, Q => bif hasB m d.i then chks P w m r Q else (chkP P w d ∧ chks P w m r Q)

/-- one operation that changes nothing -/
def rdStep (P : Program) (n : Nat) (ops : Array Oper) (o : Oper) (i : Nat) (le e : Env) (w : World) (pend : List Pd) (K : Env → List Pd → Prop) : Prop :=
  match dstOk n le o.dst with
  | false => False
  | true => match o.guard with
    | none => match evPure P o.op (le ++ e) [] with
      | some v => K (put1 o.dst [] v le) pend
      | none => match ldB' o.op with
        | true => evPrim P o (le ++ e) [] w fun v _ => K (put1 o.dst [] v le) (⟨i, o, le ++ e, [], none, v⟩ :: pend)
        | false => match stB o.op with
          | true => evPrim P o (le ++ e) [] w fun v _ => K (put1 o.dst [] v le) pend
          | false => False
    | some (j, want) => match slotOf ops j with
      | none => False
      | some s => match look le s with
        | none => False
        | some en => match evPure P o.op (le ++ e) ((s, want) :: en.path) with
          | some v => K (put1 o.dst ((s, want) :: en.path) v le) pend
          | none => match pathB (le ++ e) ((s, want) :: en.path), gkd P o with
            | some c, some kd => (match ldB' o.op with
              | true => gd c (fun k => evPrim P o (le ++ e) ((s, want) :: en.path) w fun v _ => unk kd v fun x => k x w) (dfl kd) w
                (fun x _ => K (put1 o.dst ((s, want) :: en.path) (kval kd x) le) (⟨i, o, le ++ e, (s, want) :: en.path, some c, kval kd x⟩ :: pend))
              | false => match stB o.op with
                | true => gd c (fun k => evPrim P o (le ++ e) ((s, want) :: en.path) w fun v _ => unk kd v fun x => k x w) (dfl kd) w
                  (fun x _ => K (put1 o.dst ((s, want) :: en.path) (kval kd x) le) pend)
                | false => False)
            | _, _ => False
/-- one that may change something -/
def efStep (P : Program) (n : Nat) (ops : Array Oper) (o : Oper) (le e : Env) (w : World) (K : Env → World → Prop) : Prop :=
  match dstOk n le o.dst with
  | false => False
  | true => match o.guard with
    | none => evPrim P o (le ++ e) [] w fun v w' => K (put1 o.dst [] v le) w'
    | some (j, want) => match slotOf ops j with
      | none => False
      | some s => match look le s with
        | none => False
        | some en => match pathB (le ++ e) ((s, want) :: en.path), gkd P o with
          | some c, some kd => gd c (fun k => evPrim P o (le ++ e) ((s, want) :: en.path) w fun v w' => unk kd v fun x => k x w') (dfl kd) w
              (fun x w' => K (put1 o.dst ((s, want) :: en.path) (kval kd x) le) w')
          | _, _ => False

def evT (P : Program) (n : Nat) (ops : Array Oper) (bm : List Nat) : Nat → Nat → List Pd → Env → Env → World → (Env → World → Prop) → Prop
  | 0, _, _, _, _, _, _ => False
  | f + 1, d, pend, le, e, w, K =>
    match firstR d ops.toList 0 with
    | some (i, o) => rdStep P n ops o i le e w pend fun le' pend' => evT P n ops bm f (addB d i) pend' le' e w K
    | none => match readyE d ops.toList 0 with
      | [] => match Nat.beq d (2 ^ ops.toList.length - 1) with
        | true => match wkOk le e with | true => K (strong le ++ e) w | false => False
        | false => False
      | q :: r => allE (q :: r) fun x => efStep P n ops x.2 le e w fun le' w' =>
          chks P w' (bm.getD x.1 0) pend (evT P n ops bm f (addB d x.1) pend le' e w' K)

/-! what is asked of a region once -/
def edge (ops : Array Oper) (i j : Nat) : Bool := match ops[i]? with | some o => hasB (predM o) j | none => false
def namesT (ops : Array Oper) (o : Oper) (t : Nat) : Bool := (o.looksAt ops).any fun u => Nat.beq u t
/-- who writes what another looks at stands before or behind it -/
def depOk (ops : Array Oper) : Bool :=
  (List.range ops.size).all fun j => match (ops[j]?).bind (·.dst) with
    | none => true
    | some t => (List.range ops.size).all fun i => Nat.beq i j || (match ops[i]? with
      | some o => (match o.dst with | some u => !(Nat.beq u t) | none => true) && (!(namesT ops o t) || edge ops i j || edge ops j i)
      | none => true)
def acyOk (ops : Array Oper) : Bool := (List.range ops.size).all fun i => match ops[i]? with
  | some o => Nat.blt (predM o) (2 ^ i)
  | none => true
def uniM (ops : Array Oper) (bm : List Nat) (i : Nat) : Nat → Nat
  | 0 => match ops[i]? with | some o => predM o | none => 0
  | k + 1 => bif edge ops i k then uniM ops bm i k ||| bm.getD k 0 else uniM ops bm i k
def bmOk (ops : Array Oper) (bm : List Nat) : Bool := (List.range ops.size).all fun i => subB (bm.getD i 0) (uniM ops bm i ops.size)
def noSel (ops : Array Oper) : Bool := ops.toList.all fun o => match o.op with | .select .. => false | _ => true
def drOk (P : Program) (ops : Array Oper) (bm : List Nat) : Bool := depOk ops && acyOk ops && bmOk ops bm && noSel ops && P.follows .mixedOrders

/-! The proof -/
theorem hasB_add {d i j : Nat} : hasB (addB d i) j = (hasB d j || decide (i = j)) := by
  simp only [hasB, addB, Nat.testBit_or, Nat.shiftLeft_eq, Nat.one_mul, Nat.testBit_two_pow]
theorem subB_spec {x y : Nat} (h : subB x y = true) {j : Nat} (hj : hasB x j = true) : hasB y j = true := by
  have := Nat.eq_of_beq_eq_true h
  unfold hasB at hj ⊢
  rw [← this, Nat.testBit_and] at hj
  exact (Bool.and_eq_true _ _ ▸ hj).2
theorem predM_spec {o : Oper} {e : Edge} (he : e ∈ o.after) (hb : Region.binds .any e = true) : hasB (predM o) e.on = true := by
  unfold predM
  have : e ∈ o.after.toList := Array.mem_toList_iff.2 he
  generalize o.after.toList = l at this
  induction l with
  | nil => cases this
  | cons x r ih =>
    rw [List.foldr_cons]
    rcases List.mem_cons.1 this with rfl | h
    · rw [hb]; simp only [cond_true, hasB_add]; simp
    · cases Region.binds .any x with
      | true => simp only [cond_true, hasB_add, ih h, Bool.true_or]
      | false => exact ih h
theorem predM_spec' {o : Oper} {j : Nat} (h : hasB (predM o) j = true) : ∃ e ∈ o.after, Region.binds .any e = true ∧ e.on = j := by
  unfold predM at h
  have key : ∀ l : List Edge, hasB (l.foldr (fun e acc => bif Region.binds .any e then addB acc e.on else acc) 0) j = true → ∃ e ∈ l, Region.binds .any e = true ∧ e.on = j := by
    intro l
    induction l with
    | nil => intro h; simp [hasB] at h
    | cons x r ih =>
      intro h
      rw [List.foldr_cons] at h
      cases hb : Region.binds .any x with
      | true =>
        rw [hb] at h; simp only [cond_true, hasB_add, Bool.or_eq_true, decide_eq_true_eq] at h
        rcases h with h | h
        · obtain ⟨e, he, h1⟩ := ih h; exact ⟨e, List.mem_cons_of_mem _ he, h1⟩
        · exact ⟨x, List.mem_cons_self, hb, h⟩
      | false =>
        rw [hb] at h; simp only [cond_false] at h
        obtain ⟨e, he, h1⟩ := ih h; exact ⟨e, List.mem_cons_of_mem _ he, h1⟩
  obtain ⟨e, he, h1⟩ := key _ h
  exact ⟨e, Array.mem_toList_iff.1 he, h1⟩

section
variable {P : Program} {n : Nat} {ops : Array Oper}

/-- the writer of a slot -/
def Wr (ops : Array Oper) (t j : Nat) : Prop := (ops[j]?).bind (·.dst) = some t
structure DepOk (ops : Array Oper) : Prop where
  uniq : ∀ t i j, Wr ops t i → Wr ops t j → i = j
  dep : ∀ t i j o, Wr ops t j → ops[i]? = some o → i ≠ j → t ∈ o.looksAt ops → edge ops i j = true ∨ edge ops j i = true
theorem wr_lt {t j : Nat} (h : Wr ops t j) : j < ops.size := by
  unfold Wr at h
  cases hj : ops[j]? with
  | none => simp [hj] at h
  | some o => exact (Array.getElem?_eq_some_iff.1 hj).1
theorem depOk_spec (h : depOk ops = true) : DepOk ops := by
  have key : ∀ t i j o, Wr ops t j → ops[i]? = some o → i ≠ j → (o.dst ≠ some t) ∧ (t ∈ o.looksAt ops → edge ops i j = true ∨ edge ops j i = true) := by
    intro t i j o hw ho hij
    have h1 := List.all_eq_true.1 h j (List.mem_range.2 (wr_lt hw))
    unfold Wr at hw
    rw [hw] at h1
    simp only [] at h1
    have hi : i < ops.size := (Array.getElem?_eq_some_iff.1 ho).1
    have h2 := List.all_eq_true.1 h1 i (List.mem_range.2 hi)
    rw [ho] at h2
    simp only [Bool.or_eq_true, Bool.and_eq_true] at h2
    rcases h2 with h2 | ⟨h2, h3⟩
    · exact absurd (Nat.eq_of_beq_eq_true h2) hij
    · refine ⟨fun hd => ?_, fun hl => ?_⟩
      · rw [hd] at h2; simp at h2
      · rcases h3 with (h3 | h3) | h3
        · exfalso
          simp only [Bool.not_eq_true', namesT] at h3
          exact absurd (Nat.beq_refl t) (by simpa using List.any_eq_false.1 h3 t hl)
        · exact .inl h3
        · exact .inr h3
  refine ⟨fun t i j hi hj => Classical.byContradiction fun hne => ?_, fun t i j o hj ho hij hl => (key t i j o hj ho hij).2 hl⟩
  have hi' := hi
  unfold Wr at hi'
  cases ho : ops[i]? with
  | none => simp [ho] at hi'
  | some o =>
    rw [ho] at hi'
    exact (key t i j o hj ho hne).1 (by simpa using hi')

/-- a set of operations with all that stands before them -/
def Clo (ops : Array Oper) (d : Nat) : Prop := ∀ i j, hasB d i = true → edge ops i j = true → hasB d j = true
theorem Clo.add {d i : Nat} {o : Oper} (h : Clo ops d) (ho : ops[i]? = some o) (hr : rdyB d i o = true) : Clo ops (addB d i) := by
  intro a b ha hb
  rw [hasB_add] at ha ⊢
  simp only [Bool.or_eq_true, decide_eq_true_eq] at ha ⊢
  rcases ha with ha | rfl
  · exact .inl (h a b ha hb)
  · simp only [rdyB, Bool.and_eq_true] at hr
    simp only [edge, ho] at hb
    exact .inl (subB_spec hr.2 hb)

/-- what the frame holds when just these have been made -/
structure St (ops : Array Oper) (a0 : Act) (out : Nat → Value) (d : Nat) (a : Act) : Prop where
  size : a.tmps.size = a0.tmps.size
  defers : a.defers = a0.defers
  yes : ∀ t j, Wr ops t j → hasB d j = true → a.tmps[t]? = some (out j)
  no : ∀ t, (∀ j, Wr ops t j → hasB d j = false) → a.tmps[t]? = a0.tmps[t]?

theorem St.put {a0 a : Act} {out : Nat → Value} {d i : Nat} {o : Oper} (hu : DepOk ops) (h : St ops a0 out d a) (ho : ops[i]? = some o) (hd : ∀ t, o.dst = some t → t < a0.tmps.size) :
    St ops a0 out (addB d i) (a.put o.dst (out i)) := by
  refine ⟨by rw [put_size, h.size], by rw [put_defers, h.defers], fun t j hw hj => ?_, fun t hno => ?_⟩
  · rw [hasB_add] at hj
    simp only [Bool.or_eq_true, decide_eq_true_eq] at hj
    by_cases hij : i = j
    · subst hij
      have hdt : o.dst = some t := by unfold Wr at hw; rw [ho] at hw; simpa using hw
      rw [hdt, put_self (by rw [h.size]; exact hd t hdt)]
    · have hjd : hasB d j = true := hj.resolve_right hij
      cases hdd : o.dst with
      | none => exact h.yes t j hw hjd
      | some u =>
        have hne : u ≠ t := fun e => hij (hu.uniq t i j (by unfold Wr; rw [ho]; simp [hdd, e]) hw)
        rw [put_ne hne]; exact h.yes t j hw hjd
  · have hno' : ∀ j, Wr ops t j → hasB d j = false := fun j hw => by
      have := hno j hw; rw [hasB_add] at this; simp only [Bool.or_eq_false_iff] at this; exact this.1
    cases hdd : o.dst with
    | none => exact h.no t hno'
    | some u =>
      have hne : u ≠ t := fun e => by
        have := hno i (by unfold Wr; rw [ho]; simp [hdd, e])
        rw [hasB_add] at this; simp at this
      rw [put_ne hne]; exact h.no t hno'

/-- an operation looks at the same wherever it is made -/
theorem St.look {a0 a a' : Act} {out : Nat → Value} {d d' i : Nat} {o : Oper} (hu : DepOk ops) (hc : Clo ops d) (hc' : Clo ops d') (h : St ops a0 out d a) (h' : St ops a0 out d' a')
    (ho : ops[i]? = some o) (hr : rdyB d i o = true) (hr' : rdyB d' i o = true) {t : Nat} (ht : t ∈ o.looksAt ops) : a.tmps[t]? = a'.tmps[t]? := by
  simp only [rdyB, Bool.and_eq_true, Bool.not_eq_true'] at hr hr'
  by_cases hw : ∃ j, Wr ops t j
  · obtain ⟨j, hw⟩ := hw
    by_cases hij : i = j
    · subst hij
      rw [h.no t (fun k hk => by rw [hu.uniq t k i hk hw]; exact hr.1), h'.no t (fun k hk => by rw [hu.uniq t k i hk hw]; exact hr'.1)]
    rcases hu.dep t i j o hw ho hij ht with he | he
    · simp only [edge, ho] at he
      rw [h.yes t j hw (subB_spec hr.2 he), h'.yes t j hw (subB_spec hr'.2 he)]
    · have hjd : hasB d j = false := by
        cases hb : hasB d j with
        | false => rfl
        | true => have := hc j i hb he; rw [hr.1] at this; cases this
      have hjd' : hasB d' j = false := by
        cases hb : hasB d' j with
        | false => rfl
        | true => have := hc' j i hb he; rw [hr'.1] at this; cases this
      rw [h.no t (fun k hk => by rw [hu.uniq t k j hk hw]; exact hjd), h'.no t (fun k hk => by rw [hu.uniq t k j hk hw]; exact hjd')]
  · rw [h.no t (fun j hj => absurd ⟨j, hj⟩ hw), h'.no t (fun j hj => absurd ⟨j, hj⟩ hw)]

/-- what an operation comes to, made or not -/
def YA (P : Program) (ops : Array Oper) (w : World) (o : Oper) (v : Value) (a : Act) : Prop :=
  (Region.wanted o (yielded ops a.tmps) = true → (execOp a.eval o).run P w = .ok (.value v) w) ∧ (Region.wanted o (yielded ops a.tmps) = false → v = undef)

theorem wanted_none {o : Oper} (h : o.guard = none) (f : Nat → Option Bool) : Region.wanted o f = true := by simp [Region.wanted, h]

theorem guard_on {le e : Env} {a : Act} {o : Oper} {j s : Nat} {want : Bool} {en : Ent} (hl : Loc le e) (hs : Sim (le ++ e) a) (hg : o.guard = some (j, want)) (hso : slotOf ops j = some s) (hle : look le s = some en) :
    (Region.wanted o (yielded ops a.tmps) = true ↔ On a ((s, want) :: en.path)) ∧ (∀ y ∈ (s, want) :: en.path, ∃ z ∈ le, z.slot = y.1) := by
  have hen := hs s en (look_append_left hle)
  have hsl := look_slot hle
  refine ⟨?_, fun y hy => ?_⟩
  · rw [wanted_guard hg hso]
    constructor
    · intro hv
      have hop : On a en.path := Classical.byContradiction fun hno => by
        have := hen.no hno; rw [hsl, hv] at this; simp [undef] at this
      intro y hy
      rcases List.mem_cons.1 hy with rfl | hy
      · exact hv
      · exact hop y hy
    · intro ho; exact ho (s, want) List.mem_cons_self
  · rcases List.mem_cons.1 hy with rfl | hy
    · exact ⟨en, look_mem hle, hsl⟩
    · exact hl.wk en (look_mem hle) y hy

structure RdOut (P : Program) (ops : Array Oper) (o : Oper) (i : Nat) (e : Env) (w : World) (a : Act) (pend : List Pd) (K : Env → List Pd → Prop) (v : Value) (le' : Env) (pend' : List Pd) : Prop where
  now : YA P ops w o v a
  sim : Sim (le' ++ e) (a.put o.dst v)
  loc : Loc le' e
  again : (pend' = pend ∧ ∀ w', YA P ops w' o v a) ∨ (∃ pd, pend' = pd :: pend ∧ pd.i = i ∧ ∀ w', chkP P w' pd → YA P ops w' o v a)
  k : K le' pend'

theorem rdStep_spec {o : Oper} {i : Nat} {le e : Env} {w : World} {a : Act} {pend : List Pd} {K : Env → List Pd → Prop} (hl : Loc le e) (hs : Sim (le ++ e) a) (hn : a.tmps.size = n)
    (h : rdStep P n ops o i le e w pend K) : (∀ t, o.dst = some t → t < n) ∧ ∃ v le' pend', RdOut P ops o i e w a pend K v le' pend' := by
  unfold rdStep at h
  cases hd : dstOk n le o.dst with
  | false => rw [hd] at h; exact h.elim
  | true =>
    rw [hd] at h
    simp only [] at h
    refine ⟨fun t ht => by rw [ht] at hd; exact (dstOk_spec hd).1, ?_⟩
    cases hg : o.guard with
    | none =>
      rw [hg] at h
      simp only [] at h
      have hw := wanted_none hg (yielded ops a.tmps)
      have put : ∀ v, Sim (put1 o.dst [] v le ++ e) (a.put o.dst v) ∧ Loc (put1 o.dst [] v le) e := fun v =>
        hs.put1 hl hn hd (fun y hy => by cases hy) (fun _ => rfl) (fun hno => absurd (On.nil a) hno)
      cases hv : evPure P o.op (le ++ e) [] with
      | some v =>
        rw [hv] at h
        have hr : ∀ w', YA P ops w' o v a := fun w' => ⟨fun _ => evPure_spec hs (On.nil a) hv w', fun hf => (by rw [hw] at hf; cases hf)⟩
        exact ⟨v, _, _, hr w, (put v).1, (put v).2, .inl ⟨rfl, hr⟩, h⟩
      | none =>
        rw [hv] at h
        simp only [] at h
        cases hld : ldB' o.op with
        | true =>
          rw [hld] at h
          obtain ⟨v, h1, h2⟩ := evLoad hs (On.nil a) hld h
          refine ⟨v, _, _, ⟨fun _ => h1, fun hf => (by rw [hw] at hf; cases hf)⟩, (put v).1, (put v).2, .inr ⟨_, rfl, rfl, fun w' hc => ?_⟩, h2⟩
          obtain ⟨v', g1, g2⟩ := evLoad (K := fun v' _ => v' = v) hs (On.nil a) hld hc
          subst g2
          exact ⟨fun _ => g1, fun hf => (by rw [hw] at hf; cases hf)⟩
        | false =>
          rw [hld] at h
          simp only [] at h
          cases hst : stB o.op with
          | false => rw [hst] at h; exact h.elim
          | true =>
            rw [hst] at h
            obtain ⟨v, h1, h2⟩ := evStill hs (On.nil a) hst h
            have hr : ∀ w', YA P ops w' o v a := fun w' => ⟨fun _ => h1 w', fun hf => (by rw [hw] at hf; cases hf)⟩
            exact ⟨v, _, _, hr w, (put v).1, (put v).2, .inl ⟨rfl, hr⟩, h2⟩
    | some jw =>
      obtain ⟨j, want⟩ := jw
      rw [hg] at h
      simp only [] at h
      cases hso : slotOf ops j with
      | none => rw [hso] at h; exact h.elim
      | some s =>
        rw [hso] at h
        simp only [] at h
        cases hle : look le s with
        | none => rw [hle] at h; exact h.elim
        | some en =>
          rw [hle] at h
          simp only [] at h
          obtain ⟨hon, hp⟩ := guard_on (ops := ops) hl hs hg hso hle
          have putY : ∀ v, Region.wanted o (yielded ops a.tmps) = true → Sim (put1 o.dst ((s, want) :: en.path) v le ++ e) (a.put o.dst v) ∧ Loc (put1 o.dst ((s, want) :: en.path) v le) e := fun v hw =>
            hs.put1 hl hn hd hp (fun _ => rfl) (fun hno => absurd (hon.1 hw) hno)
          have putN : ∀ v, Region.wanted o (yielded ops a.tmps) = false → Sim (put1 o.dst ((s, want) :: en.path) v le ++ e) (a.put o.dst undef) ∧ Loc (put1 o.dst ((s, want) :: en.path) v le) e := fun v hw =>
            hs.put1 hl hn hd hp (fun hy => absurd (hon.2 hy) (by rw [hw]; simp)) (fun _ => rfl)
          have noY : ∀ w', Region.wanted o (yielded ops a.tmps) = false → YA P ops w' o undef a := fun w' hw => ⟨fun hy => (by rw [hw] at hy; cases hy), fun _ => rfl⟩
          cases hv : evPure P o.op (le ++ e) ((s, want) :: en.path) with
          | some v =>
            rw [hv] at h
            cases hw : Region.wanted o (yielded ops a.tmps) with
            | true =>
              have hr : ∀ w', YA P ops w' o v a := fun w' => ⟨fun _ => evPure_spec hs (hon.1 hw) hv w', fun hf => (by rw [hw] at hf; cases hf)⟩
              exact ⟨v, _, _, hr w, (putY v hw).1, (putY v hw).2, .inl ⟨rfl, hr⟩, h⟩
            | false => exact ⟨undef, _, _, noY w hw, (putN v hw).1, (putN v hw).2, .inl ⟨rfl, fun w' => noY w' hw⟩, h⟩
          | none =>
            rw [hv] at h
            simp only [] at h
            split at h
            · rename_i c kd hc hkd
              have hcp := pathB_spec hs hc
              cases hld : ldB' o.op with
              | true =>
                rw [hld] at h
                simp only [] at h
                cases hw : Region.wanted o (yielded ops a.tmps) with
                | true =>
                  have hct := hcp.2 (hon.1 hw)
                  obtain ⟨v, h1, h2⟩ := evLoad hs (hon.1 hw) hld (h.1 hct)
                  obtain ⟨x, rfl, h3⟩ := unk_spec h2
                  refine ⟨_, _, _, ⟨fun _ => h1, fun hf => (by rw [hw] at hf; cases hf)⟩, (putY _ hw).1, (putY _ hw).2, .inr ⟨_, rfl, rfl, fun w' hk => ?_⟩, h3⟩
                  obtain ⟨v', g1, g2⟩ := evLoad (K := fun v' _ => v' = kval kd x) hs (hon.1 hw) hld (hk hct)
                  subst g2
                  exact ⟨fun _ => g1, fun hf => (by rw [hw] at hf; cases hf)⟩
                | false =>
                  have hcf : c = false := by
                    cases c with
                    | false => rfl
                    | true => have := hon.2 (hcp.1 rfl); rw [hw] at this; cases this
                  exact ⟨undef, _, _, noY w hw, (putN _ hw).1, (putN _ hw).2, .inr ⟨_, rfl, rfl, fun w' _ => noY w' hw⟩, h.2 hcf⟩
              | false =>
                rw [hld] at h
                simp only [] at h
                cases hst : stB o.op with
                | false => rw [hst] at h; exact h.elim
                | true =>
                  rw [hst] at h
                  simp only [] at h
                  cases hw : Region.wanted o (yielded ops a.tmps) with
                  | true =>
                    have hct := hcp.2 (hon.1 hw)
                    obtain ⟨v, h1, h2⟩ := evStill hs (hon.1 hw) hst (h.1 hct)
                    obtain ⟨x, rfl, h3⟩ := unk_spec h2
                    have hr : ∀ w', YA P ops w' o (kval kd x) a := fun w' => ⟨fun _ => h1 w', fun hf => (by rw [hw] at hf; cases hf)⟩
                    exact ⟨_, _, _, hr w, (putY _ hw).1, (putY _ hw).2, .inl ⟨rfl, hr⟩, h3⟩
                  | false =>
                    have hcf : c = false := by
                      cases c with
                      | false => rfl
                      | true => have := hon.2 (hcp.1 rfl); rw [hw] at this; cases this
                    exact ⟨undef, _, _, noY w hw, (putN _ hw).1, (putN _ hw).2, .inl ⟨rfl, fun w' => noY w' hw⟩, h.2 hcf⟩
            · exact h.elim

/-- what an operation that may change something comes to -/
theorem efStep_spec {o : Oper} {le e : Env} {w : World} {a : Act} {K : Env → World → Prop} (hl : Loc le e) (hs : Sim (le ++ e) a) (hn : a.tmps.size = n)
    (h : efStep P n ops o le e w K) : (∀ t, o.dst = some t → t < n) ∧
      (Region.wanted o (yielded ops a.tmps) = true → Upn P (fun v w' => ∃ le', Sim (le' ++ e) (a.put o.dst v) ∧ Loc le' e ∧ K le' w') ((execOp a.eval o).run P w)) ∧
      (Region.wanted o (yielded ops a.tmps) = false → ∃ le', Sim (le' ++ e) (a.put o.dst undef) ∧ Loc le' e ∧ K le' w) := by
  unfold efStep at h
  cases hd : dstOk n le o.dst with
  | false => rw [hd] at h; exact h.elim
  | true =>
    rw [hd] at h
    simp only [] at h
    refine ⟨fun t ht => by rw [ht] at hd; exact (dstOk_spec hd).1, ?_⟩
    cases hg : o.guard with
    | none =>
      rw [hg] at h
      simp only [] at h
      have hw := wanted_none hg (yielded ops a.tmps)
      refine ⟨fun _ => (evPrim_run hs (On.nil a) h).mono fun v w' hK => ?_, fun hf => (by rw [hw] at hf; cases hf)⟩
      have := hs.put1 hl hn hd (p := []) (v := v) (v' := v) (fun y hy => by cases hy) (fun _ => rfl) (fun hno => absurd (On.nil a) hno)
      exact ⟨_, this.1, this.2, hK⟩
    | some jw =>
      obtain ⟨j, want⟩ := jw
      rw [hg] at h
      simp only [] at h
      cases hso : slotOf ops j with
      | none => rw [hso] at h; exact h.elim
      | some s =>
        rw [hso] at h
        simp only [] at h
        cases hle : look le s with
        | none => rw [hle] at h; exact h.elim
        | some en =>
          rw [hle] at h
          simp only [] at h
          obtain ⟨hon, hp⟩ := guard_on (ops := ops) hl hs hg hso hle
          split at h
          · rename_i c kd hc hkd
            have hcp := pathB_spec hs hc
            refine ⟨fun hw => ?_, fun hw => ?_⟩
            · refine (evPrim_run hs (hon.1 hw) (h.1 (hcp.2 (hon.1 hw)))).mono fun v w' hK => ?_
              obtain ⟨x, rfl, hK'⟩ := unk_spec hK
              have := hs.put1 hl hn hd (v := kval kd x) (v' := kval kd x) hp (fun _ => rfl) (fun hno => absurd (hon.1 hw) hno)
              exact ⟨_, this.1, this.2, hK'⟩
            · have hcf : c = false := by
                cases c with
                | false => rfl
                | true => have := hon.2 (hcp.1 rfl); rw [hw] at this; cases this
              have := hs.put1 hl hn hd (v := kval kd (dfl kd)) (v' := undef) hp (fun hy => absurd (hon.2 hy) (by rw [hw]; simp)) (fun _ => rfl)
              exact ⟨_, this.1, this.2, h.2 hcf⟩
          · exact h.elim
end
end Go.Proofs.Ytjpblaenebodlaa.Vc
