/- The verification-condition generator, second part: operations: what each comes to, and the proof. -/
import Derived.Test.YtjpblaenebodlaaVc
set_option linter.unusedVariables false
set_option linter.unusedSimpArgs false
namespace Go.Proofs.Ytjpblaenebodlaa.Vc
open Go

/-! ### 3. What is known of a frame -/
abbrev Path := List (Nat × Bool)
structure Ent where
  slot : Nat
  path : Path
  val : Value
abbrev Env := List Ent

def look : Env → Nat → Option Ent
  | [], _ => none
  | x :: r, t => bif Nat.beq x.slot t then some x else look r t

def eqP : Path → Path → Bool
  | [], [] => true
  | (s, b) :: r, (s', b') :: r' => Nat.beq s s' && (b == b') && eqP r r'
  | _, _ => false
theorem eqP_spec : ∀ {p q : Path}, eqP p q = true → p = q
  | [], [], _ => rfl
  | (s, b) :: r, (s', b') :: r', h => by
    simp only [eqP, Bool.and_eq_true, beq_iff_eq] at h
    rw [Nat.eq_of_beq_eq_true h.1.1, h.1.2, eqP_spec h.2]
  | [], _ :: _, h => by simp [eqP] at h
  | _ :: _, [], h => by simp [eqP] at h
/-- the one path ends the other -/
def sufB (q : Path) : Path → Bool
  | [] => eqP q []
  | x :: p => eqP q (x :: p) || sufB q p
theorem sufB_spec {q : Path} : ∀ {p : Path}, sufB q p = true → ∀ x ∈ q, x ∈ p
  | [], h, x, hx => by rw [eqP_spec h] at hx; exact hx
  | y :: p, h, x, hx => by
    simp only [sufB, Bool.or_eq_true] at h
    rcases h with h | h
    · rw [eqP_spec h] at hx; exact hx
    · exact List.mem_cons_of_mem _ (sufB_spec h x hx)

def On (a : Act) (p : Path) : Prop := ∀ x ∈ p, a.tmps[x.1]? = some (.bool x.2)
theorem On.nil (a : Act) : On a [] := fun x hx => by cases hx
theorem On.suf {a : Act} {p q : Path} (h : On a p) (hq : sufB q p = true) : On a q := fun x hx => h x (sufB_spec hq x hx)
structure EntOk (a : Act) (en : Ent) : Prop where
  yes : On a en.path → a.tmps[en.slot]? = some en.val
  no : ¬ On a en.path → a.tmps[en.slot]? = some undef
def Sim (E : Env) (a : Act) : Prop := ∀ t en, look E t = some en → EntOk a en

theorem look_slot : ∀ {E : Env} {t : Nat} {en : Ent}, look E t = some en → en.slot = t
  | x :: r, t, en, h => by
    simp only [look] at h
    cases hb : Nat.beq x.slot t with
    | true => rw [hb] at h; simp at h; subst h; exact Nat.eq_of_beq_eq_true hb
    | false => rw [hb] at h; exact look_slot h
theorem look_mem : ∀ {E : Env} {t : Nat} {en : Ent}, look E t = some en → en ∈ E
  | x :: r, t, en, h => by
    simp only [look] at h
    cases hb : Nat.beq x.slot t with
    | true => rw [hb] at h; simp at h; subst h; exact List.mem_cons_self
    | false => rw [hb] at h; exact List.mem_cons_of_mem _ (look_mem h)

def opd (E : Env) (p : Path) : Operand → Option Value
  | .tmp t => match look E t with
    | some en => bif sufB en.path p then some en.val else none
    | none => none
  | .const v => some v
  | .global g => some (.pointer (some ⟨g, 0, none⟩))
  | .func f => some (.func (.func f) #[] #[])

theorem opd_spec {E : Env} {p : Path} {x : Operand} {v : Value} {a : Act} (hs : Sim E a) (hp : On a p) (h : opd E p x = some v) : a.eval x = v := by
  cases x with
  | tmp t =>
    simp only [opd] at h
    split at h
    · rename_i en hl
      cases hb : sufB en.path p with
      | false => rw [hb] at h; simp at h
      | true =>
        rw [hb] at h; simp at h; subst h
        have := (hs t en hl).yes (hp.suf hb)
        rw [look_slot hl] at this
        simp only [Act.eval, Array.getD_eq_getD_getElem?, this, Option.getD_some]
    · cases h
  | const v' => simp [opd] at h; subst h; rfl
  | global g => simp [opd] at h; subst h; rfl
  | func f => simp [opd] at h; subst h; rfl

def opds (E : Env) (p : Path) : List Operand → Option (List Value)
  | [] => some []
  | x :: xs => match opd E p x, opds E p xs with
    | some v, some vs => some (v :: vs)
    | _, _ => none
theorem opds_spec {E : Env} {p : Path} {a : Act} (hs : Sim E a) (hp : On a p) : ∀ {xs : List Operand} {vs : List Value}, opds E p xs = some vs → xs.map a.eval = vs
  | [], vs, h => by simp [opds] at h; subst h; rfl
  | x :: xs, vs, h => by
    simp only [opds] at h
    split at h
    · rename_i v vs' h1 h2
      simp at h; subst h
      rw [List.map_cons, opd_spec hs hp h1, opds_spec hs hp h2]
    · cases h

def lit (w b : Bool) : Bool := match w with | true => b | false => !b
theorem lit_spec {w b : Bool} : lit w b = true ↔ b = w := by cases w <;> cases b <;> simp [lit]
/-- is the path taken? -/
def pathB (E : Env) : Path → Option Bool
  | [] => some true
  | (s, w) :: p => match look E s with
    | some en => match en.val with
      | .bool b => bif eqP en.path p then (match p with
        | [] => some (lit w b)
        | _ => match pathB E p with | some c => some (c && lit w b) | none => none) else none
      | _ => none
    | none => none
theorem pathB_spec {E : Env} {a : Act} (hs : Sim E a) : ∀ {p : Path} {c : Bool}, pathB E p = some c → (c = true ↔ On a p)
  | [], c, h => by simp [pathB] at h; subst h; exact ⟨fun _ => On.nil a, fun _ => rfl⟩
  | (s, w) :: p, c, h => by
    simp only [pathB] at h
    split at h
    · rename_i en hl
      split at h
      · rename_i b hv
        cases hb : eqP en.path p with
        | false => rw [hb] at h; simp at h
        | true =>
          rw [hb] at h
          have hp := eqP_spec hb
          have key : On a ((s, w) :: p) ↔ (On a p ∧ b = w) := by
            constructor
            · intro hon
              have hop : On a p := fun x hx => hon x (List.mem_cons_of_mem _ hx)
              have h1 := (hs s en hl).yes (by rw [hp]; exact hop)
              rw [look_slot hl, hv, hon (s, w) List.mem_cons_self] at h1
              simp at h1
              exact ⟨hop, h1.symm⟩
            · rintro ⟨hop, rfl⟩ x hx
              rcases List.mem_cons.1 hx with rfl | hx
              · have h1 := (hs s en hl).yes (by rw [hp]; exact hop)
                rw [look_slot hl, hv] at h1
                exact h1
              · exact hop x hx
          rw [key]
          simp only [cond_true] at h
          split at h
          · simp at h; subst h
            rw [lit_spec]
            exact ⟨fun e => ⟨On.nil a, e⟩, fun e => e.2⟩
          · rename_i hne
            split at h
            · rename_i c0 hc0
              simp at h; subst h
              rw [Bool.and_eq_true, lit_spec, pathB_spec hs hc0]
            · cases h
      · cases h
    · cases h

/-! ### 4. Operations that only reckon -/
def binI (op : BinOp) (k : IntKind) (x y : Int) : Option Value :=
  match op with
  | .add => some (.int k (k.wrap (x + y)))
  | .sub => some (.int k (k.wrap (x - y)))
  | .mul => some (.int k (k.wrap (x * y)))
  | .eql => some (.bool (x == y))
  | .neq => some (.bool (x != y))
  | .lss => some (.bool (decide (x < y)))
  | .leq => some (.bool (decide (x ≤ y)))
  | .gtr => some (.bool (decide (x > y)))
  | .geq => some (.bool (decide (x ≥ y)))
  | .and => some (.int k (bits .and k x y))
  | .or => some (.int k (bits .or k x y))
  | .xor => some (.int k (bits .xor k x y))
  | .andNot => some (.int k (bits .andNot k x y))
  | _ => none
theorem binI_spec {P : Program} {op : BinOp} {k : IntKind} {x y : Int} {v : Value} (t : TypeId) (h : binI op k x y = some v) (w : World) :
    (binOp op t (.int k x) (.int k y)).run P w = .ok v w := by
  cases op <;> simp only [binI, Option.some.injEq, reduceCtorEq] at h <;> subst h <;> first | (simp [binOp, Op.intArith, Op.intCmp]; done) | (simp only [binOp_and, binOp_or, binOp_xor, binOp_andNot, intBits_and, intBits_or, intBits_xor, intBits_andNot]; rfl)

/-- by a number that is written out -/
def binC (op : BinOp) (k : IntKind) (x : Int) (n : Int) : Option Value :=
  match op with
  | .quo => if n = 0 then none else some (.int k (k.wrap (x.tdiv n)))
  | .rem => if n = 0 then none else some (.int k (x.tmod n))
  | .shl => if n < 0 then none else some (.int k (k.wrap (x * 2 ^ (min n.toNat k.bits))))
  | .shr => if n < 0 then none else some (.int k (x.fdiv (2 ^ (min n.toNat k.bits))))
  | _ => none
theorem binC_spec {P : Program} {op : BinOp} {k k' : IntKind} {x n : Int} {v : Value} (t : TypeId) (h : binC op k x n = some v) (hk : op = .shl ∨ op = .shr ∨ k' = k) (w : World) :
    (binOp op t (.int k x) (.int k' n)).run P w = .ok v w := by
  cases op <;> simp only [binC, reduceCtorEq] at h <;> (split at h <;> simp at h; subst h; rename_i hn)
  · obtain rfl : k' = k := by simpa using hk
    simp [binOp, Op.intDiv, hn]
  · obtain rfl : k' = k := by simpa using hk
    simp [binOp, Op.intDiv, hn]
  · simp [binOp, Op.shift, hn]
  · simp [binOp, Op.shift, hn]

def binS (op : BinOp) (a b : ByteArray) : Option Value :=
  match op with
  | .eql => some (.bool (a.toList == b.toList))
  | .neq => some (.bool !(a.toList == b.toList))
  | .lss => some (.bool (Op.bytesLess a.toList b.toList))
  | .gtr => some (.bool !(Op.bytesLess a.toList b.toList || a.toList == b.toList))
  | _ => none

def isIntT (P : Program) (t : TypeId) : Option IntKind := match P.underlying t with | some (.int k) => some k | _ => none
def isBoolT (P : Program) (t : TypeId) : Bool := match P.underlying t with | some .bool => true | _ => false
def isPtrT (P : Program) (t : TypeId) : Bool := match P.underlying t with | some (.pointer _) => true | _ => false
def isSlcT (P : Program) (t : TypeId) : Bool := match P.underlying t with | some (.slice _) => true | _ => false
def isStrT (P : Program) (t : TypeId) : Bool := match P.underlying t with | some .string => true | _ => false
def hasT (P : Program) (t : TypeId) : Bool := match P.underlying t with | some _ => true | none => false

def litI (x : Operand) : Option Int := match x with | .const (.int _ n) => some n | _ => none
def litNilP (x : Operand) : Bool := match x with | .const (.pointer none) => true | _ => false
def litNilS (x : Operand) : Bool := match x with | .const (.slice none _ _) => true | _ => false

/-- a comparison or a reckoning of two values -/
def isNilFO (y : Operand) : Bool := match y with | .const .nilFunc => true | _ => false
def evBin (P : Program) (op : BinOp) (t : TypeId) (y : Operand) (vx vy : Value) : Option Value :=
  match isNilFO y with
  | true => none
  | false => match vx, vy with
  | .int k a, .int k' b => match litI y with
    | some n => match binC op k a n with
      | some v => if k' = k then some v else none
      | none => if k' = k then binI op k a b else none
    | none => if k' = k then binI op k a b else none
  | .bool a, .bool b => bif isBoolT P t then (match op with | .eql => some (.bool (a == b)) | .neq => some (.bool (!(a == b))) | _ => none) else none
  | .string a, .string b => binS op a b
  | .pointer p, _ => bif isPtrT P t && litNilP y then (match op with | .eql => some (.bool p.isNone) | .neq => some (.bool (!p.isNone)) | _ => none) else none
  | .slice a n c, _ => bif isSlcT P t && litNilS y then (match op with | .eql => some (.bool a.isNone) | .neq => some (.bool (!a.isNone)) | _ => none) else none
  | .float k a, .float k' b => if k' = k then (match op with
    | .eql => some (.bool (k.format.order a b == some .eq))
    | .neq => some (.bool (k.format.order a b != some .eq))
    | .lss => some (.bool (k.format.order a b == some .lt))
    | .leq => some (.bool (k.format.order a b == some .lt || k.format.order a b == some .eq))
    | .gtr => some (.bool (k.format.order a b == some .gt))
    | .geq => some (.bool (k.format.order a b == some .gt || k.format.order a b == some .eq))
    | _ => none) else none
  | _, _ => none

theorem litI_spec {y : Operand} {n : Int} (h : litI y = some n) : ∃ k, y = .const (.int k n) := by
  unfold litI at h; split at h
  · simp at h; subst h; exact ⟨_, rfl⟩
  · cases h
theorem litNilP_spec {y : Operand} (h : litNilP y = true) : y = .const (.pointer none) := by
  unfold litNilP at h; split at h
  · rfl
  · cases h
theorem litNilS_spec {y : Operand} (h : litNilS y = true) : ∃ n c, y = .const (.slice none n c) := by
  unfold litNilS at h; split at h
  · exact ⟨_, _, rfl⟩
  · cases h
theorem isBoolT_spec {P : Program} {t : TypeId} (h : isBoolT P t = true) : P.underlying t = some .bool := by
  unfold isBoolT at h; split at h
  · assumption
  · cases h
theorem isPtrT_spec {P : Program} {t : TypeId} (h : isPtrT P t = true) : P.underlying t = some (.pointer (P.pointee t)) := by
  unfold isPtrT at h; split at h
  · rename_i e he; simp [Program.pointee, he]
  · cases h
theorem isSlcT_spec {P : Program} {t : TypeId} (h : isSlcT P t = true) : P.underlying t = some (.slice (P.elem t)) := by
  unfold isSlcT at h; split at h
  · rename_i e he; simp [Program.elem, he]
  · cases h
theorem isStrT_spec {P : Program} {t : TypeId} (h : isStrT P t = true) : P.underlying t = some .string := by
  unfold isStrT at h; split at h
  · assumption
  · cases h
theorem isIntT_spec {P : Program} {t : TypeId} {k : IntKind} (h : isIntT P t = some k) : P.underlying t = some (.int k) := by
  unfold isIntT at h; split at h
  · rename_i e he; simp at h; subst h; exact he
  · cases h

theorem run_eql_slice_nil' {P : Program} {t e : TypeId} (h : P.underlying t = some (.slice e)) (a : Option Addr) (n c n' c' : Nat) (w : World) :
    (Op.equal t (.slice a n c) (.slice none n' c')).run P w = .ok a.isNone w := by
  have key : ∀ d, (Op.equalIn (d + 1) t (.slice a n c) (.slice none n' c')).run P w = .ok a.isNone w := by
    intro d
    cases a <;> simp [Op.equalIn, run_underlying h]
  exact key 9999

theorem evBin_spec {P : Program} {op : BinOp} {t yt : TypeId} {x y : Operand} {vx vy v : Value} {a : Act} (h : evBin P op t y vx vy = some v) (hy : a.eval y = vy) (w : World) :
    (do eqGuard op t x y vx vy; binOp op t vx vy : Sem Value).run P w = .ok v w := by
  unfold evBin at h
  cases hyn : isNilFO y with
  | true => rw [hyn] at h; cases h
  | false =>
  rw [hyn] at h
  simp only [] at h
  split at h
  · rename_i k n k' b
    simp only [eqGuard_at_int, Sem.run_bind, Sem.run_pure, Result.andThen_ok]
    split at h
    · rename_i m hm
      obtain ⟨kk, rfl⟩ := litI_spec hm
      simp only [Act.eval] at hy
      obtain ⟨rfl, rfl⟩ : kk = k' ∧ m = b := by simpa using hy
      split at h
      · rename_i u hu
        split at h
        · rename_i hk; subst hk; simp at h; subst h
          exact binC_spec t hu (.inr (.inr rfl)) w
        · cases h
      · split at h
        · rename_i hk; subst hk; exact binI_spec t h w
        · cases h
    · split at h
      · rename_i hk; subst hk; exact binI_spec t h w
      · cases h
  · rename_i p q
    cases hb : isBoolT P t with
    | false => rw [hb] at h; simp at h
    | true =>
      rw [hb] at h
      have ht := isBoolT_spec hb
      simp only [eqGuard_at_bool, Sem.run_bind, Sem.run_pure, Result.andThen_ok]
      simp only [cond_true] at h
      split at h
      · simp at h; subst h; exact run_eql_bool w t p q ht
      · simp at h; subst h; exact run_neq_bool w t p q ht
      · cases h
  · rename_i p q
    simp only [eqGuard_at_string, Sem.run_bind, Sem.run_pure, Result.andThen_ok]
    unfold binS at h
    split at h
    · simp only [Option.some.injEq] at h; subst h; simp only [binOp, Op.stringOp]; rfl
    · simp only [Option.some.injEq] at h; subst h; simp only [binOp, Op.stringOp]; rfl
    · simp only [Option.some.injEq] at h; subst h; simp only [binOp, Op.stringOp]; rfl
    · simp only [Option.some.injEq] at h; subst h; simp only [binOp, Op.stringOp]; rfl
    · cases h
  · rename_i _ p
    cases hb : isPtrT P t && litNilP y with
    | false => rw [hb] at h; simp at h
    | true =>
      rw [hb] at h
      simp only [Bool.and_eq_true] at hb
      have ht := isPtrT_spec hb.1
      rw [litNilP_spec hb.2] at hy
      simp only [Act.eval] at hy
      subst hy
      simp only [eqGuard_at_pointer, Sem.run_bind, Sem.run_pure, Result.andThen_ok]
      simp only [cond_true] at h
      split at h
      · simp at h; subst h; exact run_eql_pointer_nil w t p ht
      · simp at h; subst h; rw [run_neq_pointer_nil w t p ht]; simp
      · cases h
  · rename_i p n c _
    cases hb : isSlcT P t && litNilS y with
    | false => rw [hb] at h; simp at h
    | true =>
      rw [hb] at h
      simp only [Bool.and_eq_true] at hb
      have ht := isSlcT_spec hb.1
      obtain ⟨n', c', hy'⟩ := litNilS_spec hb.2
      rw [hy'] at hy
      simp only [Act.eval] at hy
      subst hy
      simp only [eqGuard_at_slice, Sem.run_bind, Sem.run_pure, Result.andThen_ok]
      simp only [cond_true] at h
      split at h
      · simp at h; subst h; simp only [binOp]; simp [run_eql_slice_nil' ht]
      · simp at h; subst h; simp only [binOp]; simp [run_eql_slice_nil' ht]
      · cases h
  · rename_i k p k' q
    split at h
    · rename_i hk; subst hk
      simp only [eqGuard_at_float, Sem.run_bind, Sem.run_pure, Result.andThen_ok]
      split at h <;> first | (simp only [Option.some.injEq] at h; subst h; simp [binOp, Op.floatCmp]; done) | cases h
    · cases h
  · cases h

/-! parts of aggregates -/
def fieldsOf (P : Program) (t : TypeId) : Option (Array Field) := match P.underlying t with | some (.struct fs) => some fs | _ => none
theorem fieldsOf_spec {P : Program} {t : TypeId} {fs : Array Field} (h : fieldsOf P t = some fs) : P.underlying t = some (.struct fs) := by
  unfold fieldsOf at h; split at h
  · simp at h; subst h; assumption
  · cases h
def sizeOfT (P : Program) (t : TypeId) : Option Nat := match P.info? t with | some i => some i.size | none => none
theorem sizeOfT_spec {P : Program} {t : TypeId} {n : Nat} (h : sizeOfT P t = some n) (w : World) : (sizeOf t).run P w = .ok n w := by
  unfold sizeOfT at h; split at h
  · rename_i i hi; simp at h; subst h; simp [sizeOf, typeInfo, hi]
  · cases h
/-- some cells of a list -/
def cut (cs : List Value) (off n : Nat) : List Value := (cs.drop off).take n
/-- the part of an aggregate -/
def partT (P : Program) (t : TypeId) (cs : Array Value) (off : Nat) : Option Value :=
  match isAggB P t, sizeOfT P t with
  | some true, some n => some (.agg (cut cs.toList off n).toArray)
  | some false, _ => cs.toList[off]?
  | _, _ => none
theorem partT_spec {P : Program} {t : TypeId} {cs : Array Value} {off : Nat} {v : Value} (h : partT P t cs off = some v) (w : World) : (part t cs off).run P w = .ok v w := by
  unfold partT at h
  split at h
  · rename_i n hb hn
    simp at h; subst h
    simp only [part, Sem.run_bind, run_isAgg hb, Result.andThen_ok, if_true, sizeOfT_spec hn]
    simp only [Sem.run_pure]
    congr 2
    apply Array.ext'
    simp [cut, List.extract_eq_take_drop]
  · rename_i hb
    have h' : cs[off]? = some v := by simpa using h
    simp [part, run_isAgg hb, h']
  · cases h

def minL (op : Builtin) : Value → List Value → Option Value
  | v, [] => some v
  | .int k x, .int _ y :: r => match op with
    | .max => minL op (.int k (if y > x then y else x)) r
    | .min => minL op (.int k (if y < x then y else x)) r
    | _ => none
  | _, _ => none
theorem minL_min {P : Program} : ∀ {vs : List Value} {v u : Value} (w : World), minL .min v vs = some u → (vs.foldlM Builtin.min2 v).run P w = .ok u w
  | [], v, u, w, h => by simp [minL] at h; subst h; rfl
  | y :: r, v, u, w, h => by
    unfold minL at h
    split at h
    · simp_all
    · rename_i k x k' y' r' heq
      simp at heq; obtain ⟨rfl, rfl⟩ := heq
      simp [Builtin.min2, minL_min w h]
    · cases h
theorem minL_max {P : Program} : ∀ {vs : List Value} {v u : Value} (w : World), minL .max v vs = some u → (vs.foldlM Builtin.max2 v).run P w = .ok u w
  | [], v, u, w, h => by simp [minL] at h; subst h; rfl
  | y :: r, v, u, w, h => by
    unfold minL at h
    split at h
    · simp_all
    · rename_i k x k' y' r' heq
      simp at heq; obtain ⟨rfl, rfl⟩ := heq
      simp [Builtin.max2, minL_max w h]
    · cases h

/-- builtins that only reckon -/
def evBuiltin (P : Program) (b : Builtin) (ts : List TypeId) (vs : List Value) : Option Value :=
  match b with
  | .len => match ts, vs with
    | [t], [.slice _ n _] => bif isSlcT P t then some (.int .i64 n) else none
    | [t], [.string s] => bif isStrT P t then some (.int .i64 s.size) else none
    | _, _ => none
  | .cap => match ts, vs with
    | [t], [.slice _ _ c] => bif isSlcT P t then some (.int .i64 c) else none
    | _, _ => none
  | .min => match vs with | v :: r => minL .min v r | [] => none
  | .max => match vs with | v :: r => minL .max v r | [] => none
  | _ => none
theorem evBuiltin_spec {P : Program} {b : Builtin} {ts : Array TypeId} {vs : List Value} {v : Value} (h : evBuiltin P b ts.toList vs = some v) (ty : TypeId) (cs : Array Bool) (w : World) :
    (builtin b ts ty cs vs.toArray).run P w = .ok (.value v) w := by
  unfold evBuiltin at h
  split at h
  · split at h
    · rename_i t p n c hts
      cases hb : isSlcT P t with
      | false => rw [hb] at h; simp at h
      | true =>
        rw [hb] at h; simp at h; subst h
        obtain rfl : ts = #[t] := by apply Array.ext'; simpa using hts
        have := isSlcT_spec hb
        simp [builtin, Builtin.len_, run_underlying this, goInt]
    · rename_i t s hts
      cases hb : isStrT P t with
      | false => rw [hb] at h; simp at h
      | true =>
        rw [hb] at h; simp at h; subst h
        obtain rfl : ts = #[t] := by apply Array.ext'; simpa using hts
        have := isStrT_spec hb
        simp [builtin, Builtin.len_, run_underlying this, goInt]
    · cases h
  · split at h
    · rename_i t p n c hts
      cases hb : isSlcT P t with
      | false => rw [hb] at h; simp at h
      | true =>
        rw [hb] at h; simp at h; subst h
        obtain rfl : ts = #[t] := by apply Array.ext'; simpa using hts
        have := isSlcT_spec hb
        simp [builtin, Builtin.cap_, run_underlying this, goInt]
    · cases h
  · split at h
    · simp [builtin, Builtin.min_, minL_min w h]
    · cases h
  · split at h
    · simp [builtin, Builtin.max_, minL_max w h]
    · cases h
  · cases h
end Go.Proofs.Ytjpblaenebodlaa.Vc
