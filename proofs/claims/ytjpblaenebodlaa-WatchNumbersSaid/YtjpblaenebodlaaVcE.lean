/- The verification-condition generator, fifth part: operations that read, write, ask or call. -/
import Derived.Test.YtjpblaenebodlaaVcD
set_option linter.unusedVariables false
set_option linter.unusedSimpArgs false
namespace Go.Proofs.Ytjpblaenebodlaa.Vc
open Go

/-! ### 6. Kinds of results -/
def kdOf (P : Program) (t : TypeId) : Option Kd :=
  match isAggB P t, leaves P t with
  | some false, some [l] => some (.one l)
  | some true, some ls => some (.agg ls)
  | _, _ => none
inductive RK where
  | one (k : Kd)
  | tup (ks : List Kd)
def kdsOf (P : Program) : List TypeId → Option (List Kd)
  | [] => some []
  | t :: ts => match kdOf P t, kdsOf P ts with | some k, some ks => some (k :: ks) | _, _ => none
def rkOf (P : Program) (t : TypeId) : Option RK :=
  match P.underlying t with
  | some (.tuple ts) => match kdsOf P ts.toList with | some ks => some (.tup ks) | none => none
  | some _ => match kdOf P t with | some k => some (.one k) | none => none
  | none => none

def exL : Leaf → (Value → Prop) → Prop
  | .int k, f => ∃ x : Int, f (.int k x)
  | .bool, f => ∃ x : Bool, f (.bool x)
  | .flt k, f => ∃ x : Nat, f (.float k x)
  | .str, f => ∃ x : ByteArray, f (.string x)
  | .ptr, f => ∃ x : Option Addr, f (.pointer x)
  | .slc, f => ∃ (x : Option Addr) (n c : Nat), f (.slice x n c)
  | .mp, f => ∃ x : Option Nat, f (.map x)
  | .any, f => ∃ x : Value, f x
theorem exL_spec {l : Leaf} {f : Value → Prop} (h : exL l f) : ∃ v, f v := by
  cases l
  case slc => obtain ⟨x, n, c, h⟩ := h; exact ⟨_, h⟩
  all_goals (obtain ⟨x, h⟩ := h; exact ⟨_, h⟩)
def exLs : List Leaf → (List Value → Prop) → Prop
  | [], f => f []
  | l :: ls, f => exL l fun v => exLs ls fun vs => f (v :: vs)
theorem exLs_spec : ∀ {ls : List Leaf} {f : List Value → Prop}, exLs ls f → ∃ v, f v
  | [], f, h => ⟨[], h⟩
  | l :: ls, f, h => by
    obtain ⟨v, h⟩ := exL_spec h
    obtain ⟨vs, h⟩ := exLs_spec h
    exact ⟨_, h⟩
def exK : Kd → (Value → Prop) → Prop
  | .one l, f => exL l f
  | .agg ls, f => exLs ls fun vs => f (.agg vs.toArray)
  | .unit, f => f (.tuple #[])
  | .adr, f => ∃ a : Addr, f (.pointer (some a))
theorem exK_spec {k : Kd} {f : Value → Prop} (h : exK k f) : ∃ v, f v := by
  cases k with
  | one l => exact exL_spec h
  | agg ls => obtain ⟨vs, h⟩ := exLs_spec h; exact ⟨_, h⟩
  | unit => exact ⟨_, h⟩
  | adr => obtain ⟨a, h⟩ := h; exact ⟨_, h⟩
def exKs : List Kd → (List Value → Prop) → Prop
  | [], f => f []
  | k :: ks, f => exK k fun v => exKs ks fun vs => f (v :: vs)
theorem exKs_spec : ∀ {ks : List Kd} {f : List Value → Prop}, exKs ks f → ∃ v, f v
  | [], f, h => ⟨[], h⟩
  | k :: ks, f, h => by
    obtain ⟨v, h⟩ := exK_spec h
    obtain ⟨vs, h⟩ := exKs_spec h
    exact ⟨_, h⟩
def exR : RK → (Value → Prop) → Prop
  | .one k, f => exK k f
  | .tup ks, f => exKs ks fun vs => f (.tuple vs.toArray)
theorem exR_spec {r : RK} {f : Value → Prop} (h : exR r f) : ∃ v, f v := by
  cases r with
  | one k => exact exK_spec h
  | tup ks => obtain ⟨vs, h⟩ := exKs_spec h; exact ⟨_, h⟩

/-! ### 7. Calls -/
def fnOk (P : Program) (k : FuncId) : Bool :=
  match P.funcs[k]? with
  | some fn => !(fn.name == "runtime.NumGoroutine") && fn.body.isSome
  | none => false
/-- a call of a function that has a body -/
def cl (P : Program) (k : FuncId) (args : List Value) (w : World) (R : Ending → World → Prop) : Prop := fnOk P k = true ∧ Calls P k args.toArray w R
/-- a call of a function value -/
def clF (P : Program) (fv : Value) (args : List Value) (w : World) (R : Ending → World → Prop) : Prop :=
  ∃ k first cap, fv = .func (.func k) first cap ∧ cl P k (first.toList ++ args ++ cap.toList) w R

theorem run_callFunc_enter {P : Program} {k : FuncId} (h : fnOk P k = true) (args : Array Value) (w : World) : (callFunc k args).run P w = .ok (.enter k args) w := by
  unfold fnOk at h
  split at h
  · rename_i fn hf
    simp only [Bool.and_eq_true, Bool.not_eq_true'] at h
    have hn : ¬ fn.name = "runtime.NumGoroutine" := by have := h.1; simpa using this
    have hb : ¬ fn.body = none := by intro hbb; simp [hbb] at h
    simp [callFunc, hf, hn, hb]
  · cases h

/-! ### 8. The operations -/
def adr (v : Option Value) (K : Addr → Prop) : Prop := match v with | some (.pointer q) => nn q K | _ => False
theorem adr_spec {v : Option Value} {K : Addr → Prop} (h : adr v K) : ∃ a, v = some (.pointer (some a)) ∧ K a := by
  unfold adr at h; split at h
  · obtain ⟨a, rfl, h⟩ := nn_spec h; exact ⟨a, rfl, h⟩
  · exact h.elim
/-- a run of the model's own whose value is of a known kind -/
def rnR (P : Program) (s : Sem Value) (r : Option RK) (w : World) (K : Value → World → Prop) : Prop :=
  match r with
  | some r => exR r fun v => ∃ w', s.run P w = .ok v w' ∧ K v w'
  | none => False
theorem rnR_spec {P : Program} {s : Sem Value} {r : Option RK} {w : World} {K : Value → World → Prop} (h : rnR P s r w K) : ∃ v w', s.run P w = .ok v w' ∧ K v w' := by
  unfold rnR at h; split at h
  · obtain ⟨v, w', h⟩ := exR_spec h; exact ⟨v, w', h⟩
  · exact h.elim

def elemOfT (P : Program) (t : TypeId) : Option (TypeId × Nat) :=
  match P.underlying t with
  | some (.slice e) => match sizeOfT P e with | some n => some (e, n) | none => none
  | _ => none
def arrOfT (P : Program) (t : TypeId) : Option (Nat × TypeId × Nat) :=
  match P.underlying t with
  | some (.array m e) => match sizeOfT P e with | some n => some (m, e, n) | none => none
  | _ => none

def bSem (b : Builtin) (ts : Array TypeId) (ty : TypeId) (args : Array Value) : Option (Sem Value) :=
  match b with
  | .append => some (Builtin.append_ ts ty args)
  | .copy => some (Builtin.copy_ ts ty args)
  | .delete => some (Builtin.delete_ ts ty args)
  | .clear => some (Builtin.clear_ ts ty args)
  | .len => some (Builtin.len_ ts ty args)
  | _ => none

/-- bounds of a slice expression: from, to, up to -/
def sl2 (len cap : Nat) (lo hi : Option Value) (K : Nat → Nat → Prop) : Prop :=
  match lo, hi with
  | none, none => K 0 len
  | none, some (.int _ h) => 0 ≤ h ∧ h ≤ cap ∧ K 0 h.toNat
  | some (.int _ l), none => 0 ≤ l ∧ l ≤ len ∧ K l.toNat len
  | some (.int _ l), some (.int _ h) => 0 ≤ h ∧ h ≤ cap ∧ 0 ≤ l ∧ l ≤ h ∧ K l.toNat h.toNat
  | _, _ => False
def opdO (E : Env) (p : Path) : Option Operand → Option (Option Value)
  | none => some none
  | some x => match opd E p x with | some v => some (some v) | none => none

/-- where a slice of a slice begins -/
def slA (a : Option Addr) (c l sz : Nat) : Option Addr := if c = l then a else a.map (·.add (l * sz))
def sliceP (P : Program) (t : TypeId) (x : Value) (lo hi : Option Value) (K : Value → Prop) : Prop :=
  match x with
  | .string s => match isStrT P t with
    | true => sl2 s.size s.size lo hi fun l h => K (.string (s.extract l h))
    | false => False
  | .slice a n c => match elemOfT P t with
    | some (_, sz) => sl2 n c lo hi fun l h => K (.slice (slA a c l sz) (h - l) (c - l))
    | none => False
  | .pointer q => match arrOfT P t with
    | some (m, _, sz) => nn q fun a => sl2 m m lo hi fun l h => K (.slice (slA (some a) m l sz) (h - l) (m - l))
    | none => False
  | _ => False

def indexAddrP (P : Program) (t : TypeId) (x i : Value) (K : Value → Prop) : Prop :=
  match i with
  | .int _ i => match x with
    | .slice a n _ => match elemOfT P t with
      | some (_, sz) => ixA a n i sz fun a => K (.pointer (some a))
      | none => False
    | .pointer q => match arrOfT P t with
      | some (m, _, sz) => ixA q m i sz fun a => K (.pointer (some a))
      | none => False
    | _ => False
  | _ => False

/-- an element of an array that is a value -/
def pk (l : Leaf) (cs : List Value) (i : Int) (n : Nat) (K : Value → Prop) : Prop := 0 ≤ i ∧ i < n ∧ exL l fun v => cs[i.toNat]? = some v ∧ K v
def byteAt (s : ByteArray) (i : Int) : Int := match s[i.toNat]? with | some b => b.toNat | none => 0
def indexP (P : Program) (t : TypeId) (x i : Value) (K : Value → Prop) : Prop :=
  match i with
  | .int _ i => match x with
    | .string s => match isStrT P t with
      | true => 0 ≤ i ∧ i < s.size ∧ K (.int .u8 (byteAt s i))
      | false => False
    | .agg cs => match arrOfT P t with
      | some (m, e, sz) => match kdOf P e, Nat.beq sz 1 with
        | some (.one l), true => pk l cs.toList i m K
        | _, _ => False
      | none => False
    | _ => False
  | _ => False

/-- operations on numbers that may fail, and on floats -/
def binP (op : BinOp) (vx vy : Value) (K : Value → Prop) : Prop :=
  match vx, vy with
  | .int k a, .int k' b => match op with
    | .quo => (if k' = k then b ≠ 0 ∧ K (.int k (k.wrap (a.tdiv b))) else False)
    | .rem => (if k' = k then b ≠ 0 ∧ K (.int k (a.tmod b)) else False)
    | .shl => 0 ≤ b ∧ K (.int k (k.wrap (a * 2 ^ (min b.toNat k.bits))))
    | .shr => 0 ≤ b ∧ K (.int k (a.fdiv (2 ^ (min b.toNat k.bits))))
    | _ => False
  | .float k a, .float k' b => (if k' = k then (match op with
    | .add => ∃ r, k.format.add a b = some r ∧ K (.float k r)
    | .sub => ∃ r, k.format.sub a b = some r ∧ K (.float k r)
    | .mul => ∃ r, k.format.mul a b = some r ∧ K (.float k r)
    | .quo => ∃ r, k.format.div a b = some r ∧ K (.float k r)
    | _ => False) else False)
  | _, _ => False

def isFn (v : Value) : Bool := match v with | .func .. => true | .nilFunc => true | _ => false
def isNilF (v : Value) : Bool := match v with | .nilFunc => true | _ => false
def litNilF (x : Operand) : Bool := match x with | .const .nilFunc => true | _ => false
def isFuncT (P : Program) (t : TypeId) : Bool := match P.underlying t with | some (.func _ _ _) => true | _ => false
/-- two values held against each other by the model's own run -/
def eqV (P : Program) (op : BinOp) (t : TypeId) (vx vy : Value) (K : Bool → Prop) : Prop :=
  ∃ b, (∀ (w : World) (x y : Operand), (do eqGuard op t x y vx vy; binOp op t vx vy : Sem Value).run P w = .ok (.bool b) w) ∧ K b
def isAggV (v : Value) : Bool := match v with | .agg _ => true | _ => false
def binQ (P : Program) (op : BinOp) (t : TypeId) (y : Operand) (vx vy : Value) (K : Value → Prop) : Prop :=
  match litNilF y && isFuncT P t with
  | true => (match op with
    | .eql => isFn vx = true ∧ K (.bool (isNilF vx))
    | .neq => isFn vx = true ∧ K (.bool !(isNilF vx))
    | _ => False)
  | false => match isAggV vy with
    | true => eqV P op t vx vy fun b => K (.bool b)
    | false => binP op vx vy K

/-- a walk over a map begun -/
def rnA (P : Program) (s : Sem Value) (w : World) (K : Value → World → Prop) : Prop := ∃ (a : Addr) (w' : World), s.run P w = .ok (.pointer (some a)) w' ∧ K (.pointer (some a)) w'
/-- .. a step farther: whether there is an entry -/
def nxP (P : Program) (s : Sem Value) (w : World) (K : Value → World → Prop) : Prop :=
  ∃ (b : Bool) (vs : List Value) (w' : World), s.run P w = .ok (.tuple (.bool b :: vs).toArray) w' ∧ K (.tuple (.bool b :: vs).toArray) w'
/-- .. the entry, of numbers -/
def enP (P : Program) (s : Sem Value) (w : World) (K : Value → World → Prop) : Prop :=
  ∃ (x y : Int) (w' : World), s.run P w = .ok (.tuple #[.int .i64 x, .int .i64 y]) w' ∧ K (.tuple #[.int .i64 x, .int .i64 y]) w'

def evPrim (P : Program) (o : Oper) (E : Env) (p : Path) (w : World) (K : Value → World → Prop) : Prop :=
  match o.op with
  | .load t x => adr (opd E p x) fun a => loadT P t a w fun v => K v w
  | .store t x y => adr (opd E p x) fun a => match opd E p y with | some v => storeT P t a v w fun w' => K undef w' | none => False
  | .alloc t => match zeroT P t with | some z => alc w (cellsL z) t fun b w' => K (.pointer (some ⟨b, 0, none⟩)) w' | none => False
  | .box t x => match opd E p x with
    | some v => (match leaves P t with
      | some [.any] => v.oneCell' = true ∧ alc w [v] t fun b w' => K (.pointer (some ⟨b, 0, none⟩)) w'
      | _ => alc w (cellsL v) t fun b w' => K (.pointer (some ⟨b, 0, none⟩)) w')
    | none => False
  | .buildSlice t n parts => match elemOfT P t, partsL E p parts.toList with
    | some (e, sz), some vs => match zeroT P e, Nat.ble (n * sz) 4096 with
      | some z, true => match fillL (fun i => some (i * sz, sz)) ((List.range (n * sz)).map fun i => (cellsL z)[i % (cellsL z).length]!) vs with
        | some cs => alc w cs e fun b w' => K (.slice (some ⟨b, 0, none⟩) n n) w'
        | none => False
      | _, _ => False
    | _, _ => False
  | .nilCheck x => adr (opd E p x) fun a => K (.pointer (some a)) w
  | .binOp op t x y _ => match opd E p x, opd E p y with | some vx, some vy => binQ P op t y vx vy fun v => K v w | _, _ => False
  | .indexAddr t x i => match opd E p x, opd E p i with | some vx, some vi => indexAddrP P t vx vi fun v => K v w | _, _ => False
  | .index t x i => match opd E p x, opd E p i with | some vx, some vi => indexP P t vx vi fun v => K v w | _, _ => False
  | .slice t x lo hi mx => match mx, opd E p x, opdO E p lo, opdO E p hi with
    | none, some vx, some l, some h => sliceP P t vx l h fun v => K v w
    | _, _, _, _ => False
  | .makeSlice t l c => match opd E p l, opd E p c with | some vl, some vc => rnR P (Instr.makeSlice t vl vc) (rkOf P o.type) w K | _, _ => False
  | .makeMap t r => match r with | none => rnR P (Instr.makeMap t none) (rkOf P o.type) w K | some _ => False
  | .lookup t m k ok => match opd E p m, opd E p k with | some vm, some vk => rnR P (Instr.lookup t vm vk ok) (rkOf P o.type) w K | _, _ => False
  | .mapUpdate t m k x => match opd E p m, opd E p k, opd E p x with | some vm, some vk, some vx => ∃ w', (Instr.mapUpdate t vm vk vx).run P w = .ok () w' ∧ K undef w' | _, _, _ => False
  | .mapEntry t m k => match opd E p m, opd E p k with | some vm, some vk => enP P (Instr.mapEntry t vm vk) w K | _, _ => False
  | .entryStore t m s x => match opd E p m, opd E p s, opd E p x with | some vm, some vs, some vx => ∃ w', (Instr.entryStore t vm vs vx).run P w = .ok () w' ∧ K undef w' | _, _, _ => False
  | .entry x => match opd E p x with | some vx => enP P (Instr.entry vx) w K | none => False
  | .range t x => match opd E p x with | some vx => rnA P (Instr.range t vx) w K | none => False
  | .next x s => match s, opd E p x with | false, some vx => nxP P (Instr.next vx false o.type) w K | _, _ => False
  | .call c => match c.callee with
    | .value f => match f, opds E p c.args.toList, rkOf P o.type with
      | .func k, some vs, some r => cl P k vs w fun e w' => exR r fun v => e = .returned v ∧ K v w'
      | .tmp t, some vs, some r => match opd E p (.tmp t) with
        | some fv => clF P fv vs w fun e w' => exR r fun v => e = .returned v ∧ K v w'
        | none => False
      | _, _, _ => False
    | .builtin b => match opds E p c.args.toList with
      | some vs => match bSem b c.argTypes o.type vs.toArray with
        | some s => rnR P s (rkOf P o.type) w K
        | none => False
      | none => False
    | _ => False
  | _ => False

/-! ### 9. Their proof -/
theorem rnA_spec {P : Program} {s : Sem Value} {w : World} {K : Value → World → Prop} (h : rnA P s w K) : ∃ v w', s.run P w = .ok v w' ∧ K v w' := by
  obtain ⟨a, w', h⟩ := h; exact ⟨_, w', h⟩
theorem nxP_spec {P : Program} {s : Sem Value} {w : World} {K : Value → World → Prop} (h : nxP P s w K) : ∃ v w', s.run P w = .ok v w' ∧ K v w' := by
  obtain ⟨b, vs, w', h⟩ := h; exact ⟨_, w', h⟩
theorem enP_spec {P : Program} {s : Sem Value} {w : World} {K : Value → World → Prop} (h : enP P s w K) : ∃ v w', s.run P w = .ok v w' ∧ K v w' := by
  obtain ⟨x, y, w', h⟩ := h; exact ⟨_, w', h⟩
theorem elemOfT_spec {P : Program} {t e : TypeId} {n : Nat} (h : elemOfT P t = some (e, n)) : P.underlying t = some (.slice e) ∧ sizeOfT P e = some n := by
  unfold elemOfT at h; split at h
  · rename_i e' he
    split at h
    · rename_i m hm; simp at h; obtain ⟨rfl, rfl⟩ := h; exact ⟨he, hm⟩
    · cases h
  · cases h
theorem arrOfT_spec {P : Program} {t e : TypeId} {m n : Nat} (h : arrOfT P t = some (m, e, n)) : P.underlying t = some (.array m e) ∧ sizeOfT P e = some n := by
  unfold arrOfT at h; split at h
  · rename_i m' e' he
    split at h
    · rename_i m hm; simp at h; obtain ⟨rfl, rfl, rfl⟩ := h; exact ⟨he, hm⟩
    · cases h
  · cases h
theorem sl2_spec {P : Program} {isS : Bool} {len cap : Nat} {lo hi : Option Value} {K : Nat → Nat → Prop} (h : sl2 len cap lo hi K) :
    ∃ l u, (∀ w, (Instr.sliceBounds isS len cap lo hi none).run P w = .ok (l, u, cap) w) ∧ K l u := by
  unfold sl2 at h
  split at h
  · exact ⟨0, len, fun w => by simp [Instr.sliceBounds], h⟩
  · rename_i k x
    obtain ⟨h1, h2, h3⟩ := h
    exact ⟨0, x.toNat, fun w => by simp [Instr.sliceBounds, Instr.sliceBound, asIntOf, h1, h2], h3⟩
  · rename_i k x
    obtain ⟨h1, h2, h3⟩ := h
    exact ⟨x.toNat, len, fun w => by simp [Instr.sliceBounds, Instr.sliceBound, asIntOf, h1, h2], h3⟩
  · rename_i k x k' y
    obtain ⟨h1, h2, h3, h4, h5⟩ := h
    have e : ((y.toNat : Nat) : Int) = y := Int.toNat_of_nonneg h1
    have h4' : ¬ max y 0 < x := by omega
    exact ⟨x.toNat, y.toNat, fun w => by simp [Instr.sliceBounds, Instr.sliceBound, asIntOf, h1, h2, h3, h4'], h5⟩
  · exact h.elim

theorem sliceP_spec {P : Program} {t : TypeId} {x : Value} {lo hi : Option Value} {K : Value → Prop} (h : sliceP P t x lo hi K) :
    ∃ v, (∀ w, (Instr.sliceAt t x lo hi none).run P w = .ok v w) ∧ K v := by
  unfold sliceP at h
  split at h
  · split at h
    · rename_i s ht
      have ht := isStrT_spec ht
      obtain ⟨l, u, h1, h2⟩ := sl2_spec (P := P) (isS := false) h
      exact ⟨_, fun w => by simp [Instr.sliceAt, run_underlying ht, Instr.slice, h1], h2⟩
    · exact h.elim
  · split at h
    · rename_i a n c e sz ht
      obtain ⟨ht, hs⟩ := elemOfT_spec ht
      obtain ⟨l, u, h1, h2⟩ := sl2_spec (P := P) (isS := true) h
      exact ⟨_, fun w => by simp [Instr.sliceAt, run_underlying ht, Instr.slice, h1, sizeOfT_spec hs, slA], h2⟩
    · exact h.elim
  · split at h
    · rename_i q m e sz ht
      obtain ⟨ht, hs⟩ := arrOfT_spec ht
      obtain ⟨a, rfl, h'⟩ := nn_spec h
      obtain ⟨l, u, h1, h2⟩ := sl2_spec (P := P) (isS := false) h'
      refine ⟨_, fun w => ?_, h2⟩
      simp only [Instr.sliceAt, run_underlying ht, Instr.sureAddr, h1, sizeOfT_spec hs, slA, Sem.run_bind, Result.andThen_ok, Sem.run_pure]
      split <;> rfl
    · exact h.elim
  · exact h.elim

theorem indexAddrP_spec {P : Program} {t : TypeId} {x i : Value} {K : Value → Prop} (h : indexAddrP P t x i K) :
    ∃ v, (∀ w, (Instr.indexAt t x i).run P w = .ok v w) ∧ K v := by
  unfold indexAddrP at h
  split at h
  · split at h
    · split at h
      · rename_i k i a n c e sz ht
        obtain ⟨ht, hs⟩ := elemOfT_spec ht
        obtain ⟨h1, h2, h3⟩ := h
        obtain ⟨a, rfl, h3⟩ := nn_spec h3
        exact ⟨_, fun w => by simp [Instr.indexAt, asIntOf, run_underlying ht, h1, h2, sizeOfT_spec hs], h3⟩
      · exact h.elim
    · split at h
      · rename_i k i q m e sz ht
        obtain ⟨ht, hs⟩ := arrOfT_spec ht
        obtain ⟨h1, h2, h3⟩ := h
        obtain ⟨a, rfl, h3⟩ := nn_spec h3
        exact ⟨_, fun w => by simp [Instr.indexAt, asIntOf, run_underlying ht, Instr.sureAddr, h1, h2, sizeOfT_spec hs], h3⟩
      · exact h.elim
    · exact h.elim
  · exact h.elim

theorem kdOf_one {P : Program} {t : TypeId} {l : Leaf} (h : kdOf P t = some (.one l)) : isAggB P t = some false := by
  unfold kdOf at h; split at h <;> simp_all

theorem indexP_spec {P : Program} {t : TypeId} {x i : Value} {K : Value → Prop} (h : indexP P t x i K) :
    ∃ v, (∀ w, (Instr.index t x i).run P w = .ok v w) ∧ K v := by
  unfold indexP at h
  cases i <;> try exact h.elim
  case int k i =>
    cases x <;> try exact h.elim
    case string s =>
      simp only [] at h
      cases ht : isStrT P t with
      | false => rw [ht] at h; exact h.elim
      | true =>
        rw [ht] at h
        have ht := isStrT_spec ht
        obtain ⟨h1, h2, h3⟩ := h
        have hlt : i.toNat < s.size := by omega
        refine ⟨_, fun w => ?_, h3⟩
        simp [Instr.index, asIntOf, run_underlying ht, h1, byteAt, hlt]
    case agg cs =>
      simp only [] at h
      cases ht : arrOfT P t with
      | none => rw [ht] at h; exact h.elim
      | some q =>
        obtain ⟨m, e, sz⟩ := q
        rw [ht] at h
        obtain ⟨ht', hs⟩ := arrOfT_spec ht
        simp only [] at h
        split at h
        · rename_i l hk hb
          obtain ⟨h1, h2, h3⟩ := h
          obtain ⟨v, hv, hK⟩ := exL_spec h3
          have hsz := Nat.eq_of_beq_eq_true hb
          subst hsz
          have hv' : cs[i.toNat]? = some v := by simpa using hv
          refine ⟨v, fun w => ?_, hK⟩
          simp [Instr.index, asIntOf, run_underlying ht', h1, h2, sizeOfT_spec hs, part, run_isAgg (kdOf_one hk), hv']
        · exact h.elim

theorem binP_spec {P : Program} {op : BinOp} {t : TypeId} {x y : Operand} {vx vy : Value} {K : Value → Prop} (h : binP op vx vy K) :
    ∃ v, (∀ w, (do eqGuard op t x y vx vy; binOp op t vx vy : Sem Value).run P w = .ok v w) ∧ K v := by
  unfold binP at h
  split at h
  · rename_i k a k' b
    simp only [eqGuard_at_int, Sem.run_bind, Sem.run_pure, Result.andThen_ok]
    split at h
    · split at h
      · rename_i hk; subst hk; obtain ⟨h1, h2⟩ := h
        exact ⟨_, fun w => by simp [binOp, Op.intDiv, h1], h2⟩
      · exact h.elim
    · split at h
      · rename_i hk; subst hk; obtain ⟨h1, h2⟩ := h
        exact ⟨_, fun w => by simp [binOp, Op.intDiv, h1], h2⟩
      · exact h.elim
    · obtain ⟨h1, h2⟩ := h
      have hn : ¬ b < 0 := by omega
      exact ⟨_, fun w => by simp [binOp, Op.shift, hn], h2⟩
    · obtain ⟨h1, h2⟩ := h
      have hn : ¬ b < 0 := by omega
      exact ⟨_, fun w => by simp [binOp, Op.shift, hn], h2⟩
    · exact h.elim
  · rename_i k a k' b
    simp only [eqGuard_at_float, Sem.run_bind, Sem.run_pure, Result.andThen_ok]
    split at h
    · rename_i hk; subst hk
      split at h <;> first | exact h.elim | (obtain ⟨r, h1, h2⟩ := h; exact ⟨_, fun w => by simp [binOp, Op.floatArith, h1], h2⟩)
    · exact h.elim
  · exact h.elim

theorem binQ_spec {P : Program} {op : BinOp} {t : TypeId} {x y : Operand} {vx vy : Value} {K : Value → Prop} {a : Act} (hy : a.eval y = vy) (h : binQ P op t y vx vy K) :
    ∃ v, (∀ w, (do eqGuard op t x y vx vy; binOp op t vx vy : Sem Value).run P w = .ok v w) ∧ K v := by
  unfold binQ at h
  split at h
  · rename_i hb
    simp only [Bool.and_eq_true] at hb
    have hyn : y = .const .nilFunc := by
      have := hb.1; unfold litNilF at this; split at this
      · rfl
      · cases this
    have hu : ∃ p q r, P.underlying t = some (.func p q r) := by
      have := hb.2; unfold isFuncT at this; split at this
      · rename_i p q r he; exact ⟨p, q, r, he⟩
      · cases this
    obtain ⟨p, q, r, hu⟩ := hu
    subst hyn
    simp only [Act.eval] at hy
    subst hy
    have key : ∀ b, isFn vx = true → (isNilF vx = b) → ∀ w, (Op.equal t vx .nilFunc).run P w = .ok b w := by
      intro b hf hb w
      have k2 : ∀ d, (Op.equalIn (d + 1) t vx .nilFunc).run P w = .ok b w := by
        intro d
        cases vx <;> simp only [isFn] at hf <;> first | cases hf | skip
        · simp only [isNilF] at hb; subst hb; simp [Op.equalIn, run_underlying hu]
        · simp only [isNilF] at hb; subst hb; simp [Op.equalIn, run_underlying hu]
      exact k2 9999
    split at h
    · obtain ⟨hf, hK⟩ := h
      refine ⟨_, fun w => ?_, hK⟩
      have hg : eqGuard .eql t x (.const .nilFunc) vx .nilFunc = pure () := by cases vx <;> first | rfl | (simp [isFn] at hf)
      have hbo : binOp .eql t vx .nilFunc = (do pure (.bool (← Op.equal t vx .nilFunc)) : Sem Value) := by cases vx <;> first | rfl | (simp [isFn] at hf)
      rw [hg, hbo]
      simp [key _ hf rfl w]
    · obtain ⟨hf, hK⟩ := h
      refine ⟨_, fun w => ?_, hK⟩
      have hg : eqGuard .neq t x (.const .nilFunc) vx .nilFunc = pure () := by cases vx <;> first | rfl | (simp [isFn] at hf)
      have hbo : binOp .neq t vx .nilFunc = (do pure (.bool (!(← Op.equal t vx .nilFunc))) : Sem Value) := by cases vx <;> first | rfl | (simp [isFn] at hf)
      rw [hg, hbo]
      simp [key _ hf rfl w]
    · exact h.elim
  · split at h
    · obtain ⟨b, h1, h2⟩ := h
      exact ⟨_, fun w => h1 w x y, h2⟩
    · exact binP_spec h

/-- what an operation's run comes to -/
def Upn (P : Program) (K : Value → World → Prop) : Result Next → Prop
  | .ok (.value v) w' => K v w'
  | .ok .skip w' => K undef w'
  | .ok (.enter f args) w' => Calls P f args w' fun e w'' => ∃ v, e = .returned v ∧ K v w''
  | _ => False
theorem upn_val {P : Program} {r : Result Next} {w' : World} {v : Value} {K : Value → World → Prop} (hr : r = .ok (.value v) w') (h : K v w') : Upn P K r := by rw [hr]; exact h
theorem upn_skip {P : Program} {r : Result Next} {w' : World} {K : Value → World → Prop} (hr : r = .ok .skip w') (h : K undef w') : Upn P K r := by rw [hr]; exact h
theorem upn_cl {P : Program} {r : Result Next} {w : World} {k : FuncId} {args : List Value} {K : Value → World → Prop} {q : RK}
    (hr : r = (callFunc k args.toArray).run P w) (h : cl P k args w fun e w' => exR q fun v => e = .returned v ∧ K v w') : Upn P K r := by
  rw [hr, run_callFunc_enter h.1]
  show Calls _ _ _ _ _
  refine h.2.mono fun e w' he => ?_
  obtain ⟨v, he, hK⟩ := exR_spec he
  exact ⟨v, he, hK⟩
theorem upn_wp {P : Program} {o : Oper} {a : Act} {w : World} {K : Value → World → Prop} {next : Act → World → Prop} {Q : Exit → Act → World → Prop}
    (h : Upn P K ((execOp a.eval o).run P w)) (hn : ∀ v w', K v w' → next (a.put o.dst v) w') : o.wp P a w next Q := by
  unfold Oper.wp
  generalize (execOp a.eval o).run P w = r at h
  cases r with
  | ok x w' =>
    cases x <;> simp only [Upn] at h <;> try exact h.elim
    · exact hn _ _ h
    · exact hn _ _ h
    · show Calls _ _ _ _ _
      refine h.mono fun e w'' he => ?_
      obtain ⟨v, rfl, hK⟩ := he
      exact hn _ _ hK
  | halt x w' => exact h.elim
theorem Upn.mono {P : Program} {K K' : Value → World → Prop} {r : Result Next} (h : Upn P K r) (hk : ∀ v w, K v w → K' v w) : Upn P K' r := by
  cases r with
  | ok x w' =>
    cases x <;> simp only [Upn] at h ⊢ <;> try exact h.elim
    · exact hk _ _ h
    · exact hk _ _ h
    · exact h.mono fun e w'' he => by obtain ⟨v, he, hK⟩ := he; exact ⟨v, he, hk _ _ hK⟩
  | halt x w' => exact h.elim

theorem evPrim_run {P : Program} {o : Oper} {E : Env} {p : Path} {w : World} {K : Value → World → Prop} {a : Act}
    (hs : Sim E a) (hp : On a p) (h : evPrim P o E p w K) : Upn P K ((execOp a.eval o).run P w) := by
  obtain ⟨dst, op, type, pos, after, guard⟩ := o
  unfold evPrim at h
  cases op <;> simp only [] at h <;> try (exact h.elim)
  case load t x =>
    obtain ⟨ad, hx, h⟩ := adr_spec h
    obtain ⟨v, h1, h2⟩ := loadT_spec h
    exact upn_val (by simp [execOp, opd_spec hs hp hx, Instr.loadAt, Instr.sureAddr, h1]) h2
  case store t x y =>
    obtain ⟨ad, hx, h⟩ := adr_spec h
    split at h
    · rename_i v hy
      obtain ⟨w', h1, h2⟩ := storeT_spec h
      exact upn_skip (by simp [execOp, opd_spec hs hp hx, opd_spec hs hp hy, Instr.storeAt, Instr.sureAddr, h1]) h2
    · exact h.elim
  case alloc t =>
    split at h
    · rename_i z hz
      refine upn_val (w' := w.alloc (.cells z.cells t)) (v := .pointer (some ⟨w.heap.size, 0, none⟩)) ?_ ?_
      · simp [execOp, Instr.alloc, zeroT_spec hz, newVar, newRow]
      · have : (cellsL z).toArray = z.cells := by simp [cellsL_eq]
        unfold alc at h; rw [this] at h; exact h
    · exact h.elim
  case box t x =>
    split at h
    · rename_i v hx
      refine upn_val (w' := w.alloc (.cells v.cells t)) (v := .pointer (some ⟨w.heap.size, 0, none⟩)) ?_ ?_
      · simp [execOp, Instr.box, opd_spec hs hp hx, newVar, newRow]
      · split at h
        · have := cells_one h.1
          rw [this]; exact h.2
        · have : (cellsL v).toArray = v.cells := by simp [cellsL_eq]
          unfold alc at h; rw [this] at h; exact h
    · exact h.elim
  case buildSlice t n parts =>
    split at h
    · rename_i e sz vs he hv
      obtain ⟨ht, hsz⟩ := elemOfT_spec he
      split at h
      · rename_i z hz hb
        split at h
        · rename_i cs hcs
          have h1 := partsL_spec hs hp hv
          have e1 : (parts.map fun (i, x) => (i, a.eval x)) = vs.toArray := by apply Array.ext'; simpa using h1
          have hle := Nat.le_of_ble_eq_true hb
          have hnl : ¬ 2 ^ 24 < n * sz := by omega
          have hf := fillL_spec hcs
          refine upn_val (w' := w.alloc (.cells cs.toArray e)) (v := .slice (some ⟨w.heap.size, 0, none⟩) n n) ?_ h
          have hz' : (cellsL z).toArray = z.cells := by simp [cellsL_eq]
          have hcells : ((List.range (n * sz)).map fun i => (cellsL z)[i % (cellsL z).length]!).toArray = (Array.range (n * sz)).map (fun i => z.cells[i % z.cells.size]!) := by
            apply Array.ext'
            simp [← hz', Array.toList_range]
          rw [hcells] at hf
          by_cases h0 : n * sz = 0
          · simp only [execOp, e1, Instr.buildSlice, Sem.run_bind, run_underlying ht, Result.andThen_ok, sizeOfT_spec hsz]
            have hf' : Instr.fill (fun i => some (i * sz, sz)) #[] vs = some cs.toArray := by
              rw [h0] at hf; simpa [Array.range_zero'] using hf
            simp [h0, hf', newRow, Array.range_zero']
          · simp only [execOp, e1, Instr.buildSlice, Sem.run_bind, run_underlying ht, Result.andThen_ok, sizeOfT_spec hsz]
            simp [hnl, h0, zeroT_spec hz, hf, newRow]
        · exact h.elim
      · exact h.elim
    · exact h.elim
  case nilCheck x =>
    obtain ⟨ad, hx, h⟩ := adr_spec h
    exact upn_val (by simp [execOp, opd_spec hs hp hx]) h
  case binOp op t x y yt =>
    split at h
    · rename_i vx vy hx hy
      obtain ⟨v, h1, h2⟩ := binQ_spec (P := P) (t := t) (x := x) (y := y) (opd_spec hs hp hy) h
      refine upn_val (v := v) (w' := w) ?_ h2
      simp only [execOp, opd_spec hs hp hx, opd_spec hs hp hy]
      rw [Sem.run_bind, h1 w]; rfl
    · exact h.elim
  case indexAddr t x i =>
    split at h
    · rename_i vx vi hx hi
      obtain ⟨v, h1, h2⟩ := indexAddrP_spec h
      exact upn_val (by simp [execOp, opd_spec hs hp hx, opd_spec hs hp hi, h1]) h2
    · exact h.elim
  case index t x i =>
    split at h
    · rename_i vx vi hx hi
      obtain ⟨v, h1, h2⟩ := indexP_spec h
      exact upn_val (by simp [execOp, opd_spec hs hp hx, opd_spec hs hp hi, h1]) h2
    · exact h.elim
  case slice t x lo hi mx =>
    split at h
    · rename_i vx l u hx hl hu
      obtain ⟨v, h1, h2⟩ := sliceP_spec h
      have el : lo.map a.eval = l := by
        unfold opdO at hl; split at hl
        · simp at hl; subst hl; rfl
        · split at hl
          · rename_i y v hv; simp at hl; subst hl; simp [opd_spec hs hp hv]
          · cases hl
      have eu : hi.map a.eval = u := by
        unfold opdO at hu; split at hu
        · simp at hu; subst hu; rfl
        · split at hu
          · rename_i y v hv; simp at hu; subst hu; simp [opd_spec hs hp hv]
          · cases hu
      exact upn_val (by simp [execOp, opd_spec hs hp hx, el, eu, h1]) h2
    · exact h.elim
  case makeSlice t l c =>
    split at h
    · rename_i vl vc hl hc
      obtain ⟨v, w', h1, h2⟩ := rnR_spec h
      exact upn_val (by simp [execOp, opd_spec hs hp hl, opd_spec hs hp hc, h1]) h2
    · exact h.elim
  case makeMap t r =>
    split at h
    · obtain ⟨v, w', h1, h2⟩ := rnR_spec h
      exact upn_val (by simp [execOp, h1]) h2
    · exact h.elim
  case lookup t m k ok =>
    split at h
    · rename_i vm vk hm hk
      obtain ⟨v, w', h1, h2⟩ := rnR_spec h
      exact upn_val (by simp [execOp, opd_spec hs hp hm, opd_spec hs hp hk, h1]) h2
    · exact h.elim
  case mapUpdate t m k x =>
    split at h
    · rename_i vm vk vx hm hk hx
      obtain ⟨w', h1, h2⟩ := h
      exact upn_skip (by simp [execOp, opd_spec hs hp hm, opd_spec hs hp hk, opd_spec hs hp hx, h1]) h2
    · exact h.elim
  case mapEntry t m k =>
    split at h
    · rename_i vm vk hm hk
      obtain ⟨v, w', h1, h2⟩ := enP_spec h
      exact upn_val (by simp [execOp, opd_spec hs hp hm, opd_spec hs hp hk, h1]) h2
    · exact h.elim
  case entryStore t m k x =>
    split at h
    · rename_i vm vk vx hm hk hx
      obtain ⟨w', h1, h2⟩ := h
      exact upn_skip (by simp [execOp, opd_spec hs hp hm, opd_spec hs hp hk, opd_spec hs hp hx, h1]) h2
    · exact h.elim
  case entry x =>
    split at h
    · rename_i vx hx
      obtain ⟨v, w', h1, h2⟩ := enP_spec h
      exact upn_val (by simp [execOp, opd_spec hs hp hx, h1]) h2
    · exact h.elim
  case range t x =>
    split at h
    · rename_i vx hx
      obtain ⟨v, w', h1, h2⟩ := rnA_spec h
      exact upn_val (by simp [execOp, opd_spec hs hp hx, h1]) h2
    · exact h.elim
  case next x s =>
    split at h
    · rename_i vx hx
      obtain ⟨v, w', h1, h2⟩ := nxP_spec h
      exact upn_val (by simp [execOp, opd_spec hs hp hx, h1]) h2
    · exact h.elim
  case call c =>
    split at h
    · rename_i f hf
      split at h
      · rename_i k vs r hvs hr
        have h1 := opds_spec hs hp hvs
        have e1 : c.args.map a.eval = vs.toArray := by apply Array.ext'; simpa using h1
        refine upn_cl (k := k) (args := vs) (q := r) ?_ h
        simp [execOp, resolve, hf, e1, Act.eval, Deferred.ofValue, invoke]
      · rename_i t vs r hvs hr
        have h1 := opds_spec hs hp hvs
        have e1 : c.args.map a.eval = vs.toArray := by apply Array.ext'; simpa using h1
        split at h
        · rename_i fv hfv
          obtain ⟨k, first, cap, rfl, h⟩ := h
          refine upn_cl (k := k) (q := r) ?_ h
          simp [execOp, resolve, hf, e1, opd_spec hs hp hfv, Deferred.ofValue, invoke]
          congr 1
          apply congrArg
          apply Array.ext'
          simp
        · exact h.elim
      · exact h.elim
    · rename_i b hb
      split at h
      · rename_i vs hvs
        have h1 := opds_spec hs hp hvs
        have e1 : c.args.map a.eval = vs.toArray := by apply Array.ext'; simpa using h1
        split at h
        · rename_i s hsem
          obtain ⟨v, w', hr, hK⟩ := rnR_spec h
          refine upn_val (v := v) (w' := w') ?_ hK
          unfold bSem at hsem
          split at hsem <;> first | (simp only [Option.some.injEq] at hsem; subst hsem; simp [execOp, resolve, hb, e1, invoke, builtin, hr]; done) | cases hsem
        · exact h.elim
      · exact h.elim
    · exact h.elim

theorem evPrim_spec {P : Program} {o : Oper} {E : Env} {p : Path} {w : World} {K : Value → World → Prop} {a : Act} {Q : Exit → Act → World → Prop}
    (hs : Sim E a) (hp : On a p) (h : evPrim P o E p w K) : o.wp P a w (fun a' w' => ∃ v, a' = a.put o.dst v ∧ K v w') Q :=
  upn_wp (evPrim_run hs hp h) fun v w' hK => ⟨v, rfl, hK⟩

/-- what changes nothing comes to the same in every world; a load: in this one -/
theorem evStill {P : Program} {o : Oper} {E : Env} {p : Path} {w : World} {K : Value → World → Prop} {a : Act} (hs : Sim E a) (hp : On a p)
    (hld : (match o.op with | .nilCheck _ | .binOp .. | .indexAddr .. | .index .. | .slice .. => true | _ => false) = true) (h : evPrim P o E p w K) :
    ∃ v, (∀ w', (execOp a.eval o).run P w' = .ok (.value v) w') ∧ K v w := by
  obtain ⟨dst, op, type, pos, after, guard⟩ := o
  unfold evPrim at h
  cases op <;> simp only [] at h hld <;> try (exact absurd hld (by decide))
  case nilCheck x =>
    obtain ⟨ad, hx, h⟩ := adr_spec h
    exact ⟨_, fun w' => by simp [execOp, opd_spec hs hp hx], h⟩
  case binOp op t x y yt =>
    split at h
    · rename_i vx vy hx hy
      obtain ⟨v, h1, h2⟩ := binQ_spec (P := P) (t := t) (x := x) (y := y) (opd_spec hs hp hy) h
      refine ⟨v, fun w' => ?_, h2⟩
      simp only [execOp, opd_spec hs hp hx, opd_spec hs hp hy]
      rw [Sem.run_bind, h1 w']; rfl
    · exact h.elim
  case indexAddr t x i =>
    split at h
    · rename_i vx vi hx hi
      obtain ⟨v, h1, h2⟩ := indexAddrP_spec h
      exact ⟨v, fun w' => by simp [execOp, opd_spec hs hp hx, opd_spec hs hp hi, h1], h2⟩
    · exact h.elim
  case index t x i =>
    split at h
    · rename_i vx vi hx hi
      obtain ⟨v, h1, h2⟩ := indexP_spec h
      exact ⟨v, fun w' => by simp [execOp, opd_spec hs hp hx, opd_spec hs hp hi, h1], h2⟩
    · exact h.elim
  case slice t x lo hi mx =>
    split at h
    · rename_i vx l u hx hl hu
      obtain ⟨v, h1, h2⟩ := sliceP_spec h
      have el : lo.map a.eval = l := by
        unfold opdO at hl; split at hl
        · simp at hl; subst hl; rfl
        · split at hl
          · rename_i y v hv; simp at hl; subst hl; simp [opd_spec hs hp hv]
          · cases hl
      have eu : hi.map a.eval = u := by
        unfold opdO at hu; split at hu
        · simp at hu; subst hu; rfl
        · split at hu
          · rename_i y v hv; simp at hu; subst hu; simp [opd_spec hs hp hv]
          · cases hu
      exact ⟨v, fun w' => by simp [execOp, opd_spec hs hp hx, el, eu, h1], h2⟩
    · exact h.elim
theorem evLoad {P : Program} {o : Oper} {E : Env} {p : Path} {w : World} {K : Value → World → Prop} {a : Act} (hs : Sim E a) (hp : On a p)
    (hld : (match o.op with | .load .. => true | _ => false) = true) (h : evPrim P o E p w K) :
    ∃ v, (execOp a.eval o).run P w = .ok (.value v) w ∧ K v w := by
  obtain ⟨dst, op, type, pos, after, guard⟩ := o
  unfold evPrim at h
  cases op <;> simp only [] at h hld <;> try (exact absurd hld (by decide))
  case load t x =>
    obtain ⟨ad, hx, h⟩ := adr_spec h
    obtain ⟨v, h1, h2⟩ := loadT_spec h
    exact ⟨v, by simp [execOp, opd_spec hs hp hx, Instr.loadAt, Instr.sureAddr, h1], h2⟩
end Go.Proofs.Ytjpblaenebodlaa.Vc
