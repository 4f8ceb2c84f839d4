/- A verification-condition generator over the model's code, with its proof: 'evF' turns a function's code into one typed proposition, and 'calls_of_ev' says that this proposition proves the function's contract. -/
import Derived.WalkKit
import Derived.Orders
import Derived.KernelRfl
import Derived.Deep.LoopGhost
import Derived.Laws.Rows
set_option linter.unusedVariables false
set_option linter.unusedSimpArgs false
namespace Go.Proofs.Ytjpblaenebodlaa.Vc
open Go

/-! ### 1. Kinds of single values -/
inductive Leaf where
  | int (k : IntKind) | bool | flt (k : FloatKind) | str | ptr | slc | mp | any

@[reducible] def LTy : Leaf → Type
  | .int _ => Int
  | .bool => Bool
  | .flt _ => Nat
  | .str => ByteArray
  | .ptr => Option Addr
  | .slc => Option Addr × Nat × Nat
  | .mp => Option Nat
  | .any => Value

def lval : (l : Leaf) → LTy l → Value
  | .int k, x => .int k x
  | .bool, b => .bool b
  | .flt k, x => .float k x
  | .str, s => .string s
  | .ptr, p => .pointer p
  | .slc, s => .slice s.1 s.2.1 s.2.2
  | .mp, r => .map r
  | .any, v => v

/-- what a value is, taken apart at its kind -/
def unl : (l : Leaf) → Value → (LTy l → Prop) → Prop
  | .int k, v, f => match v with | .int k' x => (if k' = k then f x else False) | _ => False
  | .bool, v, f => match v with | .bool b => f b | _ => False
  | .flt k, v, f => match v with | .float k' x => (if k' = k then f x else False) | _ => False
  | .str, v, f => match v with | .string s => f s | _ => False
  | .ptr, v, f => match v with | .pointer p => f p | _ => False
  | .slc, v, f => match v with | .slice a n c => f (a, n, c) | _ => False
  | .mp, v, f => match v with | .map r => f r | _ => False
  | .any, v, f => f v

theorem unl_spec {l : Leaf} {v : Value} {f : LTy l → Prop} (h : unl l v f) : ∃ x, v = lval l x ∧ f x := by
  cases l <;> simp only [unl] at h
  case int k => split at h <;> simp_all [lval]
  case flt k => split at h <;> simp_all [lval]
  case any => exact ⟨v, rfl, h⟩
  case slc => split at h <;> first | exact h.elim | exact ⟨(_, _, _), rfl, h⟩
  all_goals (split at h <;> first | exact h.elim | exact ⟨_, rfl, h⟩)

inductive Kd where
  | one (l : Leaf)
  | agg (ls : List Leaf)
  | unit
  | adr

@[reducible] def TupL : List Leaf → Type
  | [] => Unit
  | l :: ls => LTy l × TupL ls

@[reducible] def KTy : Kd → Type
  | .one l => LTy l
  | .agg ls => TupL ls
  | .unit => Unit
  | .adr => Addr

def lvals : (ls : List Leaf) → TupL ls → List Value
  | [], _ => []
  | l :: ls, x => lval l x.1 :: lvals ls x.2

def kval : (k : Kd) → KTy k → Value
  | .one l, x => lval l x
  | .agg ls, x => .agg (lvals ls x).toArray
  | .unit, _ => .tuple #[]
  | .adr, a => .pointer (some a)

def unls : (ls : List Leaf) → List Value → (TupL ls → Prop) → Prop
  | [], vs, f => match vs with | [] => f () | _ => False
  | l :: ls, vs, f => match vs with | v :: r => unl l v fun x => unls ls r fun y => f (x, y) | [] => False

theorem unls_spec : ∀ {ls : List Leaf} {vs : List Value} {f : TupL ls → Prop}, unls ls vs f → ∃ x, vs = lvals ls x ∧ f x
  | [], vs, f, h => by
    simp only [unls] at h
    split at h
    · exact ⟨(), rfl, h⟩
    · exact h.elim
  | l :: ls, vs, f, h => by
    simp only [unls] at h
    split at h
    · obtain ⟨x, hx, h1⟩ := unl_spec h
      obtain ⟨y, hy, h2⟩ := unls_spec h1
      exact ⟨(x, y), by rw [hx, hy]; rfl, h2⟩
    · exact h.elim

def unk : (k : Kd) → Value → (KTy k → Prop) → Prop
  | .one l, v, f => unl l v f
  | .agg ls, v, f => match v with | .agg cs => unls ls cs.toList f | _ => False
  | .unit, v, f => match v with | .tuple vs => (match vs.toList with | [] => f () | _ :: _ => False) | _ => False
  | .adr, v, f => match v with | .pointer q => (match q with | some a => f a | none => False) | _ => False

theorem unk_spec {k : Kd} {v : Value} {f : KTy k → Prop} (h : unk k v f) : ∃ x, v = kval k x ∧ f x := by
  cases k with
  | one l => exact unl_spec h
  | agg ls =>
    simp only [unk] at h
    split at h
    · rename_i cs
      obtain ⟨x, hx, h⟩ := unls_spec h
      refine ⟨x, ?_, h⟩
      simp only [kval, ← hx]
    · exact h.elim
  | unit =>
    simp only [unk] at h
    split at h
    · rename_i vs
      split at h
      · rename_i hv
        obtain rfl : vs = #[] := by apply Array.ext'; simpa using hv
        exact ⟨(), rfl, h⟩
      · exact h.elim
    · exact h.elim
  | adr =>
    simp only [unk] at h
    split at h
    · split at h
      · exact ⟨_, rfl, h⟩
      · exact h.elim
    · exact h.elim

/-! ### 2. What reads and writes memory -/
def ldI (k : IntKind) (w : World) (a : Addr) (K : Int → Prop) : Prop := ∃ x, w.cell? a = some (.int k x) ∧ K x
def ldB (w : World) (a : Addr) (K : Bool → Prop) : Prop := ∃ x, w.cell? a = some (.bool x) ∧ K x
def ldF (k : FloatKind) (w : World) (a : Addr) (K : Nat → Prop) : Prop := ∃ x, w.cell? a = some (.float k x) ∧ K x
def ldS (w : World) (a : Addr) (K : ByteArray → Prop) : Prop := ∃ x, w.cell? a = some (.string x) ∧ K x
def ldP (w : World) (a : Addr) (K : Option Addr → Prop) : Prop := ∃ x, w.cell? a = some (.pointer x) ∧ K x
def ldC (w : World) (a : Addr) (K : Option Addr → Nat → Nat → Prop) : Prop := ∃ p n c, w.cell? a = some (.slice p n c) ∧ K p n c
def ldM (w : World) (a : Addr) (K : Option Nat → Prop) : Prop := ∃ x, w.cell? a = some (.map x) ∧ K x
def ldV (w : World) (a : Addr) (K : Value → Prop) : Prop := ∃ x, w.cell? a = some x ∧ K x

def ld1 : Leaf → World → Addr → (Value → Prop) → Prop
  | .int k, w, a, K => ldI k w a fun x => K (.int k x)
  | .bool, w, a, K => ldB w a fun x => K (.bool x)
  | .flt k, w, a, K => ldF k w a fun x => K (.float k x)
  | .str, w, a, K => ldS w a fun x => K (.string x)
  | .ptr, w, a, K => ldP w a fun x => K (.pointer x)
  | .slc, w, a, K => ldC w a fun p n c => K (.slice p n c)
  | .mp, w, a, K => ldM w a fun x => K (.map x)
  | .any, w, a, K => ldV w a K

theorem ld1_spec {l : Leaf} {w : World} {a : Addr} {K : Value → Prop} (h : ld1 l w a K) : ∃ v, w.cell? a = some v ∧ K v := by
  cases l
  case slc => obtain ⟨p, n, c, h1, h2⟩ := h; exact ⟨_, h1, h2⟩
  all_goals (obtain ⟨x, h1, h2⟩ := h; exact ⟨_, h1, h2⟩)

def ldL : List Leaf → World → Addr → Nat → (List Value → Prop) → Prop
  | [], _, _, _, K => K []
  | l :: ls, w, a, i, K => ld1 l w (a.add i) fun v => ldL ls w a (i + 1) fun vs => K (v :: vs)

theorem ldL_spec : ∀ {ls : List Leaf} {w : World} {a : Addr} {i : Nat} {K : List Value → Prop}, ldL ls w a i K →
    ∃ vs : List Value, vs.length = ls.length ∧ (∀ j v, vs[j]? = some v → w.cell? (a.add (i + j)) = some v) ∧ K vs
  | [], w, a, i, K, h => ⟨[], rfl, fun j v hj => by simp at hj, h⟩
  | l :: ls, w, a, i, K, h => by
    obtain ⟨v, h1, h2⟩ := ld1_spec h
    obtain ⟨vs, hl, hc, hK⟩ := ldL_spec h2
    refine ⟨v :: vs, by simp [hl], fun j u hj => ?_, hK⟩
    cases j with
    | zero => simp at hj; subst hj; simpa using h1
    | succ j =>
      have := hc j u (by simpa using hj)
      rwa [show i + 1 + j = i + (j + 1) by omega] at this

/-- the kinds of a type's cells, in order -/
def leavesN (P : Program) : Nat → TypeId → Option (List Leaf)
  | 0, _ => none
  | d + 1, t => match P.underlying t with
    | some .bool => some [.bool]
    | some (.int k) => some [.int k]
    | some (.float k) => some [.flt k]
    | some .string => some [.str]
    | some (.pointer _) => some [.ptr]
    | some (.slice _) => some [.slc]
    | some (.map _ _) => some [.mp]
    | some (.func _ _ _) => some [.any]
    | some (.interface _) => some [.any]
    | some (.struct fs) => fs.toList.foldr (fun f acc => match leavesN P d f.type, acc with | some x, some y => some (x ++ y) | _, _ => none) (some [])
    | some (.array n e) => match leavesN P d e with | some x => some (List.replicate n x).flatten | none => none
    | _ => none
def leaves (P : Program) (t : TypeId) : Option (List Leaf) := leavesN P 6 t

def isAggB (P : Program) (t : TypeId) : Option Bool :=
  match P.underlying t with
  | some (.struct _) | some (.array _ _) => some true
  | some _ => some false
  | none => none

def sizeB (P : Program) (t : TypeId) (n : Nat) : Bool := match P.info? t with | some i => Nat.beq i.size n | none => false

/-- a variable of a type, read -/
def loadT (P : Program) (t : TypeId) (a : Addr) (w : World) (K : Value → Prop) : Prop :=
  match isAggB P t, leaves P t with
  | some false, some [l] => ld1 l w a K
  | some true, some ls => match sizeB P t ls.length with
    | true => ldL ls w a 0 fun vs => K (.agg vs.toArray)
    | false => False
  | _, _ => False

theorem run_isAgg {P : Program} {t : TypeId} {b : Bool} (h : isAggB P t = some b) (w : World) : (isAgg t).run P w = .ok b w := by
  unfold isAggB at h
  cases hd : P.underlying t with
  | none => simp [hd] at h
  | some d => cases d <;> simp_all [isAgg, run_underlying hd]

theorem sizeB_spec {P : Program} {t : TypeId} {n : Nat} (h : sizeB P t n = true) : ∃ i, P.info? t = some i ∧ i.size = n := by
  unfold sizeB at h
  split at h
  · rename_i i hi; exact ⟨i, hi, Nat.eq_of_beq_eq_true h⟩
  · cases h

theorem run_sizeOf {P : Program} {t : TypeId} {n : Nat} (h : sizeB P t n = true) (w : World) : (sizeOf t).run P w = .ok n w := by
  obtain ⟨i, hi, rfl⟩ := sizeB_spec h
  simp [sizeOf, typeInfo, hi]

theorem loadT_spec {P : Program} {t : TypeId} {a : Addr} {w : World} {K : Value → Prop} (h : loadT P t a w K) :
    ∃ v, (loadVar t a).run P w = .ok v w ∧ K v := by
  unfold loadT at h
  split at h
  · rename_i l hb hl
    obtain ⟨v, hc, hK⟩ := ld1_spec h
    exact ⟨v, by simp [loadVar, run_isAgg hb, hc], hK⟩
  · rename_i ls hb hl
    split at h
    · rename_i hs
      obtain ⟨vs, hlen, hc, hK⟩ := ldL_spec h
      refine ⟨_, ?_, hK⟩
      have hcells := run_loadCells_list (P := P) w a vs (fun j v hj => by have := hc j v hj; rwa [Nat.zero_add] at this)
      rw [hlen] at hcells
      simp [loadVar, run_isAgg hb, run_sizeOf hs, hcells]
    · exact h.elim
  · exact h.elim

/-- one cell written -/
def st (w : World) (a : Addr) (v : Value) (K : World → Prop) : Prop :=
  v.oneCell' = true ∧ (w.cell? a).isSome = true ∧ w.frozen? a = false ∧ K (w.setCell a v)

theorem st_spec {P : Program} {w : World} {a : Addr} {v : Value} {K : World → Prop} (h : st w a v K) :
    (store a v).run P w = .ok () (w.setCell a v) ∧ K (w.setCell a v) := by
  obtain ⟨h1, h2, h3, h4⟩ := h
  refine ⟨?_, h4⟩
  obtain ⟨u, hu⟩ := Option.isSome_iff_exists.1 h2
  rw [run_store P w a v .plain h1, hu]
  simp [h3]

def stL : List Value → World → Addr → Nat → (World → Prop) → Prop
  | [], w, _, _, K => K w
  | v :: vs, w, a, i, K => st w (a.add i) v fun w' => stL vs w' a (i + 1) K

theorem stL_spec {P : Program} : ∀ {vs : List Value} {w : World} {a : Addr} {i : Nat} {K : World → Prop}, stL vs w a i K →
    ∃ w', (storeCells a vs i).run P w = .ok () w' ∧ K w'
  | [], w, a, i, K, h => ⟨w, by simp [storeCells], h⟩
  | v :: vs, w, a, i, K, h => by
    obtain ⟨h1, h2⟩ := st_spec (P := P) h
    obtain ⟨w', h3, h4⟩ := stL_spec (P := P) h2
    exact ⟨w', by simp [storeCells, h1, h3], h4⟩

def cellsL (v : Value) : List Value := match v with | .agg cs => cs.toList | v => [v]
theorem cellsL_eq (v : Value) : cellsL v = v.cells.toList := by cases v <;> simp [cellsL, Value.cells]

/-- a variable of a type, written -/
def storeT (P : Program) (t : TypeId) (a : Addr) (v : Value) (w : World) (K : World → Prop) : Prop :=
  match isAggB P t with
  | some false => (match sizeB P t 1 with
    | true => st w (a.add 0) v K
    | false => False)
  | _ => match sizeB P t (cellsL v).length with
    | true => stL (cellsL v) w a 0 K
    | false => False

theorem cells_one {v : Value} (h : v.oneCell' = true) : v.cells = #[v] := by cases v <;> simp_all [Value.oneCell', Value.cells]

theorem storeT_spec {P : Program} {t : TypeId} {a : Addr} {v : Value} {w : World} {K : World → Prop} (h : storeT P t a v w K) :
    ∃ w', (storeVar t a v).run P w = .ok () w' ∧ K w' := by
  unfold storeT at h
  split at h
  · split at h
    · rename_i hs
      have h1 := h.1
      obtain ⟨h2, h3⟩ := st_spec (P := P) h
      refine ⟨_, ?_, h3⟩
      have hc := cells_one h1
      simp only [storeVar, hc]
      simp [run_sizeOf hs, storeCells, h2]
    · exact h.elim
  · split at h
    · rename_i hs
      obtain ⟨w', h1, h2⟩ := stL_spec (P := P) h
      refine ⟨w', ?_, h2⟩
      have hl : v.cells.size = (cellsL v).length := by simp [cellsL_eq]
      simp only [storeVar]
      simp [run_sizeOf hs, hl]
      rw [← cellsL_eq]; exact h1
    · exact h.elim

/-- a new block -/
def alc (w : World) (cs : List Value) (t : TypeId) (K : Nat → World → Prop) : Prop := K w.heap.size (w.alloc (.cells cs.toArray t))
/-- a pointer that is not nil -/
def nn (p : Option Addr) (K : Addr → Prop) : Prop := match p with | some a => K a | none => False
theorem nn_spec {p : Option Addr} {K : Addr → Prop} (h : nn p K) : ∃ a, p = some a ∧ K a := by
  cases p with
  | none => exact h.elim
  | some a => exact ⟨a, rfl, h⟩
/-- an element's address -/
def ixA (p : Option Addr) (n : Nat) (i : Int) (sz : Nat) (K : Addr → Prop) : Prop := 0 ≤ i ∧ i < n ∧ nn p fun a => K (a.add (i.toNat * sz))
/-- a test -/
def pif (b : Bool) (X Y : Prop) : Prop := (b = true → X) ∧ (b = false → Y)
/-- a step that is made under a condition -/
def gd {α : Type} (b : Bool) (A : (α → World → Prop) → Prop) (d : α) (w : World) (K : α → World → Prop) : Prop := (b = true → A K) ∧ (b = false → K d w)
/-- a loop -/
def lp {σ : Type} (body : σ → World → (σ → World → Prop) → Prop) (s : σ) (w : World) : Prop :=
  ∃ (I : σ → World → Prop) (μ : σ → World → Nat), I s w ∧ ∀ s w, I s w → body s w (fun s' w' => I s' w' ∧ μ s' w' < μ s w)
/-- where ways meet -/
def jn {σ : Type} (A : (σ → World → Prop) → Prop) (B : σ → World → Prop) : Prop := ∃ R : σ → World → Prop, A R ∧ ∀ s w, R s w → B s w
/-- whatever else the model runs -/
def rn (P : Program) (s : Sem Value) (w : World) (K : Value → World → Prop) : Prop := ∃ v w', s.run P w = .ok v w' ∧ K v w'
end Go.Proofs.Ytjpblaenebodlaa.Vc
