/- The verification-condition generator, fourth part: an operation's outcome, and the proof. -/
import Derived.Test.YtjpblaenebodlaaVcC
set_option linter.unusedVariables false
set_option linter.unusedSimpArgs false
namespace Go.Proofs.Ytjpblaenebodlaa.Vc
open Go

/-! ### 5. Operations that only reckon: their value -/
def pickT (E : Env) (p : Path) (c : Tmp) (x y : Operand) : Option Value :=
  match look E c with
  | some en => bif sufB en.path p then (match en.val with
    | .bool cb => match opd E ((c, true) :: p) x, opd E ((c, false) :: p) y with
      | some (.bool vx), some (.bool vy) => some (.bool (cond cb vx vy))
      | _, _ => none
    | _ => none) else none
  | none => none

def unT (op : UnOp) (v : Value) : Option Value :=
  match op, v with
  | .not, .bool b => some (.bool !b)
  | .neg, .int k n => some (.int k (k.wrap (0 - n)))
  | .xor, .int k n => some (.int k (bits .xor k (if k.signed then -1 else k.max) n))
  | _, _ => none
theorem unT_spec {P : Program} {op : UnOp} {v u : Value} (h : unT op v = some u) (w : World) : (Op.unary op v).run P w = .ok u w := by
  unfold unT at h
  split at h <;> first | (simp only [Option.some.injEq] at h; subst h; rfl) | cases h

def convT (P : Program) (s d : TypeId) (v : Value) : Option Value :=
  match v with
  | .int _ n => match isIntT P d with
    | some k => bif hasT P s then some (.int k (k.wrap n)) else none
    | none => none
  | .string b => bif hasT P s && isStrT P d then some (.string b) else none
  | _ => none
theorem convT_spec {P : Program} {s d : TypeId} {v u : Value} (h : convT P s d v = some u) (w : World) : (convert s d v).run P w = .ok u w := by
  unfold convT at h
  split at h
  · split at h
    · rename_i k hk
      cases hb : hasT P s with
      | false => rw [hb] at h; simp at h
      | true =>
        rw [hb] at h; simp only [cond_true, Option.some.injEq] at h; subst h
        unfold hasT at hb
        split at hb
        · rename_i ds hds
          simp only [convert, Sem.run_bind, run_underlying hds, Result.andThen_ok, run_underlying (isIntT_spec hk)]
          cases ds <;> rfl
        · cases hb
    · cases h
  · cases hb : hasT P s && isStrT P d with
    | false => rw [hb] at h; simp at h
    | true =>
      rw [hb] at h; simp only [cond_true, Option.some.injEq] at h; subst h
      simp only [Bool.and_eq_true] at hb
      have h1 := hb.1
      unfold hasT at h1
      split at h1
      · rename_i ds hds
        simp only [convert, Sem.run_bind, run_underlying hds, Result.andThen_ok, run_underlying (isStrT_spec hb.2)]
        cases ds <;> rfl
      · cases h1
  · cases h

def fieldT (P : Program) (t : TypeId) (v : Value) (i : Nat) : Option Value :=
  match v, fieldsOf P t with
  | .agg cs, some fs => match fs.toList[i]? with
    | some f => partT P f.type cs f.offset
    | none => none
  | _, _ => none
theorem fieldT_spec {P : Program} {t : TypeId} {v u : Value} {i : Nat} (h : fieldT P t v i = some u) (w : World) : (Instr.field t v i).run P w = .ok u w := by
  unfold fieldT at h
  split at h
  · rename_i cs fs hf
    split at h
    · rename_i f hfi
      have hfi' : fs[i]? = some f := by simpa using hfi
      simp only [Instr.field, Sem.run_bind, run_underlying (fieldsOf_spec hf), Result.andThen_ok, hfi']
      simp [asAgg, partT_spec h]
    · cases h
  · cases h

def fieldAddrT (P : Program) (t : TypeId) (a : Addr) (i : Nat) : Option Value :=
  match fieldsOf P t with
  | some fs => match fs.toList[i]? with
    | some f => match sizeOfT P f.type with
      | some n => bif Nat.ble 1 n then some (.pointer (some (a.add f.offset))) else none
      | none => none
    | none => none
  | none => none
theorem fieldAddrT_spec {P : Program} {t : TypeId} {a : Addr} {u : Value} {i : Nat} (h : fieldAddrT P t a i = some u) (w : World) :
    (Instr.fieldAt t (.pointer (some a)) i).run P w = .ok u w := by
  unfold fieldAddrT at h
  split at h
  · rename_i fs hf
    split at h
    · rename_i f hfi
      have hfi' : fs[i]? = some f := by simpa using hfi
      split at h
      · rename_i n hn
        cases hb : Nat.ble 1 n with
        | false => rw [hb] at h; simp at h
        | true =>
          rw [hb] at h; simp only [cond_true, Option.some.injEq] at h; subst h
          have hn0 : n ≠ 0 := by have := Nat.le_of_ble_eq_true hb; omega
          simp only [Instr.fieldAt, Sem.run_bind, run_underlying (fieldsOf_spec hf), Result.andThen_ok, hfi']
          simp [Instr.sureAddr, fieldPlace, sizeOfT_spec hn, hn0]
      · cases h
    · cases h
  · cases h

def partsL (E : Env) (p : Path) : List (Nat × Operand) → Option (List (Nat × Value))
  | [] => some []
  | (i, x) :: r => match opd E p x, partsL E p r with
    | some v, some vs => some ((i, v) :: vs)
    | _, _ => none
theorem partsL_spec {E : Env} {p : Path} {a : Act} (hs : Sim E a) (hp : On a p) : ∀ {ps : List (Nat × Operand)} {vs : List (Nat × Value)}, partsL E p ps = some vs →
    ps.map (fun x => (x.1, a.eval x.2)) = vs
  | [], vs, h => by simp [partsL] at h; subst h; rfl
  | (i, x) :: r, vs, h => by
    unfold partsL at h
    split at h
    · rename_i v vs' h1 h2
      simp at h; subst h
      simp only [List.map_cons, opd_spec hs hp h1, partsL_spec hs hp h2]
    · cases h

def evPure (P : Program) (o : Op) (E : Env) (p : Path) : Option Value :=
  match o with
  | .move x => opd E p x
  | .assign x => opd E p x
  | .pick c x y => match c with | .tmp c => pickT E p c x y | _ => none
  | .unOp op _ x => match opd E p x with | some v => unT op v | none => none
  | .binOp op t x y _ => match opd E p x, opd E p y with | some vx, some vy => evBin P op t y vx vy | _, _ => none
  | .convert s d x => match opd E p x with | some v => convT P s d v | none => none
  | .field t x i => match opd E p x with | some v => fieldT P t v i | none => none
  | .extract x i => match opd E p x with | some (.tuple vs) => vs.toList[i]? | _ => none
  | .makeFunc fn fs cs => match opds E p fs.toList, opds E p cs.toList with | some x, some y => some (.func fn x.toArray y.toArray) | _, _ => none
  | .makeInterface t x => match opd E p x with | some v => bif concB P t then some (.iface t v) else none | none => none
  | .fieldAddr t x i => match opd E p x with | some (.pointer (some a)) => fieldAddrT P t a i | _ => none
  | .build t parts => match partsL E p parts.toList with | some vs => buildT P t vs | none => none
  | .call c => match c.callee with
    | .builtin b => match opds E p c.args.toList with | some vs => evBuiltin P b c.argTypes.toList vs | none => none
    | _ => none
  | _ => none

theorem evPure_spec {P : Program} {o : Oper} {E : Env} {p : Path} {v : Value} {a : Act} (hs : Sim E a) (hp : On a p) (h : evPure P o.op E p = some v) (w : World) :
    (execOp a.eval o).run P w = .ok (.value v) w := by
  obtain ⟨dst, op, type, pos, after, guard⟩ := o
  unfold evPure at h
  cases op <;> simp only [] at h <;> simp only [execOp] <;> try (cases h; done)
  case move x => simp [opd_spec hs hp h]
  case assign x => simp [opd_spec hs hp h]
  case pick c x y =>
    split at h
    · rename_i c
      unfold pickT at h
      split at h
      · rename_i en hl
        cases hb : sufB en.path p with
        | false => rw [hb] at h; simp at h
        | true =>
          rw [hb] at h; simp only [cond_true] at h
          split at h
          · rename_i cb hv
            have hc := (hs c en hl).yes (hp.suf hb)
            rw [look_slot hl, hv] at hc
            have hce : a.eval (.tmp c) = .bool cb := by simp [Act.eval, Array.getD_eq_getD_getElem?, hc]
            split at h
            · rename_i vx vy hx hy
              simp only [Option.some.injEq] at h; subst h
              cases cb with
              | true =>
                have hon : On a ((c, true) :: p) := fun z hz => by
                  rcases List.mem_cons.1 hz with rfl | hz
                  · exact hc
                  · exact hp z hz
                simp [hce, asBool, opd_spec hs hon hx]
              | false =>
                have hon : On a ((c, false) :: p) := fun z hz => by
                  rcases List.mem_cons.1 hz with rfl | hz
                  · exact hc
                  · exact hp z hz
                simp [hce, asBool, opd_spec hs hon hy]
            · cases h
          · cases h
      · cases h
    · cases h
  case unOp op t x =>
    split at h
    · rename_i u hu; simp [opd_spec hs hp hu, unT_spec h]
    · cases h
  case binOp op t x y yt =>
    split at h
    · rename_i vx vy hx hy
      have := evBin_spec (yt := yt) (x := x) (P := P) h (opd_spec hs hp hy) w
      rw [opd_spec hs hp hx, opd_spec hs hp hy]
      rw [Sem.run_bind, this]
      rfl
    · cases h
  case convert s d x =>
    split at h
    · rename_i u hu; rw [opd_spec hs hp hu, Sem.run_bind, convT_spec h]; rfl
    · cases h
  case field t x i =>
    split at h
    · rename_i u hu; rw [opd_spec hs hp hu, Sem.run_bind, fieldT_spec h]; rfl
    · cases h
  case extract x i =>
    split at h
    · rename_i vs hu
      have h' : vs[i]? = some v := by simpa using h
      rw [opd_spec hs hp hu, Sem.run_bind]; simp [Instr.extract, h']
    · cases h
  case makeFunc fn fs cs =>
    split at h
    · rename_i x y hx hy
      simp only [Option.some.injEq] at h; subst h
      have h1 := opds_spec hs hp hx
      have h2 := opds_spec hs hp hy
      have e1 : fs.map a.eval = x.toArray := by apply Array.ext'; simpa using h1
      have e2 : cs.map a.eval = y.toArray := by apply Array.ext'; simpa using h2
      simp [Instr.makeFunc, e1, e2]
    · cases h
  case makeInterface t x =>
    split at h
    · rename_i u hu
      cases hb : concB P t with
      | false => rw [hb] at h; simp at h
      | true =>
        rw [hb] at h; simp only [cond_true, Option.some.injEq] at h; subst h
        rw [opd_spec hs hp hu, Sem.run_bind, run_makeInterface _ _ _ (concB_spec hb)]; rfl
    · cases h
  case fieldAddr t x i =>
    split at h
    · rename_i u hu; rw [opd_spec hs hp hu, Sem.run_bind, fieldAddrT_spec h]; rfl
    · cases h
  case build t parts =>
    split at h
    · rename_i vs hu
      have h1 := partsL_spec hs hp hu
      have e1 : (parts.map fun (i, x) => (i, a.eval x)) = vs.toArray := by apply Array.ext'; simpa using h1
      rw [e1, Sem.run_bind, buildT_spec h]; rfl
    · cases h
  case call c =>
    split at h
    · rename_i b hb
      split at h
      · rename_i vs hu
        have h1 := opds_spec hs hp hu
        have e1 : c.args.map a.eval = vs.toArray := by apply Array.ext'; simpa using h1
        simp only [resolve, hb, Sem.run_bind, Sem.run_pure, Result.andThen_ok, invoke, e1]
        exact evBuiltin_spec h _ _ w
      · cases h
    · cases h
end Go.Proofs.Ytjpblaenebodlaa.Vc
