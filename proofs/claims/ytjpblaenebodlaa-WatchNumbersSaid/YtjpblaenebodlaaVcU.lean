/- What the proofs over the verification conditions use: memory that is kept, cells that are read, written and made. -/
import Derived.Test.YtjpblaenebodlaaVcG
import Derived.Below
set_option linter.unusedVariables false
set_option linter.unusedSimpArgs false
namespace Go.Proofs.Ytjpblaenebodlaa.Vc
open Go

/-- all blocks but some are as they were -/
structure Keep (S : Nat → Prop) (w w' : World) : Prop where
  os : w'.os = w.os
  tape : w'.tape = w.tape
  output : w'.output = w.output
  size : w.heap.size ≤ w'.heap.size
  block : ∀ i, i < w.heap.size → ¬ S i → w'.heap[i]? = w.heap[i]?

theorem Keep.refl (S : Nat → Prop) (w : World) : Keep S w w := ⟨rfl, rfl, rfl, Nat.le_refl _, fun _ _ _ => rfl⟩
theorem Keep.trans {S S' : Nat → Prop} {w w1 w2 : World} (h : Keep S w w1) (h' : Keep S' w1 w2) (hs : ∀ i, i < w.heap.size → S' i → S i) : Keep S w w2 :=
  ⟨h'.os.trans h.os, h'.tape.trans h.tape, h'.output.trans h.output, Nat.le_trans h.size h'.size, fun i hi hn =>
    (h'.block i (Nat.lt_of_lt_of_le hi h.size) (fun h1 => hn (hs i hi h1))).trans (h.block i hi hn)⟩
theorem Keep.mono {S S' : Nat → Prop} {w w' : World} (h : Keep S w w') (hs : ∀ i, i < w.heap.size → S i → S' i) : Keep S' w w' :=
  ⟨h.os, h.tape, h.output, h.size, fun i hi hn => h.block i hi fun h1 => hn (hs i hi h1)⟩
theorem Keep.alloc {S : Nat → Prop} {w w' : World} (h : Keep S w w') (o : Obj) : Keep S w (w'.alloc o) :=
  ⟨h.os, h.tape, h.output, by rw [World.size_alloc]; have := h.size; omega, fun i hi hn => by
    rw [RowKit.Below.heap_alloc _ _ _ (Nat.lt_of_lt_of_le hi h.size)]; exact h.block i hi hn⟩
theorem Keep.drew {S : Nat → Prop} {w w' : World} (h : Keep S w w') : Keep S w w'.drew := ⟨h.os, h.tape, h.output, h.size, h.block⟩
theorem Keep.setCell {S : Nat → Prop} {w w' : World} (h : Keep S w w') (a : Addr) (v : Value) (hs : a.block < w.heap.size → S a.block) : Keep S w (w'.setCell a v) :=
  ⟨h.os, h.tape, h.output, by rw [World.size_setCell]; exact h.size, fun i hi hn => by
    rw [heap_setCell_other _ _ _ _ (fun e => hn (by subst e; exact hs hi))]; exact h.block i hi hn⟩
theorem Keep.below {S : Nat → Prop} {B : Nat} {w w' : World} (h : Keep S w w') (hB : B ≤ w.heap.size) (hs : ∀ i, S i → B ≤ i) : RowKit.Below B w w' :=
  ⟨h.os, h.tape, h.output, h.size, fun i hi => h.block i (Nat.lt_of_lt_of_le hi hB) fun h1 => by have := hs i h1; omega⟩
def None : Nat → Prop := fun _ => False
theorem Keep.below0 {w w' : World} (h : Keep None w w') : RowKit.Below w.heap.size w w' := h.below (Nat.le_refl _) fun i hi => hi.elim

/-- a block's cells -/
def Blk (w : World) (b : Nat) (cs : List Value) (t : TypeId) : Prop := w.heap[b]? = some (.cells cs.toArray t (0, 0))
theorem Blk.cell {w : World} {b : Nat} {cs : List Value} {t : TypeId} (h : Blk w b cs t) (i : Nat) : w.cell? ⟨b, i, none⟩ = cs[i]? := by
  unfold Blk at h; simp [World.cell?, h]
theorem Blk.frozen {w : World} {b : Nat} {cs : List Value} {t : TypeId} (h : Blk w b cs t) (i : Nat) : w.frozen? ⟨b, i, none⟩ = false := by
  unfold Blk at h; simp [World.frozen?, h]
theorem Blk.lt {w : World} {b : Nat} {cs : List Value} {t : TypeId} (h : Blk w b cs t) : b < w.heap.size := (Array.getElem?_eq_some_iff.1 h).1
theorem Blk.keep {S : Nat → Prop} {w w' : World} {b : Nat} {cs : List Value} {t : TypeId} (h : Blk w b cs t) (hk : Keep S w w') (hs : ¬ S b) : Blk w' b cs t := by
  unfold Blk; rw [hk.block b h.lt hs]; exact h
theorem Blk.new (w : World) (cs : List Value) (t : TypeId) : Blk (w.alloc (.cells cs.toArray t)) w.heap.size cs t := heap_alloc_new w _
theorem Blk.alloc {w : World} {b : Nat} {cs : List Value} {t : TypeId} (h : Blk w b cs t) (o : Obj) : Blk (w.alloc o) b cs t := by
  unfold Blk; rw [RowKit.Below.heap_alloc _ _ _ h.lt]; exact h
theorem Blk.drew {w : World} {b : Nat} {cs : List Value} {t : TypeId} (h : Blk w b cs t) : Blk w.drew b cs t := h
theorem Blk.set {w : World} {b : Nat} {cs : List Value} {t : TypeId} (h : Blk w b cs t) (i : Nat) (v : Value) : Blk (w.setCell ⟨b, i, none⟩ v) b (cs.set i v) t := by
  unfold Blk
  rw [heap_setCell_same w b i _ t v h]
  simp
theorem Blk.setOther {w : World} {b : Nat} {cs : List Value} {t : TypeId} (h : Blk w b cs t) (a : Addr) (v : Value) (hne : b ≠ a.block) : Blk (w.setCell a v) b cs t := by
  unfold Blk; rw [heap_setCell_other _ _ _ _ hne]; exact h

theorem add_mk (b o n : Nat) : (⟨b, o, none⟩ : Addr).add n = ⟨b, o + n, none⟩ := by
  unfold Addr.add; split
  · subst_vars; rfl
  · rfl

theorem ldI_of {k : IntKind} {w : World} {a : Addr} {K : Int → Prop} {x : Int} (h : w.cell? a = some (.int k x)) (hk : K x) : ldI k w a K := ⟨x, h, hk⟩
theorem ldB_of {w : World} {a : Addr} {K : Bool → Prop} {x : Bool} (h : w.cell? a = some (.bool x)) (hk : K x) : ldB w a K := ⟨x, h, hk⟩
theorem ldF_of {k : FloatKind} {w : World} {a : Addr} {K : Nat → Prop} {x : Nat} (h : w.cell? a = some (.float k x)) (hk : K x) : ldF k w a K := ⟨x, h, hk⟩
theorem ldS_of {w : World} {a : Addr} {K : ByteArray → Prop} {x : ByteArray} (h : w.cell? a = some (.string x)) (hk : K x) : ldS w a K := ⟨x, h, hk⟩
theorem ldP_of {w : World} {a : Addr} {K : Option Addr → Prop} {x : Option Addr} (h : w.cell? a = some (.pointer x)) (hk : K x) : ldP w a K := ⟨x, h, hk⟩
theorem ldC_of {w : World} {a : Addr} {K : Option Addr → Nat → Nat → Prop} {x : Option Addr} {n c : Nat} (h : w.cell? a = some (.slice x n c)) (hk : K x n c) : ldC w a K := ⟨x, n, c, h, hk⟩
theorem ldM_of {w : World} {a : Addr} {K : Option Nat → Prop} {x : Option Nat} (h : w.cell? a = some (.map x)) (hk : K x) : ldM w a K := ⟨x, h, hk⟩
theorem ldV_of {w : World} {a : Addr} {K : Value → Prop} {x : Value} (h : w.cell? a = some x) (hk : K x) : ldV w a K := ⟨x, h, hk⟩

theorem pif_of {b : Bool} {X Y : Prop} (h1 : b = true → X) (h2 : b = false → Y) : pif b X Y := ⟨h1, h2⟩
theorem pif_true {X Y : Prop} (h : X) : pif true X Y := ⟨fun _ => h, fun h => (by cases h)⟩
theorem pif_false {X Y : Prop} (h : Y) : pif false X Y := ⟨fun h => (by cases h), fun _ => h⟩
theorem pif_t {b : Bool} {X Y : Prop} (hb : b = true) (h : X) : pif b X Y := by subst hb; exact pif_true h
theorem pif_f {b : Bool} {X Y : Prop} (hb : b = false) (h : Y) : pif b X Y := by subst hb; exact pif_false h

theorem gd_of {α : Type} {b : Bool} {A : (α → World → Prop) → Prop} {d : α} {w : World} {K : α → World → Prop} (h1 : b = true → A K) (h2 : b = false → K d w) : gd b A d w K := ⟨h1, h2⟩
theorem gd_t {α : Type} {b : Bool} {A : (α → World → Prop) → Prop} {d : α} {w : World} {K : α → World → Prop} (hb : b = true) (h : A K) : gd b A d w K := ⟨fun _ => h, fun h => (by rw [hb] at h; cases h)⟩
theorem gd_f {α : Type} {b : Bool} {A : (α → World → Prop) → Prop} {d : α} {w : World} {K : α → World → Prop} (hb : b = false) (h : K d w) : gd b A d w K := ⟨fun h => (by rw [hb] at h; cases h), fun _ => h⟩
/-- a guarded step that changes nothing: its value, or what stands for it -/
theorem gd_pure {α : Type} {b : Bool} {A : (α → World → Prop) → Prop} {d : α} {w : World} {K : α → World → Prop} (x : α) (h : b = true → ∀ K, K x w → A K) (hk : K (cond b x d) w) : gd b A d w K := by
  cases b with
  | true => exact ⟨fun _ => h rfl K hk, fun h => (by cases h)⟩
  | false => exact ⟨fun h => (by cases h), fun _ => hk⟩

theorem lp_of {σ : Type} {body : σ → World → (σ → World → Prop) → Prop} {s : σ} {w : World} (I : σ → World → Prop) (μ : σ → World → Nat) (h0 : I s w)
    (h : ∀ s w, I s w → body s w fun s' w' => I s' w' ∧ μ s' w' < μ s w) : lp body s w := ⟨I, μ, h0, h⟩
theorem jn_of {σ : Type} {A : (σ → World → Prop) → Prop} {B : σ → World → Prop} (h : A B) : jn A B := ⟨B, h, fun _ _ h => h⟩
theorem cl_of {P : Program} {k : FuncId} {args : List Value} {w : World} {R R' : Ending → World → Prop} (hok : fnOk P k = true) (h : Calls P k args.toArray w R') (hr : ∀ e w', R' e w' → R e w') : cl P k args w R :=
  ⟨hok, h.mono hr⟩

/-- only block b may have turned -/
def One (b : Nat) : Nat → Prop := fun i => i = b
theorem Keep.setOne {w : World} {b i : Nat} {sp : Option Nat} (v : Value) : Keep (One b) w (w.setCell ⟨b, i, none⟩ v) :=
  (Keep.refl _ w).setCell _ _ fun _ => rfl
theorem Keep.none {S : Nat → Prop} {w w' : World} (h : Keep None w w') : Keep S w w' := h.mono fun _ _ h => h.elim
/-- behind a step that turned nothing old, or one new block only -/
theorem Keep.then0 {S : Nat → Prop} {w w1 w2 : World} (h : Keep S w w1) (h' : Keep None w1 w2) : Keep S w w2 := h.trans h' fun _ _ h => h.elim
theorem Keep.then1 {S : Nat → Prop} {w w1 w2 : World} {b : Nat} (h : Keep S w w1) (h' : Keep (One b) w1 w2) (hb : w.heap.size ≤ b) : Keep S w w2 :=
  h.trans h' fun i hi e => by have : i = b := e; omega
theorem Keep.thenS {S : Nat → Prop} {w w1 w2 : World} {b : Nat} (h : Keep S w w1) (h' : Keep (One b) w1 w2) (hb : S b) : Keep S w w2 :=
  h.trans h' fun i hi e => by have : i = b := e; rw [this]; exact hb
theorem Blk.keep0 {w w' : World} {b : Nat} {cs : List Value} {t : TypeId} (h : Blk w b cs t) (hk : Keep None w w') : Blk w' b cs t := h.keep hk fun h => h
theorem Blk.keep1 {w w' : World} {b b' : Nat} {cs : List Value} {t : TypeId} (h : Blk w b cs t) (hk : Keep (One b') w w') (hne : b ≠ b') : Blk w' b cs t := h.keep hk hne

theorem alc_of {w : World} {cs : List Value} {t : TypeId} {K : Nat → World → Prop} (h : ∀ w', Blk w' w.heap.size cs t → Keep None w w' → K w.heap.size w') : alc w cs t K :=
  h _ (Blk.new w cs t) ((Keep.refl _ w).alloc _)
theorem st_of {w : World} {b i : Nat} {cs : List Value} {t : TypeId} {v : Value} {K : World → Prop} (hB : Blk w b cs t) (hi : i < cs.length) (hv : v.oneCell' = true)
    (hk : ∀ w', Blk w' b (cs.set i v) t → Keep (One b) w w' → w'.heap.size = w.heap.size → K w') : st w ⟨b, i, none⟩ v K := by
  refine ⟨hv, ?_, hB.frozen i, hk _ (hB.set i v) (Keep.setOne (sp := Option.none) v) (by rw [World.size_setCell])⟩
  rw [hB.cell i, List.getElem?_eq_getElem hi]; rfl

/-- a new block, under a name of its own -/
theorem alc_at {w : World} {cs : List Value} {t : TypeId} {K : Nat → World → Prop} (h : ∀ b w', b = w.heap.size → Blk w' b cs t → Keep None w w' → K b w') : alc w cs t K :=
  h _ _ rfl (Blk.new w cs t) ((Keep.refl _ w).alloc _)
theorem made_one (z : Value) (n : Nat) : (madeCells #[z] n).toList = List.replicate n z := by
  apply List.ext_getElem
  · simp [madeCells]
  · intro i h1 h2
    simp [madeCells, Nat.mod_one]
/-- make of a slice whose elements are one cell each -/
theorem mk_of {P : Program} {w : World} {t e : TypeId} {B : Nat} {z : Value} {n : Int} {K : Option Addr → Nat → Nat → World → Prop}
    (ht : P.underlying t = some (.slice e)) (hi0 : (P.info? e).map (fun i => (i.zero, i.size, i.bytes)) = some (some z, 1, B)) (hzc : z.cells = #[z])
    (h0 : 0 ≤ n) (hb : (B : Int) * n ≤ 281474976710656) (hn : n ≤ 9223372036854775807)
    (h : ∀ b w', b = w.heap.size → Blk w' b (List.replicate n.toNat z) e → Keep None w w' → K (some ⟨b, 0, none⟩) n.toNat n.toNat w') :
    ∃ (p : Option Addr) (l c : Nat), ∃ w' : World, (Instr.makeSlice t (.int .i64 n) (.int .i64 n)).run P w = .ok (.slice p l c) w' ∧ K p l c w' := by
  obtain ⟨i, hi, hi'⟩ := Option.map_eq_some_iff.1 hi0
  simp only [Prod.mk.injEq] at hi'
  obtain ⟨hz, hsz, rfl⟩ := hi'
  have hr := run_make (P := P) w t e i z ht hi hz .i64 .i64 n n h0 (Int.le_refl _) hb hn
  refine ⟨_, _, _, _, hr, h _ _ rfl ?_ ((Keep.refl _ w).alloc _)⟩
  have e1 : madeCells z.cells (n.toNat * i.size) = (List.replicate n.toNat z).toArray := by
    apply Array.toList_inj.1
    rw [hzc, made_one, hsz, Nat.mul_one]
  rw [e1]
  exact Blk.new w _ e

theorem nn_of {a : Addr} {K : Addr → Prop} (h : K a) : nn (some a) K := h
theorem ixA_of {b o n : Nat} {i : Int} {sz : Nat} {K : Addr → Prop} (h0 : 0 ≤ i) (h1 : i < n) (h : K ⟨b, o + i.toNat * sz, none⟩) : ixA (some ⟨b, o, none⟩) n i sz K :=
  ⟨h0, h1, by show K _; rw [add_mk]; exact h⟩
/-- .. of elements of one cell, from a block's beginning -/
theorem ixA_of1 {b n : Nat} {i : Int} {K : Addr → Prop} (h0 : 0 ≤ i) (h1 : i < n) (h : K ⟨b, i.toNat, none⟩) : ixA (some ⟨b, 0, none⟩) n i 1 K :=
  ixA_of h0 h1 (by rw [Nat.zero_add, Nat.mul_one]; exact h)

theorem cell_lt {w : World} {a : Addr} {v : Value} (h : w.cell? a = some v) : a.block < w.heap.size := by
  apply Classical.byContradiction
  intro hc
  have : w.heap[a.block]? = none := Array.getElem?_eq_none (by omega)
  simp [World.cell?, this] at h
theorem Keep.cell {S : Nat → Prop} {w w' : World} {a : Addr} {v : Value} (hk : Keep S w w') (h : w.cell? a = some v) (hs : ¬ S a.block) : w'.cell? a = some v :=
  (World.cell?_of_block (w := w) (hk.block a.block (cell_lt h) hs)).trans h
end Go.Proofs.Ytjpblaenebodlaa.Vc
