/- An Engine in memory: its parts kept; a clause put to a list; how a literal stands. -/
import Derived.Test.YtmhjehodfggleaaMEng1
set_option linter.unusedVariables false
set_option linter.unusedSimpArgs false
set_option linter.unusedSectionVars false
set_option maxRecDepth 100000
namespace Go.Proofs.Ytmhjehodfggleaa.Eng
open Go Go.Proofs.Ytmhjehodfggleaa.Vc Go.Proofs.Ytmhjehodfggleaa.T
open Go.Proofs.Ytmhjehodfggleaa.Apart (RdL own_rdl wrap_nat getE own_len take_snoc Sl sv New)
open Go.Proofs.Ytmhjehodfggleaa.Lits (fl fl_iff Ans ans_of formedP idx idx_range idx_inj indexP)
open Go.Proofs.Ytmhjehodfggleaa.Arn (Ar AR)
open Go.Proofs.Ytmhjehodfggleaa.Trail (TI Tr St valA levA reaA ownB Moved TLaid above upto)

theorem idxN_eq {nv : Nat} (hnv : nv ≤ 1048576) {l : Int} (h : Wi nv l) : idx l = ((idxN l : Nat) : Int) := by
  unfold idxN; have := (idx_range (fl_iff.2 ⟨h.1, by have := h.2.1; omega, by have := h.2.2; omega⟩)).1; omega
theorem wi_fl {nv : Nat} (hnv : nv ≤ 1048576) {l : Int} (h : Wi nv l) : fl l = true := fl_iff.2 ⟨h.1, by have := h.2.1; omega, by have := h.2.2; omega⟩
theorem idxN_lt {nv : Nat} {l : Int} (h : Wi nv l) : idxN l < 2 * nv := by
  obtain ⟨h0, h1, h2⟩ := h
  unfold idxN idx
  split <;> omega
theorem idxN_inj {nv : Nat} (hnv : nv ≤ 1048576) {l m : Int} (hl : Wi nv l) (hm : Wi nv m) (h : idxN l = idxN m) : l = m :=
  idx_inj (wi_fl hnv hl) (wi_fl hnv hm) (by rw [idxN_eq hnv hl, idxN_eq hnv hm, h])
theorem pts_len {w : World} {e : TypeId} {p : Option Addr} {n c : Nat} {f : Nat → Nat} {ys : List Nat} (h : Own w e 1 p n c (ys.map fun k => Pt (f k))) : ys.length = n := by
  have := h.len; simpa using this
section
variable {ex : Nat → Prop} {w w' : World} {b : Nat} {o : Nat → Int} {h : Hs} {S : ES} {T : Int → Prop}
theorem no_of (hT : ∀ {t : Int}, T t → t ≠ -9) {i : Nat} {t : Int} (ho : o i = t) (ht : ¬ T t) : ¬ T (o i) := by rw [ho]; exact ht
theorem own_K {e : TypeId} {sz : Nat} {p : Option Addr} {n c : Nat} {xs : List Value} {t : Int} (hO : Own w e sz p n c xs) (ho : ∀ i, ob p i → o i = t) (hk : Keep (fun i => T (o i)) w w') (ht : ¬ T t) : Own w' e sz p n c xs :=
  hO.keep hk fun i hi hh => by have hh' : T (o i) := hh; rw [ho i hi] at hh'; exact ht hh'
theorem blk_K {bb : Nat} {cs : List Value} {ty : TypeId} {t : Int} (hB : Blk w bb cs ty) (ho : o bb = t) (hk : Keep (fun i => T (o i)) w w') (ht : ¬ T t) : Blk w' bb cs ty :=
  hB.keep hk fun hh => by have hh' : T (o bb) := hh; rw [ho] at hh'; exact ht hh'
theorem Rp.arK (hR : Rp ex w b o h S) (hk : Keep (fun i => T (o i)) w w') (ht : ¬ T (-2)) : AR (fun i => o i = -2 ∧ i < w'.heap.size) w' h.st S.ar :=
  ar_grow (hR.ar.keep (U := fun i => T (o i) ∧ i < w.heap.size) ⟨hk.os, hk.tape, hk.output, hk.size, fun i hi hn => hk.block i hi fun hu => hn ⟨hu, hi⟩⟩ fun i hi hh => by
    have h1 := hi.1; rw [hh.1] at h1; exact ht h1) (fun i hi => ⟨hi.1, by have := hk.size; omega⟩) (fun i hi => hi.2)
theorem Rp.trK (hR : Rp ex w b o h S) (hk : Keep (fun i => T (o i)) w w') (ht : ¬ T (-3)) : Tr S.nv w' h.T S.R S.L :=
  hR.tr.keep hk fun i hi hh => by have hh' : T (o i) := hh; rw [hR.trO i hi] at hh'; exact ht hh'
theorem Rp.innOK (hR : Rp ex w b o h S) (hk : Keep (fun i => T (o i)) w w') : ∀ (i : Nat) (x : Sl), h.hh[i]? = some x → ∀ j, ob x.1 j → o j = i ∧ j < w'.heap.size :=
  fun i x hx j hj => ⟨(hR.innO i x hx j hj).1, by have := (hR.innO i x hx j hj).2; have := hk.size; omega⟩
theorem Rp.innK (hR : Rp ex w b o h S) (hk : Keep (fun i => T (o i)) w w') {ex' : Nat → Prop} (ht : ∀ i : Nat, ¬ ex' i → ¬ ex i ∧ ¬ T i) : ∀ (i : Nat) (x : Sl) (ids : List Nat), h.hh[i]? = some x → S.lists[i]? = some ids → ¬ ex' i → Own w' 68 1 x.1 x.2.1 x.2.2 (ids.map fun k => Pt (h.hb k)) :=
  fun i x ids hx hi hn => own_K (hR.inn i x ids hx hi (ht i hn).1) (fun j hj => (hR.innO i x hx j hj).1) hk (ht i hn).2
theorem Rp.glK (hR : Rp ex w b o h S) (hk : Keep (fun i => T (o i)) w w') (ht : ¬ T (-11)) : ∀ (i : Nat) (x : Bool × List Int) (y : Sl), S.log[i]? = some x → h.gl[i]? = some y → RdL w' y.1 y.2.1 x.2 ∧ ∀ j, ob y.1 j → o j = -11 ∧ j < w'.heap.size :=
  fun i x y hx hy => ⟨(hR.gl i x y hx hy).1.keep hk fun j hj hh => by have hh' : T (o j) := hh; rw [((hR.gl i x y hx hy).2 j hj).1] at hh'; exact ht hh', fun j hj => ⟨((hR.gl i x y hx hy).2 j hj).1, by have := ((hR.gl i x y hx hy).2 j hj).2; have := hk.size; omega⟩⟩
theorem Rp.heldK (hR : Rp ex w b o h S) (hk : Keep (fun i => T (o i)) w w') (ht : ¬ T (-12)) (ht2 : ¬ T (-13)) : ∀ (i : Nat) (d : Hd), S.H[i]? = some d → Blk w' (h.hb i) [I d.at_, sv (h.hl i), I d.e0, I d.e1, .bool d.gone] 71 ∧ o (h.hb i) = -12 ∧ RdL w' (h.hl i).1 (h.hl i).2.1 d.ls ∧ ∀ j, ob (h.hl i).1 j → o j = -13 ∧ j < w'.heap.size :=
  fun i d hd => by
    obtain ⟨h1, h2, h3, h4⟩ := hR.held i d hd
    exact ⟨blk_K h1 h2 hk ht, h2, h3.keep hk (fun j hj hh => by have hh' : T (o j) := hh; rw [(h4 j hj).1] at hh'; exact ht2 hh'), fun j hj => ⟨(h4 j hj).1, by have := (h4 j hj).2; have := hk.size; omega⟩⟩
theorem Rp.exMono {ex' : Nat → Prop} (hR : Rp ex w b o h S) (he : ∀ i, ex i → ex' i) : Rp ex' w b o h S :=
  { hR with inn := fun i x ids hx hi hn => hR.inn i x ids hx hi fun h => hn (he i h) }
/-- the lists' headers -/
theorem Rp.outAt (hR : Rp ex w b o h S) {i : Nat} {x : Sl} (hx : h.hh[i]? = some x) {K : Addr → Prop} (hK : ∀ a, w.cell? a = some (sv x) → K a) : ixA h.ll.1 h.ll.2.1 (i : Int) 1 K := by
  have hl := hR.out.len
  have hi := (List.getElem?_eq_some_iff.1 hx).1
  rw [List.length_map] at hl
  refine hR.out.ix (by omega) (by omega) fun bb hb => hK _ ?_
  have hO := hR.out
  rw [hb] at hO
  rw [hO.cell _ (by omega), Int.toNat_natCast, Nat.mul_one, List.getElem?_map, hx]; rfl
/-- one list goes on -/
theorem appH (hR : Rp ex w b o h S) {i : Nat} {x : Sl} {ids : List Nat} (hx : h.hh[i]? = some x) (hids : S.lists[i]? = some ids) (hne : ¬ ex i) (hlen : ids.length ≤ 17592186044415) {k bb : Nat} (hB : Blk w bb [Pt (h.hb k)] 68)
    {K : Option Addr → Nat → Nat → World → Prop}
    (hK : ∀ (g : Sl) (w' : World) (o' : Nat → Int), Rp (fun j => ex j ∨ j = i) w' b o' h S → Ag w o o' → Own w' 68 1 g.1 g.2.1 g.2.2 ((ids ++ [k]).map fun k => Pt (h.hb k)) → (∀ j, ob g.1 j → o' j = i) → Keep (fun j => o j = i) w w' → K g.1 g.2.1 g.2.2 w') :
    ∃ (p' : Option Addr) (n' c' : Nat), ∃ w' : World, (Builtin.append_ #[59, 59] 59 #[.slice x.1 x.2.1 x.2.2, .slice (some (⟨bb, 0, none⟩ : Addr)) 1 1]).run Try.prog w = .ok (.slice p' n' c') w' ∧ K p' n' c' w' := by
  have hO := hR.inn i x ids hx hids hne
  have hn := pts_len hO
  have hxo := hR.innO i x hx
  refine app_of2 (e := 68) (sz := 1) (z := .pointer none) (B := 8) Try.underlying59 (by kernel_rfl) rfl (by omega) hO hB.news1 (fun u hu => ?_) (by simp only [maxLen]; omega) (by omega) fun p' c' w' hO' hd => ?_
  · simp only [List.mem_singleton] at hu; subst hu; rfl
  have kk : Keep (fun j => (fun t : Int => t = i) (o j)) w w' := by
    rcases hd with ⟨_, _, _, kk⟩ | ⟨_, kk⟩
    · exact kk.mono fun j _ hj => (hxo j hj).1
    · exact kk.none
  have z := kk.size
  have ni : ∀ {t : Int}, t < 0 → ¬ t = (i : Int) := fun h hh => by omega
  have hR2 : Rp (fun j => ex j ∨ j = i) w' b o h S := ⟨blk_K (T := fun t => t = i) hR.self hR.selfO kk (ni (by decide)), hR.selfO, hR.arK (T := fun t => t = i) kk (ni (by decide)), hR.trK (T := fun t => t = i) kk (ni (by decide)), hR.trO, own_K (T := fun t => t = i) hR.oo hR.ooO kk (ni (by decide)), hR.ooO, own_K (T := fun t => t = i) hR.out hR.outO kk (ni (by decide)), hR.outO, hR.hhl, hR.lsl,
    hR.innK (T := fun t => t = i) kk (fun j hj => ⟨fun hh => hj (Or.inl hh), fun hh => hj (Or.inr (by omega))⟩), hR.innOK (T := fun t => t = i) kk, own_K (T := fun t => t = i) hR.sh hR.shO kk (ni (by decide)), hR.shO, own_K (T := fun t => t = i) hR.le hR.leO kk (ni (by decide)), hR.leO, blk_K (T := fun t => t = i) hR.bk hR.bkO kk (ni (by decide)), hR.bkO, own_K (T := fun t => t = i) hR.lg hR.lgO kk (ni (by decide)), hR.lgO, hR.gll, hR.glK (T := fun t => t = i) kk (ni (by decide)), hR.heldK (T := fun t => t = i) kk (ni (by decide)) (ni (by decide)), hR.inj, fun j hj => hR.nrm j (by omega)⟩
  refine hK (p', x.2.1 + 1, c') w' (fun j => if j < w.heap.size then o j else if j < w'.heap.size then i else -9) (hR2.tag (fun j hj => ?_) fun j hj => ?_) (fun j hj => if_pos hj) (by rw [List.map_append]; exact hO') (fun j hj => ?_) kk
  · have hlt : j < w.heap.size := by
      apply Classical.byContradiction
      intro hn
      exact hj (hR.nrm j (by omega))
    exact if_pos hlt
  · show (if j < w.heap.size then o j else if j < w'.heap.size then (i : Int) else -9) = -9
    rw [if_neg (by omega), if_neg (by omega)]
  · show (if j < w.heap.size then o j else if j < w'.heap.size then (i : Int) else -9) = i
    have := hO'.lt j hj
    rcases hd with ⟨e, _, _, _⟩ | ⟨e, _⟩
    · rw [e] at hj
      rw [if_pos (hxo j hj).2]; exact (hxo j hj).1
    · have := e j hj
      rw [if_neg (by omega), if_pos (by omega)]
/-- a list's header written down -/
theorem setOut {i : Nat} {ids' : List Nat} {g : Sl} (hR : Rp (fun j => ex j ∨ j = i) w b o h S) (hi : i < 2 * S.nv) (hO : Own w 68 1 g.1 g.2.1 g.2.2 (ids'.map fun k => Pt (h.hb k))) (hg : ∀ j, ob g.1 j → o j = i) {K : World → Prop}
    (hK : ∀ w', Rp ex w' b o { h with hh := h.hh.set i g } { S with lists := S.lists.set i ids' } → Keep (fun j => o j = -5) w w' → K w') :
    ixA h.ll.1 h.ll.2.1 (i : Int) 1 fun p => st w (p.add 0) (.slice g.1 g.2.1 g.2.2) K := by
  have hl := hR.out.len
  rw [List.length_map] at hl
  have hhl := hR.hhl
  have hll := hR.lsl
  refine hR.out.ix (by omega) (by omega) fun bb hb => ?_
  rw [Int.toNat_natCast, Nat.mul_one, add_mk, Nat.add_zero]
  have hOut := hR.out
  rw [hb] at hOut
  refine hOut.st (by omega) rfl fun w' out' k1 z1 => ?_
  have kk : Keep (fun j => (fun t : Int => t = -5) (o j)) w w' := k1.mono fun j _ hj => hR.outO j ⟨_, hb, (show j = bb from hj).symm⟩
  refine hK w' ⟨blk_K (T := fun t => t = -5) hR.self hR.selfO kk (by decide), hR.selfO, Rp.arK (h := h) (S := S) (T := fun t => t = -5) hR kk (by decide), Rp.trK (h := h) (S := S) (T := fun t => t = -5) hR kk (by decide), hR.trO, own_K (T := fun t => t = -5) hR.oo hR.ooO kk (by decide), hR.ooO, by rw [List.map_set, hb]; exact out', hR.outO, by rw [List.length_set]; exact hhl, by rw [List.length_set]; exact hll,
    fun j y ids hy hj hnj => ?_, fun j y hy t ht => ?_, own_K (T := fun t => t = -5) hR.sh hR.shO kk (by decide), hR.shO, own_K (T := fun t => t = -5) hR.le hR.leO kk (by decide), hR.leO, blk_K (T := fun t => t = -5) hR.bk hR.bkO kk (by decide), hR.bkO, own_K (T := fun t => t = -5) hR.lg hR.lgO kk (by decide), hR.lgO, hR.gll, Rp.glK (h := h) (S := S) (T := fun t => t = -5) hR kk (by decide), Rp.heldK (h := h) (S := S) (T := fun t => t = -5) hR kk (by decide) (by decide), hR.inj, fun j hj => hR.nrm j (by rw [← z1]; exact hj)⟩ kk
  · by_cases hji : j = i
    · subst hji
      rw [List.getElem?_set_self (by omega)] at hy hj
      injection hy with hy; injection hj with hj; subst hy hj
      exact hO.keep kk fun t ht hh => by have := hg t ht; have hh' : o t = -5 := hh; omega
    · rw [List.getElem?_set_ne (fun e => hji e.symm)] at hy hj
      exact Rp.innK (h := h) (S := S) (T := fun t => t = -5) hR (ex' := fun j => ex j ∨ j = i) kk (fun t ht => ⟨ht, fun hh => by omega⟩) j y ids hy hj fun he => by rcases he with he | he; exact hnj he; exact hji he
  · by_cases hji : j = i
    · subst hji
      rw [List.getElem?_set_self (by omega)] at hy
      injection hy with hy; subst hy
      exact ⟨hg t ht, Nat.lt_of_lt_of_le (hO.lt t ht) kk.size⟩
    · rw [List.getElem?_set_ne (fun e => hji e.symm)] at hy
      exact Rp.innOK (h := h) (S := S) (T := fun t => t = -5) hR kk j y hy t ht
end
def Push3 (b hb : Nat) (x42 : Option Addr) (x42n x42c : Nat) (x44 : Option Addr) (x44n x44c : Nat) (l : Int) (W : World) (K : World → Prop) : Prop :=
          (
            cl Try.prog 58 [.int .i64 l] W fun e46 w8 => ∃ x45 : Int, e46 = Ending.returned (.int .i64 x45) ∧
            (
              ldC w8 ((⟨b, 0, none⟩ : Addr).add 4) fun x47 x47n x47c =>
              ((.slice x47 x47n x47c : Value) = .slice x44 x44n x44c)) ∧
            (
              ldC w8 ((⟨b, 0, none⟩ : Addr).add 4) fun x48 x48n x48c =>
              ((.slice x48 x48n x48c : Value) = .slice x42 x42n x42c)) ∧
            (
              cl Try.prog 58 [.int .i64 l] w8 fun e50 w9 => ∃ x49 : Int, e50 = Ending.returned (.int .i64 x49) ∧
              (
                ldC w9 ((⟨b, 0, none⟩ : Addr).add 4) fun x51 x51n x51c =>
                ((.slice x51 x51n x51c : Value) = .slice x44 x44n x44c)) ∧
              (
                ldC w9 ((⟨b, 0, none⟩ : Addr).add 4) fun x52 x52n x52c =>
                ((.slice x52 x52n x52c : Value) = .slice x42 x42n x42c)) ∧
              ixA x44 x44n x49 1 fun p53 =>
              ldC w9 p53 fun x54 x54n x54c =>
              alc w9 [Pt hb] 68 fun b55 w10 =>
              (
                ldC w10 p53 fun x56 x56n x56c =>
                ((.slice x56 x56n x56c : Value) = .slice x54 x54n x54c)) ∧
              (
                ldC w10 ((⟨b, 0, none⟩ : Addr).add 4) fun x57 x57n x57c =>
                ((.slice x57 x57n x57c : Value) = .slice x44 x44n x44c)) ∧
              (
                ldC w10 ((⟨b, 0, none⟩ : Addr).add 4) fun x58 x58n x58c =>
                ((.slice x58 x58n x58c : Value) = .slice x42 x42n x42c)) ∧
              ∃ (x59 : Option Addr) (x59n x59c : Nat), ∃ w11 : World, (Builtin.append_ #[59, 59] 59 #[.slice x54 x54n x54c, .slice (some (⟨b55, 0, none⟩ : Addr)) 1 1]).run Try.prog w10 = .ok (.slice x59 x59n x59c) w11 ∧
              (
                ldC w11 ((⟨b, 0, none⟩ : Addr).add 4) fun x60 x60n x60c =>
                ((.slice x60 x60n x60c : Value) = .slice x42 x42n x42c)) ∧
              ixA x42 x42n x45 1 fun p61 =>
              st w11 (p61.add 0) (.slice x59 x59n x59c) fun w12 =>
              K w12) ∧
            (
              alc w8 [Pt hb] 68 fun b63 w13 =>
              (
                ldC w13 ((⟨b, 0, none⟩ : Addr).add 4) fun x64 x64n x64c =>
                ((.slice x64 x64n x64c : Value) = .slice x44 x44n x44c)) ∧
              (
                ldC w13 ((⟨b, 0, none⟩ : Addr).add 4) fun x65 x65n x65c =>
                ((.slice x65 x65n x65c : Value) = .slice x42 x42n x42c)) ∧
              cl Try.prog 58 [.int .i64 l] w13 fun e67 w14 => ∃ x66 : Int, e67 = Ending.returned (.int .i64 x66) ∧
              (
                ldC w14 ((⟨b, 0, none⟩ : Addr).add 4) fun x68 x68n x68c =>
                ((.slice x68 x68n x68c : Value) = .slice x44 x44n x44c)) ∧
              (
                ldC w14 ((⟨b, 0, none⟩ : Addr).add 4) fun x69 x69n x69c =>
                ((.slice x69 x69n x69c : Value) = .slice x42 x42n x42c)) ∧
              ixA x44 x44n x66 1 fun p70 =>
              ldC w14 p70 fun x71 x71n x71c =>
              ∃ (x72 : Option Addr) (x72n x72c : Nat), ∃ w15 : World, (Builtin.append_ #[59, 59] 59 #[.slice x71 x71n x71c, .slice (some (⟨b63, 0, none⟩ : Addr)) 1 1]).run Try.prog w14 = .ok (.slice x72 x72n x72c) w15 ∧
              (
                ldC w15 ((⟨b, 0, none⟩ : Addr).add 4) fun x73 x73n x73c =>
                ((.slice x73 x73n x73c : Value) = .slice x42 x42n x42c)) ∧
              ixA x42 x42n x45 1 fun p74 =>
              st w15 (p74.add 0) (.slice x72 x72n x72c) fun w16 =>
              K w16)) ∧
          (
            alc W [Pt hb] 68 fun b76 w17 =>
            (
              ldC w17 ((⟨b, 0, none⟩ : Addr).add 4) fun x77 x77n x77c =>
              ((.slice x77 x77n x77c : Value) = .slice x44 x44n x44c)) ∧
            (
              ldC w17 ((⟨b, 0, none⟩ : Addr).add 4) fun x78 x78n x78c =>
              ((.slice x78 x78n x78c : Value) = .slice x42 x42n x42c)) ∧
            cl Try.prog 58 [.int .i64 l] w17 fun e80 w18 => ∃ x79 : Int, e80 = Ending.returned (.int .i64 x79) ∧
            (
              ldC w18 ((⟨b, 0, none⟩ : Addr).add 4) fun x81 x81n x81c =>
              ((.slice x81 x81n x81c : Value) = .slice x44 x44n x44c)) ∧
            (
              ldC w18 ((⟨b, 0, none⟩ : Addr).add 4) fun x82 x82n x82c =>
              ((.slice x82 x82n x82c : Value) = .slice x42 x42n x42c)) ∧
            cl Try.prog 58 [.int .i64 l] w18 fun e84 w19 => ∃ x83 : Int, e84 = Ending.returned (.int .i64 x83) ∧
            (
              ldC w19 ((⟨b, 0, none⟩ : Addr).add 4) fun x85 x85n x85c =>
              ((.slice x85 x85n x85c : Value) = .slice x44 x44n x44c)) ∧
            (
              ldC w19 ((⟨b, 0, none⟩ : Addr).add 4) fun x86 x86n x86c =>
              ((.slice x86 x86n x86c : Value) = .slice x42 x42n x42c)) ∧
            ixA x44 x44n x83 1 fun p87 =>
            ldC w19 p87 fun x88 x88n x88c =>
            ∃ (x89 : Option Addr) (x89n x89c : Nat), ∃ w20 : World, (Builtin.append_ #[59, 59] 59 #[.slice x88 x88n x88c, .slice (some (⟨b76, 0, none⟩ : Addr)) 1 1]).run Try.prog w19 = .ok (.slice x89 x89n x89c) w20 ∧
            (
              ldC w20 ((⟨b, 0, none⟩ : Addr).add 4) fun x90 x90n x90c =>
              ((.slice x90 x90n x90c : Value) = .slice x42 x42n x42c)) ∧
            ixA x42 x42n x79 1 fun p91 =>
            st w20 (p91.add 0) (.slice x89 x89n x89c) fun w21 =>
            K w21)
def tPush (i : Nat) (t : Int) : Prop := t = -5 ∨ t = i
theorem push3 {ex : Nat → Prop} {w : World} {b : Nat} {o : Nat → Int} {h : Hs} {S : ES} (hR : Rp ex w b o h S) (hnv : S.nv ≤ 1048576) {l : Int} (hl : Wi S.nv l) {ids : List Nat} (hids : S.lists[idxN l]? = some ids) (hne : ¬ ex (idxN l)) (hlen : ids.length ≤ 17592186044415) {k : Nat}
    {K : World → Prop} (hK : ∀ w', Nx (tPush (idxN l)) ex w b o h { S with lists := S.lists.set (idxN l) (ids ++ [k]) } w' → K w') :
    Push3 b (h.hb k) h.ll.1 h.ll.2.1 h.ll.2.2 h.ll.1 h.ll.2.1 h.ll.2.2 l w K := by
  have hi := idxN_lt hl
  obtain ⟨x, hx⟩ := getE (show idxN l < h.hh.length by rw [hR.hhl]; exact hi)
  have hfl := wi_fl hnv hl
  have eix := idxN_eq hnv hl
  -- the end, behind the new cell
  have fin : ∀ (W : World) (bb : Nat), Keep None w W → Blk W bb [Pt (h.hb k)] 68 →
      ∃ (x59 : Option Addr) (x59n x59c : Nat), ∃ w11 : World, (Builtin.append_ #[59, 59] 59 #[.slice x.1 x.2.1 x.2.2, .slice (some (⟨bb, 0, none⟩ : Addr)) 1 1]).run Try.prog W = .ok (.slice x59 x59n x59c) w11 ∧
        (ldC w11 ((⟨b, 0, none⟩ : Addr).add 4) fun x60 x60n x60c => ((.slice x60 x60n x60c : Value) = .slice h.ll.1 h.ll.2.1 h.ll.2.2)) ∧
        ixA h.ll.1 h.ll.2.1 (idx l) 1 fun p61 => st w11 (p61.add 0) (.slice x59 x59n x59c) fun w12 => K w12 := by
    intro W bb kW hB
    have hRW := hR.keep0 kW
    refine appH hRW hx hids hne hlen hB fun g w' o' hR' ha hO hg kk => ⟨?_, ?_⟩
    · rw [add_mk]
      exact ldC_of (x := h.ll.1) (n := h.ll.2.1) (c := h.ll.2.2) (hR'.self.cell 4) rfl
    · rw [eix]
      refine setOut hR' hi hO hg fun w3 hR3 k3 => hK w3 ⟨o', _, hR3, ?_, ?_, rfl⟩
      · exact fun j hj => ha j (Nat.lt_of_lt_of_le hj kW.size)
      · have k1 : Keep (fun j => tPush (idxN l) (o j)) w w' := (Keep.none (S := fun j => tPush (idxN l) (o j)) kW).trans kk fun j _ hh => Or.inr hh
        exact k1.trans k3 fun j hj hh => by
          have := ha j (Nat.lt_of_lt_of_le hj kW.size)
          rw [this] at hh
          exact Or.inl hh
  have sv4 : ∀ {V : World}, Keep None w V → ∀ {K : Option Addr → Nat → Nat → Prop}, K h.ll.1 h.ll.2.1 h.ll.2.2 → ldC V ((⟨b, 0, none⟩ : Addr).add 4) K := fun hk K hK => by
    rw [add_mk]
    exact ldC_of (x := h.ll.1) (n := h.ll.2.1) (c := h.ll.2.2) ((hR.self.keep0 hk).cell 4) hK
  unfold Push3
  refine ⟨?_, ?_⟩
  · refine cl_of ok58 (indexP hfl) fun e w8 ⟨he, k8⟩ => ⟨_, he, sv4 k8 rfl, sv4 k8 rfl, ?_, ?_⟩
    · refine cl_of ok58 (indexP hfl) fun e w9 ⟨he, k9⟩ => ⟨_, he, ?_⟩
      have k89 := k8.then0 k9
      refine ⟨sv4 k89 rfl, sv4 k89 rfl, ?_⟩
      rw [eix]
      refine (hR.keep0 k89).outAt hx fun a ha => ldC_of (x := x.1) (n := x.2.1) (c := x.2.2) ha ?_
      refine alc_at fun bb w10 hbb hB k10 => ?_
      have k810 := k89.then0 k10
      refine ⟨ldC_of (x := x.1) (n := x.2.1) (c := x.2.2) (k10.cell ha fun h => h) rfl, sv4 k810 rfl, sv4 k810 rfl, ?_⟩
      have := fin w10 bb k810 hB
      rw [eix] at this
      exact this
    · refine alc_at fun bb w13 hbb hB k13 => ?_
      have k813 := k8.then0 k13
      refine ⟨sv4 k813 rfl, sv4 k813 rfl, ?_⟩
      refine cl_of ok58 (indexP hfl) fun e w14 ⟨he, k14⟩ => ⟨_, he, ?_⟩
      have k814 := k813.then0 k14
      refine ⟨sv4 k814 rfl, sv4 k814 rfl, ?_⟩
      rw [eix]
      refine (hR.keep0 k814).outAt hx fun a ha => ldC_of (x := x.1) (n := x.2.1) (c := x.2.2) ha ?_
      have := fin w14 bb k814 (hB.keep0 k14)
      rw [eix] at this
      exact this
  · refine alc_at fun bb w17 hbb hB k17 => ?_
    refine ⟨sv4 k17 rfl, sv4 k17 rfl, ?_⟩
    refine cl_of ok58 (indexP hfl) fun e w18 ⟨he, k18⟩ => ⟨_, he, ?_⟩
    have k178 := k17.then0 k18
    refine ⟨sv4 k178 rfl, sv4 k178 rfl, ?_⟩
    refine cl_of ok58 (indexP hfl) fun e w19 ⟨he, k19⟩ => ⟨_, he, ?_⟩
    have k179 := k178.then0 k19
    refine ⟨sv4 k179 rfl, sv4 k179 rfl, ?_⟩
    rw [eix]
    refine (hR.keep0 k179).outAt hx fun a ha => ldC_of (x := x.1) (n := x.2.1) (c := x.2.2) ha ?_
    have := fin w19 bb k179 ((hB.keep0 k18).keep0 k19)
    rw [eix] at this
    exact this
end Go.Proofs.Ytmhjehodfggleaa.Eng

/- An Engine in memory: how a literal stands, a clause's other watched literal, a literal put. -/
set_option linter.unusedVariables false
set_option linter.unusedSimpArgs false
set_option linter.unusedSectionVars false
set_option maxRecDepth 100000
namespace Go.Proofs.Ytmhjehodfggleaa.Eng
open Go Go.Proofs.Ytmhjehodfggleaa.Vc Go.Proofs.Ytmhjehodfggleaa.T
open Go.Proofs.Ytmhjehodfggleaa.Apart (RdL own_rdl wrap_nat getE own_len take_snoc Sl sv New)
open Go.Proofs.Ytmhjehodfggleaa.Lits (fl fl_iff Ans ans_of formedP idx idx_range idx_inj indexP)
open Go.Proofs.Ytmhjehodfggleaa.Arn (Ar AR)
open Go.Proofs.Ytmhjehodfggleaa.Trail (TI Tr St valA levA reaA ownB Moved TLaid above upto freeA implA Open)

section
variable {ex : Nat → Prop} {w w' : World} {b : Nat} {o : Nat → Int} {h : Hs} {S : ES}
theorem Rp.nv (hR : Rp ex w b o h S) : S.nv ≤ 1048576 := hR.tr.small.1
theorem Rp.trAt (hR : Rp ex w b o h S) {K : Option Addr → Prop} (hK : K (some ⟨h.T.t, 0, none⟩)) : nn (some ⟨b, 0, none⟩) fun p => ldP w (p.add 2) K :=
  nn_of (ldP_of (x := some ⟨h.T.t, 0, none⟩) (by rw [add_mk]; exact hR.self.cell 2) hK)
/-- how a literal stands, asked -/
theorem Rp.val (hR : Rp ex w b o h S) {l : Int} (hl : -9223372036854775808 ≤ l) {R : Ending → World → Prop} (hK : ∀ w', Keep None w w' → R (.returned (J8 (vl S l))) w') : cl Try.prog 31 [Pt h.T.t, I l] w R :=
  cl_of ok31 (hR.tr.value l hl) fun e w' ⟨he, k⟩ => by subst he; exact hK w' k
theorem other64 (hR : Rp ex w b o h S) {k : Nat} {d : Hd} (hd : S.H[k]? = some d) (l : Int) :
    Calls Try.prog 64 #[Pt (h.hb k), I l] w fun e w' => e = .returned (I (other d l)) ∧ w' = w := by
  refine (V64_calls (some ⟨h.hb k, 0, none⟩) l w (fun v w' => v = I (other d l) ∧ w' = w) ?_).mono fun e w' ⟨v, he, hv, hk⟩ => ⟨by rw [he, hv], hk⟩
  unfold V64
  obtain ⟨hB, _⟩ := hR.held k d hd
  have a0 : ∀ {K : Addr → Prop}, K ⟨h.hb k, 2, none⟩ → ixA (some ((⟨h.hb k, 0, none⟩ : Addr).add 2)) 2 0 1 K := fun hK => by
    rw [add_mk]; exact ixA_of (by decide) (by decide) hK
  have a1 : ∀ {K : Addr → Prop}, K ⟨h.hb k, 3, none⟩ → ixA (some ((⟨h.hb k, 0, none⟩ : Addr).add 2)) 2 1 1 K := fun hK => by
    rw [add_mk]; exact ixA_of (by decide) (by decide) hK
  refine nn_of (a0 (ldI_of (x := d.e0) (hB.cell 2) ?_))
  refine pif_of (fun hq => nn_of (a1 (ldI_of (x := d.e1) (hB.cell 3) ⟨?_, rfl⟩))) fun hq => nn_of (a0 (ldI_of (x := d.e0) (hB.cell 2) ⟨?_, rfl⟩))
  · have : d.e0 = l := by simpa using hq
    unfold other; rw [if_pos this]
  · have : ¬ d.e0 = l := by simpa using hq
    unfold other; rw [if_neg this]
end
/-- a literal made true for the reason of a clause -/
def putS (S : ES) (l r : Int) : ES := { S with R := S.R ++ [⟨l, S.L.length, r⟩] }
def tPutE (t : Int) : Prop := t = -1 ∨ t = -3 ∨ t = -4
theorem put48 {ex : Nat → Prop} {w : World} {b : Nat} {o : Nat → Int} {h : Hs} {S : ES} (hR : Rp ex w b o h S) {k : Nat} {d : Hd} (hd : S.H[k]? = some d) (hat : 0 ≤ d.at_) {l : Int} (hl : -9223372036854775808 ≤ l) (hf : freeA S.nv S.R l = 0) :
    Calls Try.prog 48 #[Pt b, I l, Pt (h.hb k)] w fun e w' => e = .returned (.tuple #[]) ∧ Nx tPutE ex w b o h (putS S l d.at_) w' := by
  refine (V48_calls (some ⟨b, 0, none⟩) l (some ⟨h.hb k, 0, none⟩) w (fun v w' => v = .tuple #[] ∧ Nx tPutE ex w b o h (putS S l d.at_) w') ?_).mono fun e w' ⟨v, he, hv, hk⟩ => ⟨by rw [he, hv], hk⟩
  unfold V48
  have kd : Keep None w w.drew := (Keep.refl _ _).drew
  have hRd := hR.keep0 kd
  have zd : w.drew.heap.size = w.heap.size := rfl
  obtain ⟨hB, _⟩ := hRd.held k d hd
  have hsm := hR.tr.small
  have hi0 : implA S.nv S.R l d.at_ = 0 := by unfold implA; rw [if_pos hf, if_neg (by omega)]
  refine hRd.trAt (nn_of (ldI_of (x := d.at_) (by rw [add_mk]; exact hB.cell 0) ?_))
  refine cl_of ok76 (hRd.tr.imply l d.at_ hl) fun e w1 ⟨he, k1, T', hmv, hT1⟩ => ⟨_, he, ?_⟩
  rw [hi0, if_pos rfl] at hT1
  have z1 := k1.size
  have kt1 : Keep (fun j => (fun t : Int => t = -3) (o j)) w.drew w1 := k1.mono fun j _ hj => hR.trO j hj
  have hself1 := blk_K (T := fun t => t = -3) hRd.self hR.selfO kt1 (by decide)
  have hoo1 := own_K (T := fun t => t = -3) hRd.oo hR.ooO kt1 (by decide)
  have hool := own_len hR.oo
  rw [List.length_map] at hool
  refine nn_of (ldC_of (x := h.oo.1) (n := h.oo.2.1) (c := h.oo.2.2) (by rw [add_mk]; exact hself1.cell 3) ?_)
  refine alc_at fun b10 w2 hb10 hB10 k2 => ?_
  have z2 := k2.size
  refine app_of2 (e := 3) (sz := 1) (z := I 0) (B := 8) Try.underlying26 (by kernel_rfl) rfl (by omega) (hoo1.keep0 k2) hB10.news1 (fun u hu => ?_) (by simp only [maxLen]; omega) (by omega) fun p' c' w3 hO3 hd3 => ?_
  · simp only [List.mem_singleton] at hu; subst hu; rfl
  have kt3 : Keep (fun j => (fun t : Int => t = -4) (o j)) w2 w3 := by
    rcases hd3 with ⟨_, _, _, kk⟩ | ⟨_, kk⟩
    · exact kk.mono fun j _ hj => hR.ooO j hj
    · exact kk.none
  have z3 := kt3.size
  have hself3 := blk_K (T := fun t => t = -4) (hself1.keep0 k2) hR.selfO kt3 (by decide)
  have hbl : b < w.heap.size := hR.self.lt
  refine nn_of ?_
  rw [add_mk, add_mk]
  refine st_of hself3 (by simp) rfl fun w4 hself4 k4 z4 => ⟨rfl, ?_⟩
  have kall : Keep (fun j => tPutE (o j)) w w4 := ((((kd.none (S := fun j => tPutE (o j))).trans kt1 fun j _ hh => Or.inr (Or.inl hh)).then0 k2).trans kt3 fun j _ hh => Or.inr (Or.inr hh)).trans k4 fun j _ hh => by
    have hj : j = b := hh
    show tPutE (o j)
    rw [hj, hR.selfO]; exact Or.inl rfl
  have pcase : ∀ j, ob p' j → (j < w.heap.size ∧ o j = -4) ∨ w2.heap.size ≤ j := fun j hj => by
    rcases hd3 with ⟨e, _, _, _⟩ | ⟨e, _⟩
    · rw [e] at hj; exact Or.inl ⟨hR.oo.lt j hj, hR.ooO j hj⟩
    · exact Or.inr (e j hj)
  have hF : ∀ j, T'.F j → (j < w.heap.size ∧ o j = -3) ∨ (w.heap.size ≤ j ∧ j < w1.heap.size) := fun j hj => by
    rcases hmv.2 j hj with h1 | h1
    · exact Or.inl ⟨hR.tr.lt j h1, hR.trO j h1⟩
    · exact Or.inr ⟨by omega, hT1.lt j hj⟩
  have hO4 : Own w4 3 1 p' (h.oo.2.1 + 1) c' (((putS S l d.at_).R.map fun e : E => e.lit).map I) := by
    have e1 : ((putS S l d.at_).R.map fun e : E => e.lit).map I = (S.R.map fun e => e.lit).map I ++ [I l] := by simp [putS]
    rw [e1]
    refine hO3.keep k4 fun j hj hh => ?_
    have hjb : j = b := hh
    rcases pcase j hj with h1 | h1
    · rw [hjb, hR.selfO] at h1; exact absurd h1.2 (by decide)
    · omega
  have hT4 : Tr S.nv w4 T' (S.R ++ [⟨l, S.L.length, d.at_⟩]) S.L := by
    refine ((hT1.keep0 k2).keep kt3 fun j hj hh => ?_).keep k4 fun j hj hh => ?_
    · have hh' : o j = -4 := hh
      rcases hF j hj with h1 | h1
      · rw [h1.2] at hh'; exact absurd hh' (by decide)
      · rw [hR.nrm j h1.1] at hh'; exact absurd hh' (by decide)
    · have hjb : j = b := hh
      rcases hF j hj with h1 | h1
      · rw [hjb, hR.selfO] at h1; exact absurd h1.2 (by decide)
      · omega
  have eT : T'.t = h.T.t := hmv.1
  -- the new tags
  have lo : ∀ {j : Nat}, o j ≠ -9 → j < w.heap.size := fun {j} hj => by
    apply Classical.byContradiction
    intro hn
    exact hj (hR.nrm j (by omega))
  have nT : ∀ {t : Int}, t ≠ -1 → t ≠ -3 → t ≠ -4 → ¬ tPutE t := fun a b c hh => by rcases hh with h | h | h; exact a h; exact b h; exact c h
  let o' : Nat → Int := fun j => if j < w.heap.size then o j else if j < w1.heap.size then -3 else if j < w4.heap.size then -4 else -9
  have e0 : ∀ {j : Nat} {t : Int}, t ≠ -9 → o j = t → o' j = t := fun {j} {t} hne hj => by
    show (if j < w.heap.size then o j else _) = t
    rw [if_pos (lo (by rw [hj]; exact hne))]; exact hj
  have hself4' : Blk w4 b [I (putS S l d.at_).nv, Pt h.st, Pt T'.t, sv (p', h.oo.2.1 + 1, c'), sv h.ll, sv h.ss, sv h.le, .iface 55 (Pt h.bk), I S.head, .bool S.rest, .bool S.clash, .bool S.dead, I S.bad] 64 := by
    rw [eT]; exact hself4
  have har := hR.arK (T := tPutE) kall (nT (by decide) (by decide) (by decide))
  have hgl := hR.glK (T := tPutE) kall (nT (by decide) (by decide) (by decide))
  have hhd := hR.heldK (T := tPutE) kall (nT (by decide) (by decide) (by decide)) (nT (by decide) (by decide) (by decide))
  refine ⟨o', { h with T := T', oo := (p', h.oo.2.1 + 1, c') }, ⟨hself4', e0 (by decide) hR.selfO, ar_grow har (fun i hi => ⟨e0 (by decide) hi.1, hi.2⟩) (fun i hi => hi.2), hT4, fun j hj => ?_, hO4, fun j hj => ?_,
    own_K (T := tPutE) hR.out hR.outO kall (nT (by decide) (by decide) (by decide)), fun j hj => e0 (by decide) (hR.outO j hj), hR.hhl, hR.lsl,
    hR.innK (T := tPutE) kall (fun i hi => ⟨hi, nT (by omega) (by omega) (by omega)⟩), fun i x hx j hj => ⟨e0 (by omega) (hR.innOK (T := tPutE) kall i x hx j hj).1, (hR.innOK (T := tPutE) kall i x hx j hj).2⟩,
    own_K (T := tPutE) hR.sh hR.shO kall (nT (by decide) (by decide) (by decide)), fun j hj => e0 (by decide) (hR.shO j hj), own_K (T := tPutE) hR.le hR.leO kall (nT (by decide) (by decide) (by decide)), fun j hj => e0 (by decide) (hR.leO j hj),
    blk_K (T := tPutE) hR.bk hR.bkO kall (nT (by decide) (by decide) (by decide)), e0 (by decide) hR.bkO, own_K (T := tPutE) hR.lg hR.lgO kall (nT (by decide) (by decide) (by decide)), fun j hj => e0 (by decide) (hR.lgO j hj), hR.gll,
    fun i x y hx hy => ⟨(hgl i x y hx hy).1, fun j hj => ⟨e0 (by decide) ((hgl i x y hx hy).2 j hj).1, ((hgl i x y hx hy).2 j hj).2⟩⟩,
    fun i d' hd' => by
      obtain ⟨h1, h2, h3, h4⟩ := hhd i d' hd'
      exact ⟨h1, e0 (by decide) h2, h3, fun j hj => ⟨e0 (by decide) (h4 j hj).1, (h4 j hj).2⟩⟩, hR.inj, fun j hj => ?_⟩, fun j hj => if_pos hj, kall, rfl⟩
  · show (if j < w.heap.size then o j else if j < w1.heap.size then -3 else if j < w4.heap.size then -4 else -9) = -3
    rcases hF j hj with h1 | h1
    · rw [if_pos h1.1]; exact h1.2
    · rw [if_neg (by omega), if_pos h1.2]
  · show (if j < w.heap.size then o j else if j < w1.heap.size then -3 else if j < w4.heap.size then -4 else -9) = -4
    have := hO4.lt j hj
    rcases pcase j hj with h1 | h1
    · rw [if_pos h1.1]; exact h1.2
    · rw [if_neg (by omega), if_neg (by omega), if_pos (by omega)]
  · show (if j < w.heap.size then o j else if j < w1.heap.size then -3 else if j < w4.heap.size then -4 else -9) = -9
    rw [if_neg (by omega), if_neg (by omega), if_neg (by omega)]
end Go.Proofs.Ytmhjehodfggleaa.Eng

/- An Engine in memory: watched literals written down; a clause moved to another list. -/
set_option linter.unusedVariables false
set_option linter.unusedSimpArgs false
set_option linter.unusedSectionVars false
set_option maxRecDepth 100000
namespace Go.Proofs.Ytmhjehodfggleaa.Eng
open Go Go.Proofs.Ytmhjehodfggleaa.Vc Go.Proofs.Ytmhjehodfggleaa.T
open Go.Proofs.Ytmhjehodfggleaa.Apart (RdL own_rdl wrap_nat getE own_len take_snoc Sl sv New)
open Go.Proofs.Ytmhjehodfggleaa.Lits (fl fl_iff Ans ans_of formedP idx idx_range idx_inj indexP)
open Go.Proofs.Ytmhjehodfggleaa.Arn (Ar AR)
open Go.Proofs.Ytmhjehodfggleaa.Trail (TI Tr St valA levA reaA ownB Moved TLaid above upto freeA implA Open)

section
variable {ex : Nat → Prop} {w w' : World} {b : Nat} {o : Nat → Int} {h : Hs} {S : ES}
/-- a held clause written down anew -/
theorem Rp.setHeld (hR : Rp ex w b o h S) {k : Nat} {d d' : Hd} (hd : S.H[k]? = some d) (hls : d'.ls = d.ls) (hk : Keep (One (h.hb k)) w w') (hB : Blk w' (h.hb k) [I d'.at_, sv (h.hl k), I d'.e0, I d'.e1, .bool d'.gone] 71) (hs : w'.heap.size = w.heap.size) : Rp ex w' b o h { S with H := S.H.set k d' } := by
  obtain ⟨_, h2, _, _⟩ := hR.held k d hd
  have hkl := (List.getElem?_eq_some_iff.1 hd).1
  have kk : Keep (fun j => (fun t : Int => t = -12) (o j)) w w' := hk.mono fun j _ hj => by rw [show j = h.hb k from hj]; exact h2
  refine ⟨blk_K (T := fun t => t = -12) hR.self hR.selfO kk (by decide), hR.selfO, Rp.arK (h := h) (S := S) (T := fun t => t = -12) hR kk (by decide), Rp.trK (h := h) (S := S) (T := fun t => t = -12) hR kk (by decide), hR.trO, own_K (T := fun t => t = -12) hR.oo hR.ooO kk (by decide), hR.ooO, own_K (T := fun t => t = -12) hR.out hR.outO kk (by decide), hR.outO, hR.hhl, hR.lsl,
    Rp.innK (h := h) (S := S) (T := fun t => t = -12) hR kk (fun i hi => ⟨hi, by omega⟩), Rp.innOK (h := h) (S := S) (T := fun t => t = -12) hR kk, own_K (T := fun t => t = -12) hR.sh hR.shO kk (by decide), hR.shO, own_K (T := fun t => t = -12) hR.le hR.leO kk (by decide), hR.leO, blk_K (T := fun t => t = -12) hR.bk hR.bkO kk (by decide), hR.bkO, own_K (T := fun t => t = -12) hR.lg hR.lgO kk (by decide), hR.lgO, hR.gll,
    Rp.glK (h := h) (S := S) (T := fun t => t = -12) hR kk (by decide), fun i d2 hd2 => ?_, fun i j hi hj => hR.inj i j (by simpa using hi) (by simpa using hj), fun j hj => hR.nrm j (by rw [← hs]; exact hj)⟩
  have hd2' : (S.H.set k d')[i]? = some d2 := hd2
  rw [List.getElem?_set] at hd2'
  by_cases hki : k = i
  · subst hki
    rw [if_pos rfl, if_pos hkl] at hd2'
    injection hd2' with hd2'
    subst hd2'
    obtain ⟨_, _, h3, h4⟩ := hR.held k d hd
    exact ⟨hB, h2, by rw [hls]; exact h3.keep kk (fun j hj hh => by have hh' : o j = -12 := hh; rw [(h4 j hj).1] at hh'; exact absurd hh' (by decide)), fun j hj => ⟨(h4 j hj).1, by rw [hs]; exact (h4 j hj).2⟩⟩
  · rw [if_neg hki] at hd2'
    obtain ⟨g1, g2, g3, g4⟩ := hR.held i d2 hd2'
    have hil := (List.getElem?_eq_some_iff.1 hd2').1
    exact ⟨g1.keep hk fun hh => hki (hR.inj k i hkl hil (show h.hb k = h.hb i from hh.symm)), g2, g3.keep kk (fun j hj hh => by have hh' : o j = -12 := hh; rw [(g4 j hj).1] at hh'; exact absurd hh' (by decide)), fun j hj => ⟨(g4 j hj).1, by rw [hs]; exact (g4 j hj).2⟩⟩
/-- the two watched literals written down -/
theorem setEyes (hR : Rp ex w b o h S) {k : Nat} {d : Hd} (hd : S.H[k]? = some d) {x y : Int} {K : World → Prop}
    (hK : ∀ w', Rp ex w' b o h { S with H := S.H.set k { d with e0 := x, e1 := y } } → Keep (fun j => o j = -12) w w' → w'.heap.size = w.heap.size → K w') :
    nn (some ⟨h.hb k, 0, none⟩) fun p => Vc.st w ((p.add 2).add 0) (.int .i64 x) fun w8 => Vc.st w8 ((p.add 2).add 1) (.int .i64 y) K := by
  obtain ⟨hB, h2, _, _⟩ := hR.held k d hd
  refine nn_of ?_
  rw [add_mk, add_mk, add_mk]
  refine st_of hB (by simp) rfl fun w1 hB1 k1 z1 => ?_
  refine st_of hB1 (by simp) rfl fun w2 hB2 k2 z2 => ?_
  have kk : Keep (One (h.hb k)) w w2 := k1.trans k2 fun _ _ h => h
  exact hK w2 (hR.setHeld (d' := { d with e0 := x, e1 := y }) hd rfl kk hB2 (by rw [z2, z1])) (kk.mono fun j _ hj => by rw [show j = h.hb k from hj]; exact h2) (by rw [z2, z1])
end
/-- the literal to which a clause's watch goes on -/
def goal (S : ES) (d : Hd) (l : Int) : Option Int :=
  if 0 < vl S (other d l) then none else d.ls.find? fun x => decide (x ≠ other d l) && (decide (x ≠ l) && decide (0 ≤ vl S x))
def moveS (S : ES) (k : Nat) (d : Hd) (l x : Int) : ES := { S with H := S.H.set k { d with e0 := other d l, e1 := x }, lists := S.lists.set (idxN x) ((S.lists[idxN x]?.getD []) ++ [k]) }
def tMove (i : Nat) (t : Int) : Prop := t = -5 ∨ t = -12 ∨ t = i
theorem moved63 {ex : Nat → Prop} {w : World} {b : Nat} {o : Nat → Int} {h : Hs} {S : ES} (hR : Rp ex w b o h S) {k : Nat} {d : Hd} (hd : S.H[k]? = some d) {l : Int} (hl : -9223372036854775808 ≤ l) (ho : -9223372036854775808 ≤ other d l) (hw : ∀ x ∈ d.ls, Wi S.nv x) (hdl : d.ls.length ≤ 17592186044416)
    (hls : ∀ (i : Nat) (ids : List Nat), S.lists[i]? = some ids → ids.length ≤ 17592186044415) (hex : ∀ x ∈ d.ls, x ≠ l → ¬ ex (idxN x)) :
    Calls Try.prog 63 #[Pt b, Pt (h.hb k), I l] w fun e w' =>
      (e = .returned (.bool false) ∧ goal S d l = none ∧ Keep None w w') ∨ ∃ x, e = .returned (.bool true) ∧ goal S d l = some x ∧ x ∈ d.ls ∧ x ≠ l ∧ Nx (tMove (idxN x)) ex w b o h (moveS S k d l x) w' := by
  refine (V63_calls (some ⟨b, 0, none⟩) (some ⟨h.hb k, 0, none⟩) l w (fun v w' => (v = .bool false ∧ goal S d l = none ∧ Keep None w w') ∨ ∃ x, v = .bool true ∧ goal S d l = some x ∧ x ∈ d.ls ∧ x ≠ l ∧ Nx (tMove (idxN x)) ex w b o h (moveS S k d l x) w') ?_).mono fun e w' ⟨v, he, hk⟩ => ?_
  rotate_left
  · rcases hk with ⟨rfl, hk⟩ | ⟨x, rfl, hk⟩
    · exact Or.inl ⟨he, hk⟩
    · exact Or.inr ⟨x, he, hk⟩
  unfold V63
  have hnv := hR.nv
  refine cl_of ok64 (other64 hR hd l) fun e w1 ⟨he, hw1⟩ => ⟨_, he, ?_⟩
  subst hw1
  refine hR.trAt (hR.val ho fun w2 k2 => ⟨_, rfl, ?_⟩)
  by_cases hpos : 0 < vl S (other d l)
  · exact pif_t (decide_eq_true hpos) (Or.inl ⟨rfl, by unfold goal; rw [if_pos hpos], k2⟩)
  refine pif_f (decide_eq_false hpos) ?_
  have hg : goal S d l = d.ls.find? fun x => decide (x ≠ other d l) && (decide (x ≠ l) && decide (0 ≤ vl S x)) := by unfold goal; rw [if_neg hpos]
  obtain ⟨hB, _, hRd, hdo⟩ := (hR.keep0 k2).held k d hd
  have hdn := hRd.len
  refine nn_of (ldC_of (x := (h.hl k).1) (n := (h.hl k).2.1) (c := (h.hl k).2.2) (by rw [add_mk]; exact hB.cell 1) ?_)
  refine lp_of (fun s W => ∃ i : Nat, s.1 = i ∧ i ≤ (h.hl k).2.1 ∧ Keep None w1 W ∧ ∀ x ∈ d.ls.take i, (decide (x ≠ other d l) && (decide (x ≠ l) && decide (0 ≤ vl S x))) = false) (fun s _ => ((h.hl k).2.1 - s.1).toNat) ⟨0, rfl, Nat.zero_le _, k2, fun x hx => by simp at hx⟩ ?_
  rintro ⟨i', ⟨⟩⟩ W ⟨i, hi', hi, kW, hv⟩
  dsimp only at hi' ⊢
  subst hi'
  refine pif_of (fun hlt => ?_) fun hge => ?_
  · have hlt : i < (h.hl k).2.1 := by simpa using hlt
    rw [wrap_nat i (by omega)]
    have hRW := hR.keep0 kW
    obtain ⟨hBW, _, hRdW, _⟩ := hRW.held k d hd
    refine hRdW.ix hlt fun a x hx ha => ldI_of ha ?_
    have hxm := List.mem_of_getElem? hx
    have hxw := hw x hxm
    have step : ∀ {W2 : World}, Keep None w1 W2 → (decide (x ≠ other d l) && (decide (x ≠ l) && decide (0 ≤ vl S x))) = false →
        ((∃ i1 : Nat, ((i + 1 : Nat) : Int) = i1 ∧ i1 ≤ (h.hl k).2.1 ∧ Keep None w1 W2 ∧ ∀ y ∈ d.ls.take i1, (decide (y ≠ other d l) && (decide (y ≠ l) && decide (0 ≤ vl S y))) = false) ∧ (((h.hl k).2.1 : Int) - ((i + 1 : Nat) : Int)).toNat < (((h.hl k).2.1 : Int) - (i : Int)).toNat) := fun {W2} k2 hx0 => by
      refine ⟨⟨i + 1, rfl, hlt, k2, fun y hy => ?_⟩, by omega⟩
      rw [take_snoc hx] at hy
      rcases List.mem_append.1 hy with hy | hy
      · exact hv y hy
      · rw [List.mem_singleton.1 hy]; exact hx0
    by_cases hc : x ≠ other d l ∧ x ≠ l
    · have ec : (cond (x != other d l) (x != l) false) = true := by
        have h1 : (x != other d l) = true := by simpa using hc.1
        have h2 : (x != l) = true := by simpa using hc.2
        rw [h1, h2]; rfl
      rw [ec]
      refine gd_t rfl (nn_of (gd_t rfl (ldP_of (x := some ⟨h.T.t, 0, none⟩) (by rw [add_mk]; exact hRW.self.cell 2) (gd_t rfl ?_))))
      refine hRW.val (by have := hxw.2.1; omega) fun W2 kW2 => ⟨_, rfl, ?_⟩
      have kk2 := kW.then0 kW2
      by_cases hge0 : 0 ≤ vl S x
      · refine pif_t (by rw [decide_eq_true hge0]; rfl) ?_
        have hR2 := hR.keep0 kk2
        have hgoal : goal S d l = some x := by
          rw [hg]
          have e1 : d.ls = d.ls.take i ++ x :: d.ls.drop (i + 1) := by
            obtain ⟨q1, q2⟩ := List.getElem?_eq_some_iff.1 hx
            rw [← q2, ← List.drop_eq_getElem_cons q1, List.take_append_drop]
          rw [e1, List.find?_append]
          have e2 : (d.ls.take i).find? (fun x => decide (x ≠ other d l) && (decide (x ≠ l) && decide (0 ≤ vl S x))) = none := by
            rw [List.find?_eq_none]
            intro y hy; rw [hv y hy]; decide
          have e3 : (decide (x ≠ other d l) && (decide (x ≠ l) && decide (0 ≤ vl S x))) = true := by
            rw [decide_eq_true hc.1, decide_eq_true hc.2, decide_eq_true hge0]; rfl
          rw [e2, Option.none_or, List.find?_cons, e3]
        refine setEyes hR2 hd fun w9 hR9 k9 z9 => ?_
        have hR9d := hR9.keep0 (Keep.refl _ _).drew
        have hb9 := hR9d.self
        refine nn_of (ldC_of (x := h.ll.1) (n := h.ll.2.1) (c := h.ll.2.2) (by rw [add_mk]; exact hb9.cell 4) (nn_of (ldC_of (x := h.ll.1) (n := h.ll.2.1) (c := h.ll.2.2) (by rw [add_mk]; exact hb9.cell 4) ?_)))
        have hil := idxN_lt hxw
        obtain ⟨ids, hids⟩ := getE (show idxN x < S.lists.length by rw [hR.lsl]; exact hil)
        have hP := push3 hR9d hnv hxw (k := k) hids (hex x hxm hc.2) (hls _ _ hids) (K := fun w' => (Value.bool true = .bool false ∧ goal S d l = none ∧ Keep None w1 w') ∨ ∃ x, Value.bool true = .bool true ∧ goal S d l = some x ∧ x ∈ d.ls ∧ x ≠ l ∧ Nx (tMove (idxN x)) ex w1 b o h (moveS S k d l x) w') fun w10 ⟨o', h', hR10, ha, k10, hh⟩ => Or.inr ⟨x, rfl, hgoal, hxm, hc.2, o', h', ?_, ?_, ?_, hh⟩
        · exact hP
        · have e1 : (S.lists[idxN x]?.getD []) = ids := by rw [hids]; rfl
          unfold moveS
          rw [e1]
          exact hR10
        · exact fun j hj => by rw [ha j (by have : w9.drew.heap.size = w9.heap.size := rfl
                                            have := kk2.size; omega)]
        · refine ((kk2.none (S := fun j => tMove (idxN x) (o j))).trans (k9.drew) fun j _ hj => Or.inr (Or.inl hj)).trans k10 fun j _ hj => ?_
          rcases hj with hj | hj
          · exact Or.inl hj
          · exact Or.inr (Or.inr hj)
      · refine pif_f (by rw [decide_eq_false hge0]; rfl) ?_
        exact step kk2 (by rw [decide_eq_false hge0]; simp)
    · have ec : (cond (x != other d l) (x != l) false) = false := by
        by_cases h1 : x = other d l
        · have : (x != other d l) = false := by simpa using h1
          rw [this]; rfl
        · have h2 : x = l := by
            apply Classical.byContradiction
            intro h2; exact hc ⟨h1, h2⟩
          have e1 : (x != other d l) = true := by simpa using h1
          have e2 : (x != l) = false := by simpa using h2
          rw [e1, e2]; rfl
      rw [ec]
      refine gd_f rfl (gd_f rfl (gd_f rfl (pif_f rfl (step kW ?_))))
      by_cases h1 : x = other d l
      · rw [decide_eq_false (fun hh => hh h1)]; rfl
      · have h2 : x = l := by
          apply Classical.byContradiction
          intro h2; exact hc ⟨h1, h2⟩
        rw [decide_eq_false (p := x ≠ l) (fun hh => hh h2)]; simp
  · have hge : i = (h.hl k).2.1 := by simp at hge; omega
    subst hge
    rw [← hdn, List.take_length] at hv
    refine Or.inl ⟨rfl, ?_, kW⟩
    rw [hg, List.find?_eq_none]
    intro y hy; rw [hv y hy]; decide
end Go.Proofs.Ytmhjehodfggleaa.Eng

/- An Engine in plain: a clause looked at, a literal's clauses gone through; what holds of the lists. -/
set_option linter.unusedVariables false
set_option linter.unusedSimpArgs false
set_option linter.unusedSectionVars false
set_option maxRecDepth 100000
namespace Go.Proofs.Ytmhjehodfggleaa.Eng
open Go Go.Proofs.Ytmhjehodfggleaa.Vc Go.Proofs.Ytmhjehodfggleaa.T
open Go.Proofs.Ytmhjehodfggleaa.Apart (RdL own_rdl wrap_nat getE own_len take_snoc Sl sv New)
open Go.Proofs.Ytmhjehodfggleaa.Lits (fl fl_iff Ans ans_of formedP idx idx_range idx_inj indexP)
open Go.Proofs.Ytmhjehodfggleaa.Trail (TI Tr St valA levA reaA ownB Moved TLaid above upto freeA implA Open ent)

theorem vl_cases (S : ES) (l : Int) : vl S l = 1 ∨ vl S l = -1 ∨ vl S l = 0 := by
  unfold vl valA
  split
  · split
    · split
      · exact Or.inl rfl
      · exact Or.inr (Or.inl rfl)
    · exact Or.inr (Or.inr rfl)
  · exact Or.inr (Or.inr rfl)
theorem wi_own {nv : Nat} {l : Int} (h : Wi nv l) : ownB nv l = true := by
  obtain ⟨h0, h1, h2⟩ := h
  unfold ownB
  simp only [Bool.and_eq_true, decide_eq_true_eq]
  omega
theorem vl_free {S : ES} {l : Int} (h : Wi S.nv l) (h0 : vl S l = 0) : freeA S.nv S.R l = 0 := by
  have ho := wi_own h
  unfold vl valA at h0
  rw [if_pos ho] at h0
  unfold freeA
  rw [if_pos ho]
  cases he : ent S.R l.natAbs with
  | none => rfl
  | some e =>
    rw [he] at h0
    dsimp only at h0
    split at h0 <;> cases h0
/-- a clause of one literal, or none, looked at -/
def single (S : ES) (d : Hd) : ES × Bool :=
  match d.ls.find? (fun l => decide (0 ≤ vl S l)) with
  | some l => if vl S l = 1 then (S, true) else (putS S l d.at_, true)
  | none => ({ S with bad := d.at_ }, false)
/-- one clause of those that watch l -/
def vstep (l : Int) (acc : ES × List Nat × Bool) (k : Nat) : ES × List Nat × Bool :=
  match acc.1.H[k]? with
  | none => acc
  | some d =>
    if d.gone = true then acc
    else if acc.2.2 = false then (acc.1, acc.2.1 ++ [k], false)
    else match goal acc.1 d l with
      | some x => (moveS acc.1 k d l x, acc.2.1, true)
      | none =>
        if vl acc.1 (other d l) < 0 then ({ acc.1 with bad := d.at_ }, acc.2.1 ++ [k], false)
        else if vl acc.1 (other d l) = 0 then (putS acc.1 (other d l) d.at_, acc.2.1 ++ [k], true)
        else (acc.1, acc.2.1 ++ [k], true)
def listAt (S : ES) (i : Nat) : List Nat := S.lists[i]?.getD []
/-- the clauses that watch l, gone through -/
def vloop (S : ES) (l : Int) : ES × List Nat × Bool := (listAt S (idxN l)).foldl (vstep l) ({ S with lists := S.lists.set (idxN l) [] }, [], true)
def visit (S : ES) (l : Int) : ES × Bool := ({ (vloop S l).1 with lists := (vloop S l).1.lists.set (idxN l) (vloop S l).2.1 }, (vloop S l).2.2)

/-- what holds of held clauses and lists -/
structure WfE (S : ES) : Prop where
  nv : S.nv ≤ 1048576
  hl : ∀ (k : Nat) (d : Hd), S.H[k]? = some d → (∀ x ∈ d.ls, Wi S.nv x) ∧ d.ls.Nodup ∧ d.ls.length ≤ 2097153 ∧ 0 ≤ d.at_
  cl : S.H.length ≤ 8796093022208
  ll : S.lists.length = 2 * S.nv
  nd : ∀ (i : Nat) (ids : List Nat), S.lists[i]? = some ids → ids.Nodup
  w1 : ∀ (i k : Nat) (ids : List Nat), S.lists[i]? = some ids → k ∈ ids → ∃ d, S.H[k]? = some d ∧ d.e0 ∈ d.ls ∧ d.e1 ∈ d.ls ∧ d.e0 ≠ d.e1 ∧ (i = idxN d.e0 ∨ i = idxN d.e1)
theorem nodup_lt {l : List Nat} {n : Nat} (hn : l.Nodup) (hs : ∀ x ∈ l, x < n) : l.length ≤ n := by
  have h := Trail.nodup_bound n (l.map (· + 1)) (by
    rw [List.Nodup, List.pairwise_map]
    exact hn.imp fun hne he => hne (by omega)) (fun x hx => by
      obtain ⟨y, hy, rfl⟩ := List.mem_map.1 hx
      have := hs y hy
      omega)
  simpa using h
theorem WfE.len {S : ES} (h : WfE S) {i : Nat} {ids : List Nat} (hi : S.lists[i]? = some ids) : ids.length ≤ S.H.length :=
  nodup_lt (h.nd i ids hi) fun k hk => by
    obtain ⟨d, hd, _⟩ := h.w1 i k ids hi hk
    exact (List.getElem?_eq_some_iff.1 hd).1
/-- .. in the midst of a visit -/
structure VI (l : Int) (S : ES) (todo stay : List Nat) : Prop where
  wf : WfE S
  hlw : Wi S.nv l
  lp : S.lists[idxN l]? = some []
  nd : (todo ++ stay).Nodup
  td : ∀ k ∈ todo ++ stay, ∃ d, S.H[k]? = some d ∧ d.e0 ∈ d.ls ∧ d.e1 ∈ d.ls ∧ d.e0 ≠ d.e1 ∧ (l = d.e0 ∨ l = d.e1)
theorem other_of {d : Hd} {l : Int} (h : l = d.e0 ∨ l = d.e1) (hne : d.e0 ≠ d.e1) : (other d l = d.e0 ∨ other d l = d.e1) ∧ other d l ≠ l ∧ (d.e0 = l ∨ d.e0 = other d l) ∧ (d.e1 = l ∨ d.e1 = other d l) := by
  unfold other
  by_cases h0 : d.e0 = l
  · rw [if_pos h0]; exact ⟨Or.inr rfl, fun e => hne (h0.trans e.symm), Or.inl h0, Or.inr rfl⟩
  · rw [if_neg h0]
    rcases h with h | h
    · exact absurd h.symm h0
    · exact ⟨Or.inl rfl, h0, Or.inr rfl, Or.inl h.symm⟩
theorem goal_some {S : ES} {d : Hd} {l x : Int} (h : goal S d l = some x) : x ∈ d.ls ∧ x ≠ other d l ∧ x ≠ l ∧ 0 ≤ vl S x ∧ ¬ 0 < vl S (other d l) := by
  unfold goal at h
  split at h
  · cases h
  · rename_i hn
    have h1 := List.mem_of_find?_eq_some h
    have h2 := List.find?_some h
    simp only [Bool.and_eq_true, decide_eq_true_eq] at h2
    exact ⟨h1, h2.1, h2.2.1, h2.2.2, hn⟩
section
variable {l : Int} {S : ES} {k : Nat} {d : Hd} {todo stay : List Nat}
theorem VI.skip (h : VI l S (k :: todo) stay) : VI l S todo stay :=
  ⟨h.wf, h.hlw, h.lp, by have := h.nd; rw [List.cons_append, List.nodup_cons] at this; exact this.2, fun j hj => h.td j (by rw [List.cons_append]; exact List.mem_cons_of_mem _ hj)⟩
theorem VI.stays (h : VI l S (k :: todo) stay) : VI l S todo (stay ++ [k]) := by
  have hp : (todo ++ (stay ++ [k])).Perm (k :: todo ++ stay) := by
    rw [← List.append_assoc]
    exact (List.perm_append_singleton k (todo ++ stay))
  exact ⟨h.wf, h.hlw, h.lp, hp.nodup_iff.2 h.nd, fun j hj => h.td j (hp.subset hj)⟩
theorem WfE.put (h : WfE S) (l r : Int) : WfE (putS S l r) := ⟨h.nv, h.hl, h.cl, h.ll, h.nd, h.w1⟩
theorem VI.put (h : VI l S todo stay) (x r : Int) : VI l (putS S x r) todo stay := ⟨h.wf.put x r, h.hlw, h.lp, h.nd, h.td⟩
theorem VI.bad (h : VI l S todo stay) (r : Int) : VI l { S with bad := r } todo stay := ⟨⟨h.wf.nv, h.wf.hl, h.wf.cl, h.wf.ll, h.wf.nd, h.wf.w1⟩, h.hlw, h.lp, h.nd, h.td⟩
theorem VI.move (h : VI l S (k :: todo) stay) (hd : S.H[k]? = some d) {x : Int} (hx : goal S d l = some x) : VI l (moveS S k d l x) todo stay := by
  obtain ⟨x1, x2, x3, x4, x5⟩ := goal_some hx
  obtain ⟨d0, hd0, e1, e2, e3, e4⟩ := h.td k (by simp)
  rw [hd] at hd0; injection hd0 with hd0; subst hd0
  obtain ⟨o1, o2, o3, o4⟩ := other_of e4 e3
  have hkl := (List.getElem?_eq_some_iff.1 hd).1
  have hnv := h.wf.nv
  obtain ⟨hw, hnd, hlen, hat⟩ := h.wf.hl k d hd
  have hxw := hw x x1
  have how : Wi S.nv (other d l) := by rcases o1 with o1 | o1 <;> rw [o1]; exact hw _ e1; exact hw _ e2
  have hxl : idxN x ≠ idxN l := fun e => x3 (idxN_inj hnv hxw h.hlw e)
  have hxo : idxN x ≠ idxN (other d l) := fun e => x2 (idxN_inj hnv hxw how e)
  have hxlt := idxN_lt hxw
  obtain ⟨ids, hids⟩ := getE (show idxN x < S.lists.length by rw [h.wf.ll]; exact hxlt)
  have eids : S.lists[idxN x]?.getD [] = ids := by rw [hids]; rfl
  have hom : other d l ∈ d.ls := by rcases o1 with o1 | o1 <;> rw [o1]; exact e1; exact e2
  -- where the clause stood
  have hwhere : ∀ (i : Nat) (js : List Nat), S.lists[i]? = some js → k ∈ js → i = idxN (other d l) := fun i js hi hk => by
    obtain ⟨d1, hd1, _, _, _, hh⟩ := h.wf.w1 i k js hi hk
    rw [hd] at hd1; injection hd1 with hd1; subst hd1
    have hil : i ≠ idxN l := fun e => by
      rw [e, h.lp] at hi; injection hi with hi; rw [← hi] at hk; cases hk
    rcases hh with hh | hh
    · rcases o3 with o3 | o3
      · rw [o3] at hh; exact absurd hh hil
      · rw [hh, o3]
    · rcases o4 with o4 | o4
      · rw [o4] at hh; exact absurd hh hil
      · rw [hh, o4]
  have hkn : k ∉ ids := fun hk => hxo (hwhere _ ids hids hk)
  have hHk : ∀ (j : Nat), (S.H.set k { d with e0 := other d l, e1 := x })[j]? = if k = j then some { d with e0 := other d l, e1 := x } else S.H[j]? := fun j => by
    rw [List.getElem?_set]
    by_cases hkj : k = j
    · rw [if_pos hkj, if_pos hkl, if_pos hkj]
    · rw [if_neg hkj, if_neg hkj]
  refine ⟨⟨hnv, fun j d1 hj => ?_, by show (S.H.set k _).length ≤ _; rw [List.length_set]; exact h.wf.cl, by show (S.lists.set _ _).length = _; rw [List.length_set]; exact h.wf.ll, fun i js hi => ?_, fun i j js hi hj => ?_⟩, h.hlw, ?_, h.skip.nd, fun j hj => ?_⟩
  · have hj' : (S.H.set k { d with e0 := other d l, e1 := x })[j]? = some d1 := hj
    rw [hHk] at hj'
    by_cases hkj : k = j
    · rw [if_pos hkj] at hj'; injection hj' with hj'; rw [← hj']; exact ⟨hw, hnd, hlen, hat⟩
    · rw [if_neg hkj] at hj'; exact h.wf.hl j d1 hj'
  · have hi' : (S.lists.set (idxN x) (S.lists[idxN x]?.getD [] ++ [k]))[i]? = some js := hi
    rw [eids] at hi'
    by_cases hix : i = idxN x
    · rw [hix, List.getElem?_set_self (by rw [h.wf.ll]; exact hxlt)] at hi'
      injection hi' with hi'
      rw [← hi']
      exact List.nodup_append.2 ⟨h.wf.nd _ ids hids, by simp, fun a ha c hc => by rw [List.mem_singleton.1 hc]; exact fun e => hkn (e ▸ ha)⟩
    · rw [List.getElem?_set_ne (fun e => hix e.symm)] at hi'
      exact h.wf.nd i js hi'
  · have hi' : (S.lists.set (idxN x) (S.lists[idxN x]?.getD [] ++ [k]))[i]? = some js := hi
    rw [eids] at hi'
    have old : ∀ {js' : List Nat}, S.lists[i]? = some js' → j ∈ js' → ∃ d1, (S.H.set k { d with e0 := other d l, e1 := x })[j]? = some d1 ∧ d1.e0 ∈ d1.ls ∧ d1.e1 ∈ d1.ls ∧ d1.e0 ≠ d1.e1 ∧ (i = idxN d1.e0 ∨ i = idxN d1.e1) := fun {js'} hjs hj => by
      rw [hHk]
      by_cases hkj : k = j
      · subst hkj
        rw [if_pos rfl]
        exact ⟨_, rfl, hom, x1, Ne.symm x2, Or.inl (hwhere i js' hjs hj)⟩
      · rw [if_neg hkj]; exact h.wf.w1 i j js' hjs hj
    by_cases hix : i = idxN x
    · have hi2 := hi'
      rw [hix, List.getElem?_set_self (by rw [h.wf.ll]; exact hxlt)] at hi2
      injection hi2 with hi2
      rw [← hi2] at hj
      rcases List.mem_append.1 hj with hj | hj
      · exact old (by rw [hix]; exact hids) hj
      · rw [List.mem_singleton.1 hj]
        show ∃ d1, (S.H.set k { d with e0 := other d l, e1 := x })[k]? = some d1 ∧ _
        rw [hHk, if_pos rfl]
        exact ⟨_, rfl, hom, x1, Ne.symm x2, Or.inr hix⟩
    · rw [List.getElem?_set_ne (fun e => hix e.symm)] at hi'
      exact old hi' hj
  · show (S.lists.set (idxN x) _)[idxN l]? = some []
    rw [List.getElem?_set_ne hxl]; exact h.lp
  · have hjk : k ≠ j := fun e => by
      have := h.nd
      rw [List.cons_append, List.nodup_cons] at this
      exact this.1 (e ▸ hj)
    obtain ⟨d1, hd1, r⟩ := h.td j (by rw [List.cons_append]; exact List.mem_cons_of_mem _ hj)
    refine ⟨d1, ?_, r⟩
    show (S.H.set k _)[j]? = some d1
    rw [List.getElem?_set_ne hjk]; exact hd1
/-- one clause more -/
theorem VI.step {ok : Bool} (h : VI l S (k :: todo) stay) : VI l (vstep l (S, stay, ok) k).1 todo (vstep l (S, stay, ok) k).2.1 := by
  obtain ⟨d, hd, _⟩ := h.td k (by simp)
  unfold vstep
  rw [hd]
  dsimp only
  by_cases hg : d.gone = true
  · rw [if_pos hg]; exact h.skip
  rw [if_neg hg]
  by_cases hok : ok = false
  · rw [if_pos hok]; exact h.stays
  rw [if_neg hok]
  cases hx : goal S d l with
  | some x => exact h.move hd hx
  | none =>
    dsimp only
    split
    · exact h.stays.bad _
    · split
      · exact h.stays.put _ _
      · exact h.stays
/-- the lists written back -/
theorem VI.done (h : VI l S [] stay) : WfE { S with lists := S.lists.set (idxN l) stay } := by
  have hlt := idxN_lt h.hlw
  refine ⟨h.wf.nv, h.wf.hl, h.wf.cl, by show (S.lists.set _ _).length = _; rw [List.length_set]; exact h.wf.ll, fun i js hi => ?_, fun i j js hi hj => ?_⟩
  · have hi' : (S.lists.set (idxN l) stay)[i]? = some js := hi
    by_cases hil : i = idxN l
    · rw [hil, List.getElem?_set_self (by rw [h.wf.ll]; exact hlt)] at hi'
      injection hi' with hi'
      rw [← hi']; have := h.nd; rwa [List.nil_append] at this
    · rw [List.getElem?_set_ne (fun e => hil e.symm)] at hi'
      exact h.wf.nd i js hi'
  · have hi' : (S.lists.set (idxN l) stay)[i]? = some js := hi
    by_cases hil : i = idxN l
    · rw [hil, List.getElem?_set_self (by rw [h.wf.ll]; exact hlt)] at hi'
      injection hi' with hi'
      rw [← hi'] at hj
      obtain ⟨d, hd, a, b, c, e⟩ := h.td j (by simpa using hj)
      exact ⟨d, hd, a, b, c, by rcases e with e | e; exact Or.inl (by rw [hil, e]); exact Or.inr (by rw [hil, e])⟩
    · rw [List.getElem?_set_ne (fun e => hil e.symm)] at hi'
      exact h.wf.w1 i j js hi' hj
theorem VI.start (h : WfE S) (hl : Wi S.nv l) : VI l { S with lists := S.lists.set (idxN l) [] } (listAt S (idxN l)) [] := by
  have hlt := idxN_lt hl
  obtain ⟨ids, hids⟩ := getE (show idxN l < S.lists.length by rw [h.ll]; exact hlt)
  have eids : listAt S (idxN l) = ids := by unfold listAt; rw [hids]; rfl
  rw [eids]
  refine ⟨⟨h.nv, h.hl, h.cl, by show (S.lists.set _ _).length = _; rw [List.length_set]; exact h.ll, fun i js hi => ?_, fun i j js hi hj => ?_⟩, hl, List.getElem?_set_self (by rw [h.ll]; exact hlt), by rw [List.append_nil]; exact h.nd _ ids hids, fun k hk => ?_⟩
  · have hi' : (S.lists.set (idxN l) [])[i]? = some js := hi
    by_cases hil : i = idxN l
    · rw [hil, List.getElem?_set_self (by rw [h.ll]; exact hlt)] at hi'
      injection hi' with hi'; rw [← hi']; exact List.nodup_nil
    · rw [List.getElem?_set_ne (fun e => hil e.symm)] at hi'; exact h.nd i js hi'
  · have hi' : (S.lists.set (idxN l) [])[i]? = some js := hi
    by_cases hil : i = idxN l
    · rw [hil, List.getElem?_set_self (by rw [h.ll]; exact hlt)] at hi'
      injection hi' with hi'; rw [← hi'] at hj; cases hj
    · rw [List.getElem?_set_ne (fun e => hil e.symm)] at hi'; exact h.w1 i j js hi' hj
  · rw [List.append_nil] at hk
    obtain ⟨d, hd, a, b, c, e⟩ := h.w1 _ k ids hids hk
    have hw := (h.hl k d hd).1
    exact ⟨d, hd, a, b, c, by rcases e with e | e; exact Or.inl (idxN_inj h.nv hl (hw _ a) e); exact Or.inr (idxN_inj h.nv hl (hw _ b) e)⟩
end
end Go.Proofs.Ytmhjehodfggleaa.Eng

/- An Engine in memory: its own numbers; a clause of one literal or none; a literal's clauses gone through. -/
set_option linter.unusedVariables false
set_option linter.unusedSimpArgs false
set_option linter.unusedSectionVars false
set_option maxRecDepth 100000
namespace Go.Proofs.Ytmhjehodfggleaa.Eng
open Go Go.Proofs.Ytmhjehodfggleaa.Vc Go.Proofs.Ytmhjehodfggleaa.T
open Go.Proofs.Ytmhjehodfggleaa.Apart (RdL own_rdl wrap_nat getE own_len take_snoc Sl sv New)
open Go.Proofs.Ytmhjehodfggleaa.Lits (fl fl_iff Ans ans_of formedP idx idx_range idx_inj indexP)
open Go.Proofs.Ytmhjehodfggleaa.Arn (Ar AR)
open Go.Proofs.Ytmhjehodfggleaa.Trail (TI Tr St valA levA reaA ownB Moved TLaid above upto freeA implA Open)

theorem take_snocN {α : Type} {l : List α} {i : Nat} {x : α} (h : l[i]? = some x) : l.take (i + 1) = l.take i ++ [x] := by rw [List.take_add_one, h]; rfl
def noEx : Nat → Prop := fun _ => False
section
variable {ex : Nat → Prop} {w w' w1 : World} {b : Nat} {o o1 : Nat → Int} {h h1 : Hs} {S S1 S2 : ES} {T T' : Int → Prop}
/-- the Engine's own numbers written down -/
theorem Rp.setSelf (hR : Rp ex w b o h S) {hd : Nat} {r c d : Bool} {x : Int} (hk : Keep (One b) w w') (hB : Blk w' b [I S.nv, Pt h.st, Pt h.T.t, sv h.oo, sv h.ll, sv h.ss, sv h.le, .iface 55 (Pt h.bk), I hd, .bool r, .bool c, .bool d, I x] 64) (hs : w'.heap.size = w.heap.size) :
    Rp ex w' b o h { S with head := hd, rest := r, clash := c, dead := d, bad := x } := by
  have kk : Keep (fun j => (fun t : Int => t = -1) (o j)) w w' := hk.mono fun j _ hj => by rw [show j = b from hj]; exact hR.selfO
  exact ⟨hB, hR.selfO, Rp.arK (h := h) (S := S) (T := fun t => t = -1) hR kk (by decide), Rp.trK (h := h) (S := S) (T := fun t => t = -1) hR kk (by decide), hR.trO, own_K (T := fun t => t = -1) hR.oo hR.ooO kk (by decide), hR.ooO, own_K (T := fun t => t = -1) hR.out hR.outO kk (by decide), hR.outO, hR.hhl, hR.lsl,
    Rp.innK (h := h) (S := S) (T := fun t => t = -1) hR kk (fun i hi => ⟨hi, by omega⟩), Rp.innOK (h := h) (S := S) (T := fun t => t = -1) hR kk, own_K (T := fun t => t = -1) hR.sh hR.shO kk (by decide), hR.shO, own_K (T := fun t => t = -1) hR.le hR.leO kk (by decide), hR.leO, blk_K (T := fun t => t = -1) hR.bk hR.bkO kk (by decide), hR.bkO, own_K (T := fun t => t = -1) hR.lg hR.lgO kk (by decide), hR.lgO, hR.gll,
    Rp.glK (h := h) (S := S) (T := fun t => t = -1) hR kk (by decide), Rp.heldK (h := h) (S := S) (T := fun t => t = -1) hR kk (by decide) (by decide), hR.inj, fun j hj => hR.nrm j (by rw [← hs]; exact hj)⟩
/-- .. as a step -/
theorem Rp.selfN (hR : Rp ex w b o h S) {hd : Nat} {r c d : Bool} {x : Int} (hT : T (-1)) (hk : Keep (One b) w w') (hB : Blk w' b [I S.nv, Pt h.st, Pt h.T.t, sv h.oo, sv h.ll, sv h.ss, sv h.le, .iface 55 (Pt h.bk), I hd, .bool r, .bool c, .bool d, I x] 64) (hs : w'.heap.size = w.heap.size) :
    Nx T ex w b o h { S with head := hd, rest := r, clash := c, dead := d, bad := x } w' :=
  ⟨o, h, hR.setSelf hk hB hs, Ag.refl _ _, hk.mono fun j _ hj => by rw [show j = b from hj, hR.selfO]; exact hT, rfl⟩
theorem Nx.refl (hR : Rp ex w b o h S) : Nx T ex w b o h S w := ⟨o, h, hR, Ag.refl _ _, (Keep.refl None w).none, rfl⟩
theorem Nx.keep0 (hN : Nx T ex w b o h S w1) (hk : Keep None w1 w') : Nx T ex w b o h S w' := by
  obtain ⟨o', h', a, b', c, d⟩ := hN
  exact ⟨o', h', a.keep0 hk, b', c.then0 hk, d⟩
theorem Nx.before (hk : Keep None w w1) (hN : Nx T ex w1 b o h S w') : Nx T ex w b o h S w' := by
  obtain ⟨o', h', a, b', c, d⟩ := hN
  exact ⟨o', h', a, fun j hj => b' j (Nat.lt_of_lt_of_le hj hk.size), (hk.none (S := fun j => T (o j))).trans c fun _ _ h => h, d⟩
theorem Nx.mono (hN : Nx T ex w b o h S w') (hT : ∀ t, T t → T' t) : Nx T' ex w b o h S w' := by
  obtain ⟨o', h', a, b', c, d⟩ := hN
  exact ⟨o', h', a, b', c.mono fun j _ hj => hT _ hj, d⟩
/-- one step behind another -/
theorem Nx.bind (hN : Nx T ex w b o h S w1) (hK : ∀ o1 h1, Rp ex w1 b o1 h1 S → h1.hb = h.hb → Nx T ex w1 b o1 h1 S2 w') : Nx T ex w b o h S2 w' := by
  obtain ⟨o1, h1, r1, a1, k1, e1⟩ := hN
  obtain ⟨o2, h2, r2, a2, k2, e2⟩ := hK o1 h1 r1 e1
  exact ⟨o2, h2, r2, a1.trans a2 k1.size, k1.trans k2 fun j hj hh => by rw [← a1 j hj]; exact hh, e2.trans e1⟩
end
/-- a clause of one literal, or none -/
theorem single34 {ex : Nat → Prop} {w : World} {b : Nat} {o : Nat → Int} {h : Hs} {S : ES} (hR : Rp ex w b o h S) {k : Nat} {d : Hd} (hd : S.H[k]? = some d) (hat : 0 ≤ d.at_) (hw : ∀ x ∈ d.ls, Wi S.nv x) (hdl : d.ls.length ≤ 17592186044416) :
    Calls Try.prog 34 #[Pt b, Pt (h.hb k)] w fun e w' => e = .returned (.bool (single S d).2) ∧ Nx tPutE ex w b o h (single S d).1 w' := by
  refine (V34_calls (some ⟨b, 0, none⟩) (some ⟨h.hb k, 0, none⟩) w (fun v w' => v = .bool (single S d).2 ∧ Nx tPutE ex w b o h (single S d).1 w') ?_).mono fun e w' ⟨v, he, hv, hk⟩ => ⟨by rw [he, hv], hk⟩
  unfold V34
  have hnv := hR.nv
  obtain ⟨hB, _, hRd, hdo⟩ := hR.held k d hd
  have hdn := hRd.len
  refine nn_of (ldC_of (x := (h.hl k).1) (n := (h.hl k).2.1) (c := (h.hl k).2.2) (by rw [add_mk]; exact hB.cell 1) ?_)
  refine lp_of (fun s W => ∃ i : Nat, s.1 = i ∧ i ≤ (h.hl k).2.1 ∧ Keep None w W ∧ ∀ x ∈ d.ls.take i, decide (0 ≤ vl S x) = false) (fun s _ => ((h.hl k).2.1 - s.1).toNat) ⟨0, rfl, Nat.zero_le _, Keep.refl _ _, fun x hx => by simp at hx⟩ ?_
  rintro ⟨i', ⟨⟩⟩ W ⟨i, hi', hi, kW, hv⟩
  dsimp only at hi' ⊢
  subst hi'
  have hRW := hR.keep0 kW
  obtain ⟨hBW, _, hRdW, _⟩ := hRW.held k d hd
  refine pif_of (fun hlt => ?_) fun hge => ?_
  · have hlt : i < (h.hl k).2.1 := by simpa using hlt
    rw [wrap_nat i (by omega)]
    refine hRdW.ix hlt fun a x hx ha => ldI_of ha ?_
    have hxm := List.mem_of_getElem? hx
    have hxw := hw x hxm
    refine hRW.trAt (hRW.val (by have := hxw.2.1; omega) fun W2 kW2 => ⟨_, rfl, ?_⟩)
    have kk2 := kW.then0 kW2
    have e1 : d.ls = d.ls.take i ++ x :: d.ls.drop (i + 1) := by
      obtain ⟨q1, q2⟩ := List.getElem?_eq_some_iff.1 hx
      rw [← q2, ← List.drop_eq_getElem_cons q1, List.take_append_drop]
    have e2 : (d.ls.take i).find? (fun x => decide (0 ≤ vl S x)) = none := by
      rw [List.find?_eq_none]
      intro y hy; rw [hv y hy]; decide
    have hfind : 0 ≤ vl S x → d.ls.find? (fun x => decide (0 ≤ vl S x)) = some x := fun h0 => by
      rw [e1, List.find?_append, e2, Option.none_or, List.find?_cons, decide_eq_true h0]
    rcases vl_cases S x with h1 | h1 | h1
    · rw [h1]
      have hs : single S d = (S, true) := by unfold single; rw [hfind (by omega)]; dsimp only; rw [if_pos h1]
      rw [hs]
      exact pif_t rfl ⟨rfl, Nx.keep0 (Nx.refl hR) kk2⟩
    · rw [h1]
      refine pif_f rfl (pif_f rfl ⟨⟨i + 1, rfl, hlt, kk2, fun y hy => ?_⟩, by omega⟩)
      rw [take_snoc hx] at hy
      rcases List.mem_append.1 hy with hy | hy
      · exact hv y hy
      · rw [List.mem_singleton.1 hy, h1]; rfl
    · rw [h1]
      have hs : single S d = (putS S x d.at_, true) := by unfold single; rw [hfind (by omega)]; dsimp only; rw [if_neg (by omega)]
      rw [hs]
      refine pif_f rfl (pif_t rfl (cl_of ok48 (put48 (hR.keep0 kk2) hd hat (by have := hxw.2.1; omega) (vl_free hxw h1)) fun e w3 ⟨he, hN⟩ => ⟨he, rfl, hN.before kk2⟩))
  · have hge : i = (h.hl k).2.1 := by simp at hge; omega
    subst hge
    rw [← hdn, List.take_length] at hv
    have hs : single S d = ({ S with bad := d.at_ }, false) := by
      unfold single
      have : d.ls.find? (fun x => decide (0 ≤ vl S x)) = none := by
        rw [List.find?_eq_none]; intro y hy; rw [hv y hy]; decide
      rw [this]
    rw [hs]
    refine nn_of (ldI_of (x := d.at_) (by rw [add_mk]; exact hBW.cell 0) (nn_of ?_))
    rw [add_mk, add_mk]
    refine st_of hRW.self (by simp) rfl fun w4 hB4 k4 z4 => ⟨rfl, Nx.before kW (hRW.selfN (T := tPutE) (Or.inl rfl) k4 hB4 z4)⟩
/-- a literal's clauses -/
theorem visit35 {w : World} {b : Nat} {o : Nat → Int} {h : Hs} {S : ES} (hR : Rp noEx w b o h S) (hW : WfE S) {l : Int} (hl : Wi S.nv l) :
    Calls Try.prog 35 #[Pt b, I l] w fun e w' => e = .returned (.bool (visit S l).2) ∧ Nx tMine noEx w b o h (visit S l).1 w' := by
  refine (V35_calls (some ⟨b, 0, none⟩) l w (fun v w' => v = .bool (visit S l).2 ∧ Nx tMine noEx w b o h (visit S l).1 w') ?_).mono fun e w' ⟨v, he, hv, hk⟩ => ⟨by rw [he, hv], hk⟩
  unfold V35
  have hnv := hR.nv
  have hfl := wi_fl hnv hl
  have eix := idxN_eq hnv hl
  have hi := idxN_lt hl
  obtain ⟨x, hx⟩ := getE (show idxN l < h.hh.length by rw [hR.hhl]; exact hi)
  obtain ⟨ids, hids⟩ := getE (show idxN l < S.lists.length by rw [hR.lsl]; exact hi)
  have eids : listAt S (idxN l) = ids := by unfold listAt; rw [hids]; rfl
  have self4 : ∀ {V : World} {o1 : Nat → Int} {h1 : Hs} {S1 : ES} {ex1 : Nat → Prop}, Rp ex1 V b o1 h1 S1 → ∀ {K : Option Addr → Nat → Nat → Prop}, K h1.ll.1 h1.ll.2.1 h1.ll.2.2 → ldC V ((⟨b, 0, none⟩ : Addr).add 4) K := fun {V o1 h1 S1 ex1} hRV {K} hK => by
    rw [add_mk]
    exact ldC_of (x := h1.ll.1) (n := h1.ll.2.1) (c := h1.ll.2.2) (hRV.self.cell 4) hK
  refine cl_of ok58 (indexP hfl) fun e w1 ⟨he, k1⟩ => ⟨_, he, ?_⟩
  have hR1 := hR.keep0 k1
  have z1 := k1.size
  rw [eix]
  refine nn_of (self4 hR1 (hR1.outAt hx fun a ha => ldC_of (x := x.1) (n := x.2.1) (c := x.2.2) ha (nn_of (self4 hR1 ?_))))
  have hOx := hR1.inn _ x ids hx hids (fun h => h)
  have hxo := hR.innO _ x hx
  have hxn := pts_len hOx
  have hxlen := hW.len hids
  have hcl := hW.cl
  have hR1' : Rp (fun j => noEx j ∨ j = idxN l) w1 b o h S := hR1.exMono fun j hj => hj.elim
  refine setOut (g := (none, 0, 0)) (ids' := []) hR1' hi (Own.nil _ _ _) (fun j ⟨a, hh, _⟩ => by cases hh) fun w2 hR2 k2 => ?_
  have z2 := k2.size
  have hOx2 : Own w2 68 1 x.1 x.2.1 x.2.2 (ids.map fun k => Pt (h.hb k)) := hOx.keep k2 fun j hj hh => by have := (hxo j hj).1; have hh' : o j = -5 := hh; omega
  have k02 : Keep (fun i => tMine (o i)) w w2 := (Keep.none k1).trans k2 fun j _ hh => by have hh' : o j = -5 := hh; show o j ≠ -9; omega
  have hst := VI.start hW hl
  rw [eids] at hst
  have evl : vloop S l = ids.foldl (vstep l) ({ S with lists := S.lists.set (idxN l) [] }, [], true) := by unfold vloop; rw [eids]
  refine lp_of (fun s W => ∃ (i : Nat) (S1 : ES) (stay : List Nat) (o1 : Nat → Int) (h1 : Hs), s.2.2.1 = (i : Int) ∧ i ≤ ids.length ∧ (ids.take i).foldl (vstep l) ({ S with lists := S.lists.set (idxN l) [] }, [], true) = (S1, stay, s.1) ∧ VI l S1 (ids.drop i) stay ∧ S1.nv = S.nv ∧
      Rp noEx W b o1 h1 S1 ∧ h1.hb = h.hb ∧ Own W 68 1 s.2.1.1 s.2.1.2.1 s.2.1.2.2 (stay.map fun k => Pt (h.hb k)) ∧ (∀ j, ob s.2.1.1 j → w.heap.size ≤ j ∧ o1 j = -9) ∧
      Own W 68 1 x.1 x.2.1 x.2.2 (ids.map fun k => Pt (h.hb k)) ∧ Ag w o o1 ∧ Keep (fun i => tMine (o i)) w W) (fun s _ => (ids.length - s.2.2.1).toNat)
    ⟨0, _, [], o, _, rfl, Nat.zero_le _, rfl, hst, rfl, hR2, rfl, Own.nil _ _ _, (fun j ⟨a, hh, _⟩ => by cases hh), hOx2, Ag.refl _ _, k02⟩ ?_
  rintro ⟨ok, ⟨sp, sn, sc⟩, i', ⟨⟩⟩ W ⟨i, S1, stay, o1, h1, rfl, hii, hfo, hVI, hnv1, hRi, ehb, hSt, hsto, hXi, hai, kWi⟩
  dsimp only at hfo hSt hsto ⊢
  have zW := kWi.size
  have hsn := pts_len hSt
  have hcl1 := hVI.wf.cl
  have hstl : stay.length ≤ 8796093022208 := by
    refine Nat.le_trans (nodup_lt (List.nodup_append.1 hVI.nd).2.1 fun k hk => ?_) hcl1
    obtain ⟨d, hd, _⟩ := hVI.td k (List.mem_append_right _ hk)
    exact (List.getElem?_eq_some_iff.1 hd).1
  have hxo1 : ∀ j, ob x.1 j → o1 j = idxN l := fun j hj => by rw [hai j (hxo j hj).2]; exact (hxo j hj).1
  refine pif_of (fun hlt => ?_) fun hge => ?_
  · have hlt : i < ids.length := by have : (i : Int) < (x.2.1 : Int) := by simpa using hlt
                                    omega
    rw [wrap_nat i (by omega)]
    obtain ⟨k, hk⟩ := getE hlt
    have edr : ids.drop i = k :: ids.drop (i + 1) := by
      obtain ⟨hx1, hx2⟩ := List.getElem?_eq_some_iff.1 hk
      rw [List.drop_eq_getElem_cons hx1, hx2]
    rw [edr] at hVI
    obtain ⟨d, hd, hde0, hde1, hdne, hdl⟩ := hVI.td k (by simp)
    obtain ⟨hdw, hdnd, hdlen, hdat⟩ := hVI.wf.hl k d hd
    have hstep := hVI.step (ok := ok)
    have efo : (ids.take (i + 1)).foldl (vstep l) ({ S with lists := S.lists.set (idxN l) [] }, [], true) = vstep l (S1, stay, ok) k := by
      rw [take_snocN hk, List.foldl_append, hfo]; rfl
    refine ⟨fun s W' => ∃ (S2 : ES) (st2 : List Nat) (o2 : Nat → Int) (h2 : Hs), vstep l (S1, stay, ok) k = (S2, st2, s.1) ∧ S2.nv = S.nv ∧ Rp noEx W' b o2 h2 S2 ∧ h2.hb = h.hb ∧ Own W' 68 1 s.2.1.1 s.2.1.2.1 s.2.1.2.2 (st2.map fun k => Pt (h.hb k)) ∧ (∀ j, ob s.2.1.1 j → w.heap.size ≤ j ∧ o2 j = -9) ∧
      Own W' 68 1 x.1 x.2.1 x.2.2 (ids.map fun k => Pt (h.hb k)) ∧ Ag w o o2 ∧ Keep (fun i => tMine (o i)) w W', ?_, ?_⟩
    rotate_left
    · rintro ⟨ok', ⟨p', n', c'⟩, ⟨⟩⟩ W' ⟨S2, st2, o2, h2, q0, q2, q3, q4, q5, q6, q7, q8, q9⟩
      rw [q0] at hstep efo
      exact ⟨⟨i + 1, S2, st2, o2, h2, rfl, hlt, efo, hstep, q2, q3, q4, q5, q6, q7, q8, q9⟩, by omega⟩
    -- what a step of the Engine's leaves
    have after : ∀ {W1 W2 : World} {T : Int → Prop} {S2 : ES} {o2 : Nat → Int} {h2 : Hs} {sp : Option Addr} {sn sc : Nat} {st : List Nat}, Keep (fun i => tMine (o i)) w W1 → Own W1 68 1 sp sn sc (st.map fun k => Pt (h.hb k)) → (∀ j, ob sp j → w.heap.size ≤ j ∧ o2 j = -9) → Own W1 68 1 x.1 x.2.1 x.2.2 (ids.map fun k => Pt (h.hb k)) → Ag w o o2 → h2.hb = h.hb →
        Nx T noEx W1 b o2 h2 S2 W2 → ¬ T (-9) → ¬ T (idxN l) → ∃ (o3 : Nat → Int) (h3 : Hs), Rp noEx W2 b o3 h3 S2 ∧ h3.hb = h.hb ∧ Own W2 68 1 sp sn sc (st.map fun k => Pt (h.hb k)) ∧ (∀ j, ob sp j → w.heap.size ≤ j ∧ o3 j = -9) ∧ Own W2 68 1 x.1 x.2.1 x.2.2 (ids.map fun k => Pt (h.hb k)) ∧ Ag w o o3 ∧ Keep (fun i => tMine (o i)) w W2 := by
      intro W1 W2 T S2 o2 h2 sp sn sc st kW hS hso hX ha eh ⟨o3, h3, hR3, ha3, k3, e3⟩ ht9 htl
      refine ⟨o3, h3, hR3, e3.trans eh, own_K (t := -9) hS (fun j hj => (hso j hj).2) k3 ht9, fun j hj => ⟨(hso j hj).1, by rw [ha3 j (hS.lt j hj)]; exact (hso j hj).2⟩, own_K (t := idxN l) hX (fun j hj => by rw [ha j (hxo j hj).2]; exact (hxo j hj).1) k3 htl, ha.trans ha3 kW.size, kW.trans k3 fun j hj hh => ?_⟩
      have hh' : T (o2 j) := hh
      rw [ha j hj] at hh'
      exact fun e => ht9 (e ▸ hh')
    have hXi' := hXi
    refine hXi.ix (by omega) (by omega) fun bq hbq => ?_
    rw [hbq] at hXi'
    refine ldP_of (x := some ⟨h.hb k, 0, none⟩) (by rw [hXi'.cell _ (by omega), Int.toNat_natCast, Nat.mul_one, List.getElem?_map, hk]; rfl) ?_
    obtain ⟨hBd, _, _, _⟩ := hRi.held k d hd
    rw [ehb] at hBd
    refine nn_of (ldB_of (x := d.gone) (by rw [add_mk]; exact hBd.cell 4) ?_)
    -- k stays
    have stays : ∀ (W5 : World), Keep None W W5 → ∀ {K : Option Addr → Nat → Nat → World → Prop},
        (∀ (g : Sl) (w' : World), Rp noEx w' b o1 h1 S1 → Own w' 68 1 g.1 g.2.1 g.2.2 ((stay ++ [k]).map fun k => Pt (h.hb k)) → (∀ j, ob g.1 j → w.heap.size ≤ j ∧ o1 j = -9) → Own w' 68 1 x.1 x.2.1 x.2.2 (ids.map fun k => Pt (h.hb k)) → Keep (fun i => tMine (o i)) w w' → K g.1 g.2.1 g.2.2 w') →
        alc W5 [Pt (h.hb k)] 68 fun b43 w8 => ∃ (x44 : Option Addr) (x44n x44c : Nat), ∃ w9 : World, (Builtin.append_ #[59, 59] 59 #[.slice sp sn sc, .slice (some (⟨b43, 0, none⟩ : Addr)) 1 1]).run Try.prog w8 = .ok (.slice x44 x44n x44c) w9 ∧ K x44 x44n x44c w9 := by
      intro W5 kW5 K hK
      refine alc_at fun bb w8 hbb hB k8 => ?_
      have k58 := kW5.then0 k8
      have hSt8 := hSt.keep0 k58
      have hR8 := hRi.keep0 k58
      have hX8 := hXi.keep0 k58
      have z8 := k58.size
      refine app_of2 (e := 68) (sz := 1) (z := .pointer none) (B := 8) Try.underlying59 (by kernel_rfl) rfl (by omega) hSt8 hB.news1 (fun u hu => ?_) (by simp only [maxLen]; omega) (by omega) fun p' c' w' hO' hd' => ?_
      · simp only [List.mem_singleton] at hu; subst hu; rfl
      have kk : Keep (ob sp) w8 w' := by
        rcases hd' with ⟨_, _, _, kk⟩ | ⟨_, kk⟩
        · exact kk
        · exact kk.none
      refine hK (p', sn + 1, c') w' (hR8.keepX kk fun j hj hh => (hsto j hh).2) (by rw [List.map_append]; exact hO') (fun j hj => ?_) (hX8.keep kk fun j hj hh => by have := (hsto j hh).1; have := (hxo j hj).2; omega) ((kWi.then0 k58).trans kk fun j hj hh => by have := (hsto j hh).1; omega)
      rcases hd' with ⟨e, _, _, _⟩ | ⟨e, _⟩
      · exact hsto j (by rw [e] at hj; exact hj)
      · exact ⟨by have := e j hj; omega, hRi.nrm j (by have := e j hj; omega)⟩
    have hgoal0 : ∀ {a : ES × List Nat × Bool}, d.gone = true → vstep l (S1, stay, ok) k = (S1, stay, ok) := fun {a} hg => by
      unfold vstep; dsimp only; rw [hd]; dsimp only; rw [if_pos hg]
    by_cases hg : d.gone = true
    · rw [hg]
      refine gd_f rfl (pif_t rfl ⟨S1, stay, o1, h1, hgoal0 (a := (S1, stay, ok)) hg, hnv1, hRi, ehb, hSt, hsto, hXi, hai, kWi⟩)
    have hgf : d.gone = false := by simpa using hg
    rw [hgf]
    cases ok with
    | false =>
      have ev : vstep l (S1, stay, false) k = (S1, stay ++ [k], false) := by
        unfold vstep; dsimp only; rw [hd]; dsimp only; rw [if_neg hg, if_pos rfl]
      refine gd_f rfl (pif_f rfl ?_)
      refine stays W (Keep.refl _ _) fun g w' q3 q5 q6 q7 q9 => ?_
      have h64 := other64 q3 hd l
      rw [ehb] at h64
      refine cl_of ok64 h64 fun e w6 ⟨he, hw6⟩ => ⟨_, he, ?_⟩
      subst hw6
      exact pif_t rfl ⟨S1, stay ++ [k], o1, h1, ev, hnv1, q3, ehb, q5, q6, q7, hai, q9⟩
    | true =>
      have how : Wi S1.nv (other d l) := by
        obtain ⟨o1', _⟩ := other_of hdl hdne
        rcases o1' with o1' | o1' <;> rw [o1']
        · exact hdw _ hde0
        · exact hdw _ hde1
      refine gd_t rfl (cl_of ok63 (by
        have := moved63 hRi hd (l := l) (by have := hl.2.1; omega) (by have := how.2.1; omega) hdw (by omega) (fun i ids hh => by have := hVI.wf.len hh; omega) (fun _ _ _ hh => hh)
        rw [ehb] at this; exact this) fun e w6 hMv => ?_)
      rcases hMv with ⟨he, hgo, k6⟩ | ⟨y, he, hgo, hyL, hyl, hNx⟩
      · refine ⟨_, he, pif_f rfl ?_⟩
        refine stays w6 k6 fun g w9 q3 q5 q6 q7 q9 => ?_
        have h64 := other64 q3 hd l
        rw [ehb] at h64
        refine cl_of ok64 h64 fun e w10 ⟨he, hw10⟩ => ⟨_, he, ?_⟩
        subst hw10
        refine pif_f rfl (q3.trAt (q3.val (by have := how.2.1; omega) fun w11 k11 => ⟨_, rfl, ?_⟩))
        have r3 := q3.keep0 k11
        have r5 := q5.keep0 k11
        have r7 := q7.keep0 k11
        have r9 := q9.then0 k11
        have ev : vstep l (S1, stay, true) k = if vl S1 (other d l) < 0 then ({ S1 with bad := d.at_ }, stay ++ [k], false) else if vl S1 (other d l) = 0 then (putS S1 (other d l) d.at_, stay ++ [k], true) else (S1, stay ++ [k], true) := by
          unfold vstep; dsimp only; rw [hd]; dsimp only; rw [if_neg hg, if_neg (by decide), hgo]
        rcases vl_cases S1 (other d l) with h2 | h2 | h2
        · rw [h2] at ev ⊢
          refine pif_f rfl (r3.trAt (r3.val (by have := how.2.1; omega) fun w12 k12 => ⟨_, rfl, ?_⟩))
          rw [h2]
          exact pif_f rfl ⟨S1, stay ++ [k], o1, h1, ev, hnv1, r3.keep0 k12, ehb, r5.keep0 k12, q6, r7.keep0 k12, hai, r9.then0 k12⟩
        · rw [h2] at ev ⊢
          refine pif_t rfl ?_
          obtain ⟨hB9, _, _, _⟩ := r3.held k d hd
          rw [ehb] at hB9
          refine nn_of (ldI_of (x := d.at_) (by rw [add_mk]; exact hB9.cell 0) (nn_of ?_))
          rw [add_mk, add_mk]
          refine st_of r3.self (by simp) rfl fun w12 hB12 k12 z12 => ?_
          have hN := r3.selfN (T := fun t => t = -1) (S := S1) (hd := S1.head) (r := S1.rest) (c := S1.clash) (d := S1.dead) (x := d.at_) rfl k12 hB12 z12
          obtain ⟨o3, h3, g1, g2, g3, g4, g5, g6, g7⟩ := after r9 r5 q6 r7 hai ehb hN (by decide) (by omega)
          exact ⟨_, stay ++ [k], o3, h3, ev, hnv1, g1, g2, g3, g4, g5, g6, g7⟩
        · rw [h2] at ev ⊢
          refine pif_f rfl (r3.trAt (r3.val (by have := how.2.1; omega) fun w12 k12 => ⟨_, rfl, ?_⟩))
          rw [h2]
          refine pif_t rfl ?_
          have h48 := put48 (r3.keep0 k12) hd hdat (l := other d l) (by have := how.2.1; omega) (vl_free how h2)
          rw [ehb] at h48
          refine cl_of ok48 h48 fun e w13 ⟨he, hN⟩ => ⟨he, ?_⟩
          obtain ⟨o3, h3, g1, g2, g3, g4, g5, g6, g7⟩ := after (r9.then0 k12) (r5.keep0 k12) q6 (r7.keep0 k12) hai ehb hN (by intro hh; rcases hh with hh | hh | hh <;> omega) (by intro hh; rcases hh with hh | hh | hh <;> omega)
          exact ⟨_, stay ++ [k], o3, h3, ev, hnv1, g1, g2, g3, g4, g5, g6, g7⟩
      · have ev : vstep l (S1, stay, true) k = (moveS S1 k d l y, stay, true) := by
          unfold vstep; dsimp only; rw [hd]; dsimp only; rw [if_neg hg, if_neg (by decide), hgo]
        have hyi : idxN y ≠ idxN l := fun e => hyl (idxN_inj hVI.wf.nv (hdw y hyL) hVI.hlw e)
        refine ⟨_, he, pif_t rfl ?_⟩
        obtain ⟨o3, h3, g1, g2, g3, g4, g5, g6, g7⟩ := after kWi hSt hsto hXi hai ehb hNx (by intro hh; rcases hh with hh | hh | hh <;> omega) (by intro hh; rcases hh with hh | hh | hh <;> omega)
        exact ⟨_, stay, o3, h3, ev, hnv1, g1, g2, g3, g4, g5, g6, g7⟩
  · have hge : i = ids.length := by have : ¬ (i : Int) < (x.2.1 : Int) := by simpa using hge
                                    omega
    subst hge
    rw [List.take_length, ← evl] at hfo
    have ev : visit S l = ({ S1 with lists := S1.lists.set (idxN l) stay }, ok) := by unfold visit; rw [hfo]
    rw [ev]
    have kd : Keep None W W.drew := (Keep.refl _ _).drew
    have hRd := hRi.keep0 kd
    have hi1 : idxN l < 2 * S1.nv := by rw [hnv1]; exact hi
    obtain ⟨y, hy⟩ := getE (show idxN l < h1.hh.length by rw [hRi.hhl]; exact hi1)
    have hOy := hRd.inn _ y [] hy hVI.lp (fun h => h)
    have hyn := pts_len hOy
    refine nn_of (self4 hRd (nn_of (self4 hRd (hRd.outAt hy fun a ha => ldC_of (x := y.1) (n := y.2.1) (c := y.2.2) ha ?_))))
    have hyn0 : y.2.1 = 0 := by simpa using hyn.symm
    refine app_of2 (e := 68) (sz := 1) (z := .pointer none) (B := 8) Try.underlying59 (by kernel_rfl) rfl (by omega) (hSt.keep0 kd) hOy.news (fun u hu => by simp at hu) (by simp only [maxLen]; omega) (by omega) fun p' c' w' hO' hd' => ?_
    rw [List.map_nil, List.append_nil] at hO'
    have kk : Keep (ob sp) W.drew w' := by
      rcases hd' with ⟨_, _, _, kk⟩ | ⟨_, kk⟩
      · exact kk
      · exact kk.none
    have hR3 := hRd.keepX kk fun j hj hh => (hsto j hh).2
    have hpo : ∀ j, ob p' j → w.heap.size ≤ j ∧ o1 j = -9 := fun j hj => by
      rcases hd' with ⟨e, _, _, _⟩ | ⟨e, _⟩
      · exact hsto j (by rw [e] at hj; exact hj)
      · have h1 := e j hj
        have h2 := kd.size
        exact ⟨by omega, hRi.nrm j (by omega)⟩
    refine ⟨self4 hR3 rfl, ?_⟩
    let o3 : Nat → Int := fun j => open Classical in if ob p' j then idxN l else o1 j
    have hR4 : Rp (fun j => noEx j ∨ j = idxN l) w' b o3 h1 S1 := (hR3.tag (o' := o3) (fun j hj => if_neg fun hh => hj (hpo j hh).2) fun j hj => by
      show (open Classical in if ob p' j then ((idxN l : Nat) : Int) else o1 j) = -9
      rw [if_neg fun hh => by have := hO'.lt j hh; omega]
      exact hR3.nrm j hj).exMono fun j hj => hj.elim
    have ehb' : (stay.map fun k => Pt (h1.hb k)) = stay.map fun k => Pt (h.hb k) := by rw [ehb]
    rw [show ((idxN l : Nat) : Int) = ((idxN l : Nat) : Int) from rfl]
    refine setOut (g := (p', sn + y.2.1, c')) (ids' := stay) hR4 hi1 (by rw [ehb']; exact hO') (fun j hj => if_pos hj) fun w5 hR5 k5 => ⟨rfl, o3, _, hR5, ?_, ?_, ehb⟩
    · exact fun j hj => (if_neg fun hh => by have := (hpo j hh).1; omega).trans (hai j hj)
    · refine ((kWi.then0 kd).trans kk fun j hj hh => by have := (hsto j hh).1; omega).trans k5 fun j hj hh => ?_
      have hh' : o3 j = -5 := hh
      have e1 : o3 j = o1 j := if_neg fun hh => by have := (hpo j hh).1; omega
      rw [e1, hai j hj] at hh'
      show o j ≠ -9
      omega
end Go.Proofs.Ytmhjehodfggleaa.Eng

/- An Engine: what stays through a look at clauses; the spread in plain and in memory; a clause watched. -/
set_option linter.unusedVariables false
set_option linter.unusedSimpArgs false
set_option linter.unusedSectionVars false
set_option maxRecDepth 100000
namespace Go.Proofs.Ytmhjehodfggleaa.Eng
open Go Go.Proofs.Ytmhjehodfggleaa.Vc Go.Proofs.Ytmhjehodfggleaa.T
open Go.Proofs.Ytmhjehodfggleaa.Apart (RdL own_rdl wrap_nat getE own_len take_snoc Sl sv New)
open Go.Proofs.Ytmhjehodfggleaa.Lits (fl fl_iff Ans ans_of formedP idx idx_range idx_inj indexP)
open Go.Proofs.Ytmhjehodfggleaa.Arn (Ar AR)
open Go.Proofs.Ytmhjehodfggleaa.Trail (TI Tr St valA levA reaA ownB Moved TLaid above upto freeA implA Open)

/-- what a look at clauses leaves as it was -/
structure Fr (S S' : ES) : Prop where
  nv : S'.nv = S.nv
  ar : S'.ar = S.ar
  L : S'.L = S.L
  short : S'.short = S.short
  learnts : S'.learnts = S.learnts
  log : S'.log = S.log
  head : S'.head = S.head
  rest : S'.rest = S.rest
  clash : S'.clash = S.clash
  dead : S'.dead = S.dead
  hlen : S'.H.length = S.H.length
  hls : ∀ (k : Nat) (d' : Hd), S'.H[k]? = some d' → ∃ d, S.H[k]? = some d ∧ d'.ls = d.ls ∧ d'.at_ = d.at_ ∧ d'.gone = d.gone
  R : ∃ X, S'.R = S.R ++ X
theorem Fr.refl (S : ES) : Fr S S := ⟨rfl, rfl, rfl, rfl, rfl, rfl, rfl, rfl, rfl, rfl, rfl, fun k d h => ⟨d, h, rfl, rfl, rfl⟩, [], by simp⟩
theorem Fr.trans {S S1 S2 : ES} (h : Fr S S1) (g : Fr S1 S2) : Fr S S2 := by
  refine ⟨g.nv.trans h.nv, g.ar.trans h.ar, g.L.trans h.L, g.short.trans h.short, g.learnts.trans h.learnts, g.log.trans h.log, g.head.trans h.head, g.rest.trans h.rest, g.clash.trans h.clash, g.dead.trans h.dead, g.hlen.trans h.hlen, fun k d' hd' => ?_, ?_⟩
  · obtain ⟨d1, h1, a, b, c⟩ := g.hls k d' hd'
    obtain ⟨d, h2, a', b', c'⟩ := h.hls k d1 h1
    exact ⟨d, h2, a.trans a', b.trans b', c.trans c'⟩
  · obtain ⟨X, hX⟩ := h.R
    obtain ⟨Y, hY⟩ := g.R
    exact ⟨X ++ Y, by rw [hY, hX, List.append_assoc]⟩
theorem fr_put (S : ES) (l r : Int) : Fr S (putS S l r) := { Fr.refl S with R := ⟨[_], rfl⟩ }
theorem fr_bad (S : ES) (x : Int) : Fr S { S with bad := x } := { Fr.refl S with }
theorem fr_lists (S : ES) (x : List (List Nat)) : Fr S { S with lists := x } := { Fr.refl S with }
theorem fr_move {S : ES} {k : Nat} {d : Hd} (hd : S.H[k]? = some d) (l x : Int) : Fr S (moveS S k d l x) := by
  refine { Fr.refl S with hlen := List.length_set, hls := fun j d' hj => ?_, R := ⟨[], by simp [moveS]⟩ }
  have hj' : (S.H.set k { d with e0 := other d l, e1 := x })[j]? = some d' := hj
  rw [List.getElem?_set] at hj'
  by_cases hkj : k = j
  · subst hkj
    rw [if_pos rfl, if_pos (List.getElem?_eq_some_iff.1 hd).1] at hj'
    injection hj' with hj'
    exact ⟨d, hd, by rw [← hj'], by rw [← hj'], by rw [← hj']⟩
  · rw [if_neg hkj] at hj'; exact ⟨d', hj', rfl, rfl, rfl⟩
theorem fr_single (S : ES) (d : Hd) : Fr S (single S d).1 := by
  unfold single
  split
  · split
    · exact Fr.refl _
    · exact fr_put _ _ _
  · exact fr_bad _ _
theorem fr_vstep (l : Int) (acc : ES × List Nat × Bool) (k : Nat) : Fr acc.1 (vstep l acc k).1 := by
  unfold vstep
  cases hd : acc.1.H[k]? with
  | none => exact Fr.refl _
  | some d =>
    dsimp only
    split
    · exact Fr.refl _
    · split
      · exact Fr.refl _
      · split
        · exact fr_move hd _ _
        · split
          · exact fr_bad _ _
          · split
            · exact fr_put _ _ _
            · exact Fr.refl _
theorem fr_fold (l : Int) : ∀ (ids : List Nat) (acc : ES × List Nat × Bool), Fr acc.1 (ids.foldl (vstep l) acc).1
  | [], acc => Fr.refl _
  | k :: ids, acc => (fr_vstep l acc k).trans (fr_fold l ids _)
theorem fr_visit (S : ES) (l : Int) : Fr S (visit S l).1 :=
  ((fr_lists S (S.lists.set (idxN l) [])).trans (fr_fold l (listAt S (idxN l)) ({ S with lists := S.lists.set (idxN l) [] }, [], true))).trans (fr_lists _ _)
theorem vi_fold {l : Int} : ∀ (todo : List Nat) (S : ES) (stay : List Nat) (ok : Bool), VI l S todo stay → VI l (todo.foldl (vstep l) (S, stay, ok)).1 [] (todo.foldl (vstep l) (S, stay, ok)).2.1
  | [], S, stay, ok, h => h
  | k :: todo, S, stay, ok, h => vi_fold todo _ _ (vstep l (S, stay, ok) k).2.2 h.step
theorem WfE.visit {S : ES} (h : WfE S) {l : Int} (hl : Wi S.nv l) : WfE (visit S l).1 := (vi_fold _ _ _ _ (VI.start h hl)).done
theorem WfE.bad {S : ES} (h : WfE S) (x : Int) : WfE { S with bad := x } := ⟨h.nv, h.hl, h.cl, h.ll, h.nd, h.w1⟩
theorem WfE.self {S : ES} (h : WfE S) (hd : Nat) (r c d : Bool) (x : Int) : WfE { S with head := hd, rest := r, clash := c, dead := d, bad := x } := ⟨h.nv, h.hl, h.cl, h.ll, h.nd, h.w1⟩
theorem WfE.single {S : ES} (h : WfE S) (d : Hd) : WfE (single S d).1 := by
  unfold Eng.single
  split
  · split
    · exact h
    · exact h.put _ _
  · exact h.bad _
/-- the clauses of one literal or none that are there -/
structure WfS (S : ES) : Prop extends WfE S where
  sh : ∀ k ∈ S.short, k < S.H.length
  le : ∀ k ∈ S.learnts, k < S.H.length
  shl : S.short.length ≤ 8796093022208
  lel : S.learnts.length ≤ 8796093022208
theorem WfS.fr {S S' : ES} (h : WfS S) (hf : Fr S S') (hw : WfE S') : WfS S' :=
  ⟨hw, by rw [hf.short, hf.hlen]; exact h.sh, by rw [hf.learnts, hf.hlen]; exact h.le, by rw [hf.short]; exact h.shl, by rw [hf.learnts]; exact h.lel⟩
/-- the clauses of one literal or none, one after another -/
def sstep (acc : ES × Bool) (k : Nat) : ES × Bool :=
  if acc.2 = false then acc else match acc.1.H[k]? with
  | none => acc
  | some d => single acc.1 d
def shorts (S : ES) : ES × Bool := if S.L.length = 0 then S.short.foldl sstep (S, true) else (S, true)
/-- the trail gone through -/
def spreadN : Nat → ES → ES × Bool
  | 0, S => (S, true)
  | n + 1, S => match S.R[S.head]? with
    | none => (S, true)
    | some e => let r := visit { S with head := S.head + 1 } (-e.lit); if r.2 = true then spreadN n r.1 else r
def spread (S : ES) : ES × Bool :=
  if (S.dead || S.clash) = true then (S, false)
  else
    let a := shorts S
    let c := if a.2 = true then spreadN S.nv a.1 else a
    ({ c.1 with rest := c.2, clash := !c.2 }, c.2)
theorem fr_sstep (acc : ES × Bool) (k : Nat) : Fr acc.1 (sstep acc k).1 := by
  unfold sstep
  split
  · exact Fr.refl _
  · split
    · exact Fr.refl _
    · exact fr_single _ _
theorem fr_sfold : ∀ (ids : List Nat) (acc : ES × Bool), Fr acc.1 (ids.foldl sstep acc).1
  | [], acc => Fr.refl _
  | k :: ids, acc => (fr_sstep acc k).trans (fr_sfold ids _)
theorem WfE.sstep {acc : ES × Bool} (h : WfE acc.1) (k : Nat) : WfE (sstep acc k).1 := by
  unfold Eng.sstep
  split
  · exact h
  · split
    · exact h
    · exact h.single _
theorem wi_neg {nv : Nat} {l : Int} (h : Wi nv l) : Wi nv (-l) := ⟨by have := h.1; omega, by have := h.2.2; omega, by have := h.2.1; omega⟩
theorem own_wi {nv : Nat} {l : Int} (h : ownB nv l = true) : Wi nv l := by
  unfold ownB at h
  simp only [Bool.and_eq_true, decide_eq_true_eq] at h
  exact ⟨by omega, by omega, by omega⟩
theorem level33 {ex : Nat → Prop} {w : World} {b : Nat} {o : Nat → Int} {h : Hs} {S : ES} (hR : Rp ex w b o h S) : Calls Try.prog 33 #[Pt b] w fun e w' => e = .returned (I S.L.length) ∧ w' = w := by
  refine (V33_calls (some ⟨b, 0, none⟩) w (fun v w' => v = I S.L.length ∧ w' = w) ?_).mono fun e w' ⟨v, he, hv, hk⟩ => ⟨by rw [he, hv], hk⟩
  unfold V33
  exact hR.trAt (cl_of ok62 hR.tr.level fun e w1 ⟨he, hw⟩ => ⟨_, he, rfl, hw⟩)
theorem tput_mine {t : Int} (h : tPutE t) : tMine t := by rcases h with h | h | h <;> (intro e; omega)
theorem spread7 {w : World} {b : Nat} {o : Nat → Int} {h : Hs} {S : ES} (hR : Rp noEx w b o h S) (hW : WfS S) :
    Calls Try.prog 7 #[Pt b] w fun e w' => e = .returned (.bool (spread S).2) ∧ Nx tMine noEx w b o h (spread S).1 w' := by
  refine (V7_calls (some ⟨b, 0, none⟩) w (fun v w' => v = .bool (spread S).2 ∧ Nx tMine noEx w b o h (spread S).1 w') ?_).mono fun e w' ⟨v, he, hv, hk⟩ => ⟨by rw [he, hv], hk⟩
  unfold V7
  refine nn_of (ldB_of (x := S.dead) (by rw [add_mk]; exact hR.self.cell 11) ?_)
  by_cases hdc : (S.dead || S.clash) = true
  · have es : spread S = (S, false) := by unfold spread; rw [if_pos hdc]
    rw [es]
    cases hd : S.dead with
    | true => exact gd_f rfl (gd_f rfl (pif_t rfl ⟨rfl, Nx.refl hR⟩))
    | false =>
      have hc : S.clash = true := by rw [hd] at hdc; simpa using hdc
      exact gd_t rfl (nn_of (gd_t rfl (ldB_of (x := S.clash) (by rw [add_mk]; exact hR.self.cell 10) (pif_t (by rw [hc]; rfl) ⟨rfl, Nx.refl hR⟩))))
  have hd : S.dead = false := by cases hd : S.dead with
    | true => rw [hd] at hdc; exact absurd rfl hdc
    | false => rfl
  have hc : S.clash = false := by cases hc : S.clash with
    | true => rw [hd, hc] at hdc; exact absurd rfl hdc
    | false => rfl
  rw [hd]
  refine gd_t rfl (nn_of (gd_t rfl (ldB_of (x := S.clash) (by rw [add_mk]; exact hR.self.cell 10) (pif_f (by rw [hc]; rfl) ?_))))
  have es : spread S = ({ (if (shorts S).2 = true then spreadN S.nv (shorts S).1 else shorts S).1 with rest := (if (shorts S).2 = true then spreadN S.nv (shorts S).1 else shorts S).2, clash := !(if (shorts S).2 = true then spreadN S.nv (shorts S).1 else shorts S).2 }, (if (shorts S).2 = true then spreadN S.nv (shorts S).1 else shorts S).2) := by
    unfold spread; rw [if_neg hdc]
  refine ⟨fun s W => s.1 = (shorts S).2 ∧ WfS (shorts S).1 ∧ Fr S (shorts S).1 ∧ Nx tMine noEx w b o h (shorts S).1 W, ?_, ?_⟩
  · refine cl_of ok33 (level33 hR) fun e w4 ⟨he, hw⟩ => ⟨_, he, ?_⟩
    subst hw
    refine pif_of (fun hq => ?_) fun hq => ?_
    · have hL : S.L.length = 0 := by have : ((S.L.length : Nat) : Int) = 0 := by simpa using hq
                                     omega
      have esh : shorts S = S.short.foldl sstep (S, true) := by unfold shorts; rw [if_pos hL]
      rw [esh]
      have hsn := pts_len hR.sh
      refine nn_of (ldC_of (x := h.ss.1) (n := h.ss.2.1) (c := h.ss.2.2) (by rw [add_mk]; exact hR.self.cell 5) ?_)
      refine lp_of (fun s W => ∃ (i : Nat) (S1 : ES) (o1 : Nat → Int) (h1 : Hs), s.2.1 = (i : Int) ∧ i ≤ S.short.length ∧ (S.short.take i).foldl sstep (S, true) = (S1, s.1) ∧ WfE S1 ∧ Fr S S1 ∧ Rp noEx W b o1 h1 S1 ∧ h1.hb = h.hb ∧ Own W 68 1 h.ss.1 h.ss.2.1 h.ss.2.2 (S.short.map fun k => Pt (h.hb k)) ∧ Ag w4 o o1 ∧ Keep (fun i => tPutE (o i)) w4 W) (fun s _ => (S.short.length - s.2.1).toNat)
        ⟨0, S, o, h, rfl, Nat.zero_le _, rfl, hW.toWfE, Fr.refl _, hR, rfl, hR.sh, Ag.refl _ _, (Keep.refl None _).none⟩ ?_
      rintro ⟨ok, i', ⟨⟩⟩ W ⟨i, S1, o1, h1, rfl, hii, hfo, hw1, hfr, hRi, ehb, hSh, hai, kWi⟩
      dsimp only at hfo ⊢
      refine pif_of (fun hlt => ?_) fun hge => ?_
      · have hlt : i < S.short.length := by have : (i : Int) < (h.ss.2.1 : Int) := by simpa using hlt
                                            omega
        have hshl := hW.shl
        rw [wrap_nat i (by omega)]
        obtain ⟨k, hk⟩ := getE hlt
        obtain ⟨d, hd1⟩ := getE (show k < S1.H.length by rw [hfr.hlen]; exact hW.sh k (List.mem_of_getElem? hk))
        have hSh' := hSh
        refine hSh.ix (by omega) (by omega) fun bq hbq => ?_
        rw [hbq] at hSh'
        refine ldP_of (x := some ⟨h.hb k, 0, none⟩) (by rw [hSh'.cell _ (by omega), Int.toNat_natCast, Nat.mul_one, List.getElem?_map, hk]; rfl) ?_
        have efo : (S.short.take (i + 1)).foldl sstep (S, true) = sstep (S1, ok) k := by
          rw [take_snocN hk, List.foldl_append, hfo]; rfl
        cases ok with
        | false =>
          have ev : sstep (S1, false) k = (S1, false) := by unfold sstep; rw [if_pos rfl]
          rw [ev] at efo
          exact gd_f rfl ⟨⟨i + 1, S1, o1, h1, rfl, hlt, efo, hw1, hfr, hRi, ehb, hSh, hai, kWi⟩, by omega⟩
        | true =>
          have ev : sstep (S1, true) k = single S1 d := by unfold sstep; dsimp only; rw [if_neg (by decide), hd1]
          rw [ev] at efo
          obtain ⟨hdw, _, hdl, hdat⟩ := hw1.hl k d hd1
          have h34 := single34 hRi hd1 hdat hdw (by omega)
          rw [ehb] at h34
          refine gd_t rfl (cl_of ok34 h34 fun e w6 ⟨he, o2, h2, r2, a2, k2, e2⟩ => ⟨_, he, ?_⟩)
          refine ⟨⟨i + 1, (single S1 d).1, o2, h2, rfl, hlt, by rw [efo]; rfl, hw1.single d, hfr.trans (fr_single _ _), r2, e2.trans ehb, own_K (t := -6) hSh (fun j hj => by rw [hai j (hR.sh.lt j hj)]; exact hR.shO j hj) k2 (by intro hh; rcases hh with hh | hh | hh <;> omega), hai.trans a2 kWi.size, keep_ag kWi hai k2⟩, by omega⟩
      · have hge : i = S.short.length := by have : ¬ (i : Int) < (h.ss.2.1 : Int) := by simpa using hge
                                            omega
        subst hge
        rw [List.take_length] at hfo
        rw [hfo]
        exact ⟨rfl, hW.fr hfr hw1, hfr, o1, h1, hRi, hai, kWi.mono fun j _ hh => tput_mine hh, ehb⟩
    · have hL : ¬ S.L.length = 0 := by have : ¬ ((S.L.length : Nat) : Int) = 0 := by simpa using hq
                                       omega
      have esh : shorts S = (S, true) := by unfold shorts; rw [if_neg hL]
      rw [esh]
      exact ⟨rfl, hW, Fr.refl _, Nx.refl hR⟩
  rintro ⟨ok0, ⟨⟩⟩ w3 ⟨rfl, hW3, hF3, hN3⟩
  dsimp only
  have kd : ∀ W : World, Keep None W W.drew := fun W => (Keep.refl _ _).drew
  refine lp_of (fun s W => ∃ (n : Nat) (S1 : ES) (o1 : Nat → Int) (h1 : Hs), (if s.1 = true then spreadN n S1 else (S1, s.1)) = (if (shorts S).2 = true then spreadN S.nv (shorts S).1 else shorts S) ∧ S1.nv ≤ n + S1.head ∧ WfE S1 ∧ Rp noEx W b o1 h1 S1 ∧ h1.hb = h.hb ∧ Ag w o o1 ∧ Keep (fun i => tMine (o i)) w W ∧ S1.nv = S.nv) (fun s W => if s.1 = true then (match W.cell? ⟨b, 8, none⟩ with | some (.int _ i) => (S.nv + 1 - i).toNat | _ => 0) else 0) ?_ ?_
  · obtain ⟨o1, h1, r1, a1, k1, e1⟩ := hN3
    refine ⟨S.nv, (shorts S).1, o1, h1, ?_, by rw [hF3.nv]; omega, hW3.toWfE, r1, e1, a1, k1, hF3.nv⟩
    dsimp only
  rintro ⟨ok, ⟨⟩⟩ W ⟨n, S1, o1, h1, hsp, hn, hw1, hRi, ehb, hai, kWi, hnv1⟩
  dsimp only at hsp ⊢
  have hRd := hRi.keep0 (kd W)
  have fin : ∀ (c : ES × Bool), (if (shorts S).2 = true then spreadN S.nv (shorts S).1 else shorts S) = c → c.1 = S1 → c.2 = ok → nn (some ⟨b, 0, none⟩) fun p65 => Vc.st W.drew ((p65.add 9).add 0) (.bool ok) fun w11 => nn (some ⟨b, 0, none⟩) fun p66 => Vc.st w11 ((p66.add 10).add 0) (.bool (!ok)) fun w12 => Value.bool ok = .bool (spread S).2 ∧ Nx tMine noEx w b o h (spread S).1 w12 := by
    intro c h1' h2' h3'
    rw [es, h1', h2', h3']
    refine nn_of ?_
    rw [add_mk, add_mk]
    refine st_of hRd.self (by simp) rfl fun w11 hB11 k11 z11 => nn_of ?_
    rw [add_mk, add_mk]
    refine st_of hB11 (by simp) rfl fun w12 hB12 k12 z12 => ⟨rfl, ?_⟩
    have kk : Keep (One b) W.drew w12 := k11.trans k12 fun _ _ h => h
    have hR12 := hRd.setSelf (hd := S1.head) (r := ok) (c := !ok) (d := S1.dead) (x := S1.bad) kk hB12 (by rw [z12, z11])
    exact ⟨o1, h1, hR12, hai, (kWi.then0 (kd W)).trans kk fun j hj hh => by
      have hjb : j = b := hh
      have := hai j hj
      rw [hjb, hRi.selfO] at this
      show o j ≠ -9
      rw [hjb, ← this]; decide, ehb⟩
  cases ok with
  | false =>
    rw [if_neg (by decide)] at hsp
    exact gd_f rfl (gd_f rfl (gd_f rfl (gd_f rfl (pif_f rfl (fin _ hsp.symm rfl rfl)))))
  | true =>
    rw [if_pos rfl] at hsp
    have hoo := own_len hRi.oo
    rw [List.length_map] at hoo
    have hRlen := hRi.tr.small.2.1
    have c8 : ∀ {V : World} {o1 : Nat → Int} {h1 : Hs} {S1 : ES}, Rp noEx V b o1 h1 S1 → ∀ {K : Int → Prop}, K S1.head → ldI .i64 V ((⟨b, 0, none⟩ : Addr).add 8) K := fun {V o1 h1 S1} hRV {K} hK => by
      rw [add_mk]; exact ldI_of (hRV.self.cell 8) hK
    have c3 : ∀ {V : World} {o1 : Nat → Int} {h1 : Hs} {S1 : ES}, Rp noEx V b o1 h1 S1 → ∀ {K : Option Addr → Nat → Nat → Prop}, K h1.oo.1 h1.oo.2.1 h1.oo.2.2 → ldC V ((⟨b, 0, none⟩ : Addr).add 3) K := fun {V o1 h1 S1} hRV {K} hK => by
      rw [add_mk]; exact ldC_of (x := h1.oo.1) (n := h1.oo.2.1) (c := h1.oo.2.2) (hRV.self.cell 3) hK
    refine gd_t rfl (nn_of (gd_t rfl (c8 hRd (gd_t rfl (nn_of (gd_t rfl (c3 hRd ?_)))))))
    dsimp only
    by_cases hlt : S1.head < S1.R.length
    · have hnpos : ∃ n', n = n' + 1 := ⟨n - 1, by omega⟩
      obtain ⟨n', rfl⟩ := hnpos
      obtain ⟨e, he⟩ := getE hlt
      have hRdd := hRd.keep0 (kd W.drew)
      refine pif_t (by have : (S1.head : Int) < (h1.oo.2.1 : Int) := by omega
                       rw [decide_eq_true this]; rfl) (nn_of (c3 hRdd (nn_of (c8 hRdd ?_))))
      have hO := hRdd.oo
      refine hRdd.oo.ix (by omega) (by omega) fun bq hbq => ?_
      rw [hbq] at hO
      refine ldI_of (x := e.lit) (by rw [hO.cell _ (by omega), Int.toNat_natCast, Nat.mul_one, List.getElem?_map, List.getElem?_map, he]; rfl) (nn_of (c8 hRdd (nn_of ?_)))
      have hbd := hRi.nv
      rw [add_mk, add_mk, wrap_nat S1.head (by omega)]
      refine st_of hRdd.self (by simp) rfl fun w9 hB9 k9 z9 => ?_
      have hR9 := hRdd.setSelf (hd := S1.head + 1) (r := S1.rest) (c := S1.clash) (d := S1.dead) (x := S1.bad) k9 hB9 z9
      have hwi : Wi S1.nv e.lit := own_wi (hRi.tr.st.own e (List.mem_of_getElem? he))
      have eneg : IntKind.wrap .i64 (0 - e.lit) = -e.lit := by
        have h1 := hwi.2.1; have h2 := hwi.2.2
        rw [show (0 - e.lit : Int) = -e.lit by omega]
        rw [IntKind.wrap_i64]; omega
      rw [eneg]
      have hw9 := hw1.self (S1.head + 1) S1.rest S1.clash S1.dead S1.bad
      refine cl_of ok35 (visit35 hR9 hw9 (wi_neg hwi)) fun ee w10 ⟨hee, o2, h2, r2, a2, k2, e2⟩ => ⟨_, hee, ?_⟩
      have hfv := fr_visit { S1 with head := S1.head + 1 } (-e.lit)
      have esn : spreadN (n' + 1) S1 = if (visit { S1 with head := S1.head + 1 } (-e.lit)).2 = true then spreadN n' (visit { S1 with head := S1.head + 1 } (-e.lit)).1 else visit { S1 with head := S1.head + 1 } (-e.lit) := by
        show (match S1.R[S1.head]? with
          | none => (S1, true)
          | some e => let r := visit { S1 with head := S1.head + 1 } (-e.lit); if r.2 = true then spreadN n' r.1 else r) = _
        rw [he]
      have z9' : w9.heap.size = W.heap.size := z9
      have hhead : (visit { S1 with head := S1.head + 1 } (-e.lit)).1.head = S1.head + 1 := hfv.head
      have hnv2 : (visit { S1 with head := S1.head + 1 } (-e.lit)).1.nv = S1.nv := hfv.nv
      refine ⟨⟨n', _, o2, h2, ?_, by rw [hhead, hnv2]; omega, hw9.visit (wi_neg hwi), r2, e2.trans ehb, hai.trans a2 (by have := kWi.size; omega), ?_, hnv2.trans hnv1⟩, ?_⟩
      · rw [← hsp, esn]
      · refine (((kWi.then0 (kd W)).then0 (kd W.drew)).trans k9 fun j hj hh => ?_).trans k2 fun j hj hh => ?_
        · have hjb : j = b := hh
          have := hai j hj
          rw [hjb, hRi.selfO] at this
          show o j ≠ -9
          rw [hjb, ← this]; decide
        · rw [← hai j hj]; exact hh
      · have c1 : W.cell? ⟨b, 8, none⟩ = some (I S1.head) := hRi.self.cell 8
        have c2 : w10.cell? ⟨b, 8, none⟩ = some (I (S1.head + 1 : Nat)) := by
          have := r2.self.cell 8
          rw [hhead] at this
          exact this
        rw [c1, c2]
        by_cases h2 : (visit { S1 with head := S1.head + 1 } (-e.lit)).2 = true
        · rw [if_pos h2, if_pos rfl]; dsimp only; omega
        · rw [if_neg h2, if_pos rfl]; dsimp only; omega
    · have hnn : (if (shorts S).2 = true then spreadN S.nv (shorts S).1 else shorts S) = (S1, true) := by
        rw [← hsp]
        cases n with
        | zero => rfl
        | succ n' =>
          show (match S1.R[S1.head]? with
            | none => (S1, true)
            | some e => let r := visit { S1 with head := S1.head + 1 } (-e.lit); if r.2 = true then spreadN n' r.1 else r) = _
          rw [List.getElem?_eq_none (by omega)]
      exact pif_f (by have : ¬ (S1.head : Int) < (h1.oo.2.1 : Int) := by omega
                      rw [decide_eq_false this]; rfl) (fin _ hnn rfl rfl)
end Go.Proofs.Ytmhjehodfggleaa.Eng
