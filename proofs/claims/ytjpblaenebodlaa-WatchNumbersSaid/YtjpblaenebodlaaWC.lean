/- Watch: a clause that watches a literal; lists written down. -/
import Derived.Test.YtjpblaenebodlaaWB
set_option linter.unusedVariables false
set_option linter.unusedSimpArgs false
set_option linter.unusedSectionVars false
set_option maxRecDepth 100000
namespace Go.Proofs.Ytjpblaenebodlaa.Wt
open Go Go.Proofs.Ytjpblaenebodlaa.Vc Go.Proofs.Ytjpblaenebodlaa.T
open Go.Proofs.Ytjpblaenebodlaa.Apart (RdL own_rdl wrap_nat getE own_len copy same take_snoc Sl sv New)
open Go.Proofs.Ytjpblaenebodlaa.Lits (fl fl_iff idx idx_inj idx_range Ans ans_of indexP formedP)

theorem pts_len {w : World} {e : TypeId} {p : Option Addr} {n c : Nat} {ys : List Nat} (h : Own w e 1 p n c (ys.map Pt)) : ys.length = n := by
  have := h.len; simpa using this
section
variable {ex : Nat → Prop} {w w' : World} {b : Nat} {o : Nat → Int} {h : Hs} {S : WS}
theorem Rp.exMono {ex' : Nat → Prop} (hR : Rp ex w b o h S) (he : ∀ i, ex i → ex' i) : Rp ex' w b o h S :=
  ⟨hR.self, hR.selfO, hR.va, hR.vaO, hR.tr, hR.trO, hR.st, hR.stO, hR.out, hR.outO, hR.hl, hR.ll, fun i x ids hx hi hn => hR.inn i x ids hx hi fun h => hn (he i h), hR.innO, hR.lo, hR.loO, hR.hel⟩
/-- the lists' headers -/
theorem Rp.outAt (hR : Rp ex w b o h S) {i : Nat} {x : Sl} (hx : h.hh[i]? = some x) {K : Addr → Prop} (hK : ∀ a, w.cell? a = some (sv x) → K a) : ixA h.oo.1 h.oo.2.1 (i : Int) 1 K := by
  have hl := hR.out.len
  have hi := (List.getElem?_eq_some_iff.1 hx).1
  rw [List.length_map] at hl
  refine hR.out.ix (by omega) (by omega) fun bb hb => hK _ ?_
  have hO := hR.out
  rw [hb] at hO
  rw [hO.cell _ (by omega), Int.toNat_natCast, Nat.mul_one, List.getElem?_map, hx]; rfl
/-- one list goes on -/
theorem appH (hR : Rp ex w b o h S) {i : Nat} {x : Sl} {ids : List Nat} (hx : h.hh[i]? = some x) (hids : S.ls[i]? = some ids) (hne : ¬ ex i) (hlen : ids.length ≤ 17592186044415) {hb bb : Nat} (hB : Blk w bb [Pt hb] 74)
    {K : Option Addr → Nat → Nat → World → Prop}
    (hK : ∀ (g : Sl) (w' : World) (o' : Nat → Int), Rp (fun j => ex j ∨ j = i) w' b o' h S → Ag w o o' → Own w' 74 1 g.1 g.2.1 g.2.2 ((ids ++ [hb]).map Pt) → (∀ j, ob g.1 j → o' j = i) → Keep (fun j => o j = i) w w' → K g.1 g.2.1 g.2.2 w') :
    ∃ (p' : Option Addr) (n' c' : Nat), ∃ w' : World, (Builtin.append_ #[62, 62] 62 #[.slice x.1 x.2.1 x.2.2, .slice (some (⟨bb, 0, none⟩ : Addr)) 1 1]).run Try.prog w = .ok (.slice p' n' c') w' ∧ K p' n' c' w' := by
  have hO := hR.inn i x ids hx hids hne
  have hn := pts_len hO
  have hxo := hR.innO i x hx
  refine app_of2 (e := 74) (sz := 1) (z := .pointer none) (B := 8) Try.underlying62 (by kernel_rfl) rfl (by omega) hO hB.news1 (fun u hu => ?_) (by simp only [maxLen]; omega) (by omega) fun p' c' w' hO' hd => ?_
  · simp only [List.mem_singleton] at hu; subst hu; rfl
  have key : ∃ o' : Nat → Int, Ag w o o' ∧ (∀ j, ob p' j → o' j = i) ∧ Keep (fun j => o j = i) w w' := by
    rcases hd with ⟨e, _, _, kk⟩ | ⟨e, kk⟩
    · exact ⟨o, Ag.refl _ _, fun j hj => (hxo j (by rw [e] at hj; exact hj)).1, kk.mono fun j _ hj => (hxo j hj).1⟩
    · exact ⟨fun j => if j < w.heap.size then o j else i, fun j hj => if_pos hj, fun j hj => if_neg (by have := e j hj; omega), kk.none⟩
  obtain ⟨o', ha, hg, kk⟩ := key
  have hR' := hR.reown ha
  have k' : Keep (fun j => (fun t : Int => t = i) (o' j)) w w' := kk.mono fun j hj hh => by show o' j = i; rw [ha j hj]; exact hh
  have ni : ∀ {t : Int}, t < 0 → ¬ t = (i : Int) := fun h hh => by omega
  refine hK (p', x.2.1 + 1, c') w' o' ⟨Rp.selfK (T := fun t => t = i) hR' k' (ni (by decide)), hR'.selfO, Rp.own (T := fun t => t = i) hR'.va hR'.vaO k' (ni (by decide)), hR'.vaO, Rp.own (T := fun t => t = i) hR'.tr hR'.trO k' (ni (by decide)), hR'.trO,
    Rp.own (T := fun t => t = i) hR'.st hR'.stO k' (ni (by decide)), hR'.stO, Rp.own (T := fun t => t = i) hR'.out hR'.outO k' (ni (by decide)), hR'.outO, hR'.hl, hR'.ll, fun j y ids' hy hj hnj => ?_, hR'.innOK k',
    Rp.own (T := fun t => t = i) hR'.lo hR'.loO k' (ni (by decide)), hR'.loO, Rp.helK (T := fun t => t = i) hR' k' (ni (by decide)) (ni (by decide))⟩ ha (by rw [List.map_append]; exact hO') hg kk
  refine (hR'.inn j y ids' hy hj fun he => hnj (Or.inl he)).keep k' fun t ht hh => ?_
  have := (hR'.innO j y hy t ht).1
  have hh' : o' t = i := hh
  exact hnj (Or.inr (by omega))
/-- a list's header written down -/
theorem setOut {i : Nat} {ids' : List Nat} {g : Sl} (hR : Rp (fun j => ex j ∨ j = i) w b o h S) (hi : i < 2 * S.nv) (hO : Own w 74 1 g.1 g.2.1 g.2.2 (ids'.map Pt)) (hg : ∀ j, ob g.1 j → o j = i) {K : World → Prop}
    (hK : ∀ w', Rp ex w' b o { h with hh := h.hh.set i g } { S with ls := S.ls.set i ids' } → Keep (fun j => o j = -4) w w' → K w') :
    ixA h.oo.1 h.oo.2.1 (i : Int) 1 fun p => st w (p.add 0) (.slice g.1 g.2.1 g.2.2) K := by
  have hl := hR.out.len
  rw [List.length_map] at hl
  have hhl := hR.hl
  have hll := hR.ll
  refine hR.out.ix (by omega) (by omega) fun bb hb => ?_
  rw [Int.toNat_natCast, Nat.mul_one, add_mk, Nat.add_zero]
  have hOut := hR.out
  rw [hb] at hOut
  refine hOut.st (by omega) rfl fun w' out' k1 z1 => ?_
  have kk : Keep (fun j => (fun t : Int => t = -4) (o j)) w w' := k1.mono fun j _ hj => hR.outO j ⟨_, hb, (show j = bb from hj).symm⟩
  refine hK w' ⟨Rp.selfK (S := S) (h := h) (T := fun t => t = -4) hR kk (by decide), hR.selfO, Rp.own (T := fun t => t = -4) hR.va hR.vaO kk (by decide), hR.vaO, Rp.own (T := fun t => t = -4) hR.tr hR.trO kk (by decide), hR.trO,
    Rp.own (T := fun t => t = -4) hR.st hR.stO kk (by decide), hR.stO, by rw [List.map_set, hb]; exact out', hR.outO, by rw [List.length_set]; exact hhl, by rw [List.length_set]; exact hll, fun j y ids hy hj hnj => ?_, fun j y hy t ht => ?_,
    Rp.own (T := fun t => t = -4) hR.lo hR.loO kk (by decide), hR.loO, Rp.helK (S := S) (T := fun t => t = -4) hR kk (by decide) (by decide)⟩ kk
  · by_cases hji : j = i
    · subst hji
      rw [List.getElem?_set_self (by omega)] at hy hj
      injection hy with hy; injection hj with hj; subst hy hj
      exact hO.keep kk fun t ht hh => by have := hg t ht; have hh' : o t = -4 := hh; omega
    · rw [List.getElem?_set_ne (fun e => hji e.symm)] at hy hj
      exact Rp.innK (S := S) (h := h) (T := fun t => t = -4) hR kk (fun t ht hh => by omega) j y ids hy hj fun he => by rcases he with he | he; exact hnj he; exact hji he
  · by_cases hji : j = i
    · subst hji
      rw [List.getElem?_set_self (by omega)] at hy
      injection hy with hy; subst hy
      exact ⟨hg t ht, Nat.lt_of_lt_of_le (hO.lt t ht) kk.size⟩
    · rw [List.getElem?_set_ne (fun e => hji e.symm)] at hy
      exact Rp.innOK (S := S) (h := h) hR kk j y hy t ht
end
def Push3 (b hb : Nat) (x42 : Option Addr) (x42n x42c : Nat) (x44 : Option Addr) (x44n x44c : Nat) (l : Int) (W : World) (K : World → Prop) : Prop :=
          (
            cl Try.prog 60 [.int .i64 l] W fun e46 w8 => ∃ x45 : Int, e46 = Ending.returned (.int .i64 x45) ∧
            (
              ldC w8 ((⟨b, 0, none⟩ : Addr).add 4) fun x47 x47n x47c =>
              ((.slice x47 x47n x47c : Value) = .slice x44 x44n x44c)) ∧
            (
              ldC w8 ((⟨b, 0, none⟩ : Addr).add 4) fun x48 x48n x48c =>
              ((.slice x48 x48n x48c : Value) = .slice x42 x42n x42c)) ∧
            (
              cl Try.prog 60 [.int .i64 l] w8 fun e50 w9 => ∃ x49 : Int, e50 = Ending.returned (.int .i64 x49) ∧
              (
                ldC w9 ((⟨b, 0, none⟩ : Addr).add 4) fun x51 x51n x51c =>
                ((.slice x51 x51n x51c : Value) = .slice x44 x44n x44c)) ∧
              (
                ldC w9 ((⟨b, 0, none⟩ : Addr).add 4) fun x52 x52n x52c =>
                ((.slice x52 x52n x52c : Value) = .slice x42 x42n x42c)) ∧
              ixA x44 x44n x49 1 fun p53 =>
              ldC w9 p53 fun x54 x54n x54c =>
              alc w9 [Pt hb] 74 fun b55 w10 =>
              (
                ldC w10 p53 fun x56 x56n x56c =>
                ((.slice x56 x56n x56c : Value) = .slice x54 x54n x54c)) ∧
              (
                ldC w10 ((⟨b, 0, none⟩ : Addr).add 4) fun x57 x57n x57c =>
                ((.slice x57 x57n x57c : Value) = .slice x44 x44n x44c)) ∧
              (
                ldC w10 ((⟨b, 0, none⟩ : Addr).add 4) fun x58 x58n x58c =>
                ((.slice x58 x58n x58c : Value) = .slice x42 x42n x42c)) ∧
              ∃ (x59 : Option Addr) (x59n x59c : Nat), ∃ w11 : World, (Builtin.append_ #[62, 62] 62 #[.slice x54 x54n x54c, .slice (some (⟨b55, 0, none⟩ : Addr)) 1 1]).run Try.prog w10 = .ok (.slice x59 x59n x59c) w11 ∧
              (
                ldC w11 ((⟨b, 0, none⟩ : Addr).add 4) fun x60 x60n x60c =>
                ((.slice x60 x60n x60c : Value) = .slice x42 x42n x42c)) ∧
              ixA x42 x42n x45 1 fun p61 =>
              st w11 (p61.add 0) (.slice x59 x59n x59c) fun w12 =>
              K w12) ∧
            (
              alc w8 [Pt hb] 74 fun b63 w13 =>
              (
                ldC w13 ((⟨b, 0, none⟩ : Addr).add 4) fun x64 x64n x64c =>
                ((.slice x64 x64n x64c : Value) = .slice x44 x44n x44c)) ∧
              (
                ldC w13 ((⟨b, 0, none⟩ : Addr).add 4) fun x65 x65n x65c =>
                ((.slice x65 x65n x65c : Value) = .slice x42 x42n x42c)) ∧
              cl Try.prog 60 [.int .i64 l] w13 fun e67 w14 => ∃ x66 : Int, e67 = Ending.returned (.int .i64 x66) ∧
              (
                ldC w14 ((⟨b, 0, none⟩ : Addr).add 4) fun x68 x68n x68c =>
                ((.slice x68 x68n x68c : Value) = .slice x44 x44n x44c)) ∧
              (
                ldC w14 ((⟨b, 0, none⟩ : Addr).add 4) fun x69 x69n x69c =>
                ((.slice x69 x69n x69c : Value) = .slice x42 x42n x42c)) ∧
              ixA x44 x44n x66 1 fun p70 =>
              ldC w14 p70 fun x71 x71n x71c =>
              ∃ (x72 : Option Addr) (x72n x72c : Nat), ∃ w15 : World, (Builtin.append_ #[62, 62] 62 #[.slice x71 x71n x71c, .slice (some (⟨b63, 0, none⟩ : Addr)) 1 1]).run Try.prog w14 = .ok (.slice x72 x72n x72c) w15 ∧
              (
                ldC w15 ((⟨b, 0, none⟩ : Addr).add 4) fun x73 x73n x73c =>
                ((.slice x73 x73n x73c : Value) = .slice x42 x42n x42c)) ∧
              ixA x42 x42n x45 1 fun p74 =>
              st w15 (p74.add 0) (.slice x72 x72n x72c) fun w16 =>
              K w16)) ∧
          (
            alc W [Pt hb] 74 fun b76 w17 =>
            (
              ldC w17 ((⟨b, 0, none⟩ : Addr).add 4) fun x77 x77n x77c =>
              ((.slice x77 x77n x77c : Value) = .slice x44 x44n x44c)) ∧
            (
              ldC w17 ((⟨b, 0, none⟩ : Addr).add 4) fun x78 x78n x78c =>
              ((.slice x78 x78n x78c : Value) = .slice x42 x42n x42c)) ∧
            cl Try.prog 60 [.int .i64 l] w17 fun e80 w18 => ∃ x79 : Int, e80 = Ending.returned (.int .i64 x79) ∧
            (
              ldC w18 ((⟨b, 0, none⟩ : Addr).add 4) fun x81 x81n x81c =>
              ((.slice x81 x81n x81c : Value) = .slice x44 x44n x44c)) ∧
            (
              ldC w18 ((⟨b, 0, none⟩ : Addr).add 4) fun x82 x82n x82c =>
              ((.slice x82 x82n x82c : Value) = .slice x42 x42n x42c)) ∧
            cl Try.prog 60 [.int .i64 l] w18 fun e84 w19 => ∃ x83 : Int, e84 = Ending.returned (.int .i64 x83) ∧
            (
              ldC w19 ((⟨b, 0, none⟩ : Addr).add 4) fun x85 x85n x85c =>
              ((.slice x85 x85n x85c : Value) = .slice x44 x44n x44c)) ∧
            (
              ldC w19 ((⟨b, 0, none⟩ : Addr).add 4) fun x86 x86n x86c =>
              ((.slice x86 x86n x86c : Value) = .slice x42 x42n x42c)) ∧
            ixA x44 x44n x83 1 fun p87 =>
            ldC w19 p87 fun x88 x88n x88c =>
            ∃ (x89 : Option Addr) (x89n x89c : Nat), ∃ w20 : World, (Builtin.append_ #[62, 62] 62 #[.slice x88 x88n x88c, .slice (some (⟨b76, 0, none⟩ : Addr)) 1 1]).run Try.prog w19 = .ok (.slice x89 x89n x89c) w20 ∧
            (
              ldC w20 ((⟨b, 0, none⟩ : Addr).add 4) fun x90 x90n x90c =>
              ((.slice x90 x90n x90c : Value) = .slice x42 x42n x42c)) ∧
            ixA x42 x42n x79 1 fun p91 =>
            st w20 (p91.add 0) (.slice x89 x89n x89c) fun w21 =>
            K w21)
def tPush (i : Nat) (t : Int) : Prop := t = -4 ∨ t = i
theorem push3 {ex : Nat → Prop} {w : World} {b : Nat} {o : Nat → Int} {h : Hs} {S : WS} (hR : Rp ex w b o h S) (hnv : S.nv ≤ 1048576) {l : Int} (hl : Wi S.nv l) {ids : List Nat} (hids : S.ls[idxN l]? = some ids) (hne : ¬ ex (idxN l)) (hlen : ids.length ≤ 17592186044415) {hb : Nat}
    {K : World → Prop} (hK : ∀ w', Nx (tPush (idxN l)) ex w b o { S with ls := S.ls.set (idxN l) (ids ++ [hb]) } w' → K w') :
    Push3 b hb h.oo.1 h.oo.2.1 h.oo.2.2 h.oo.1 h.oo.2.1 h.oo.2.2 l w K := by
  have hi := idxN_lt hl
  obtain ⟨x, hx⟩ := getE (show idxN l < h.hh.length by rw [hR.hl]; exact hi)
  have hfl := wi_fl hnv hl
  have eix := idxN_eq hnv hl
  -- the end, behind the new cell
  have fin : ∀ (W : World) (bb : Nat), Keep None w W → Blk W bb [Pt hb] 74 →
      ∃ (x59 : Option Addr) (x59n x59c : Nat), ∃ w11 : World, (Builtin.append_ #[62, 62] 62 #[.slice x.1 x.2.1 x.2.2, .slice (some (⟨bb, 0, none⟩ : Addr)) 1 1]).run Try.prog W = .ok (.slice x59 x59n x59c) w11 ∧
        (ldC w11 ((⟨b, 0, none⟩ : Addr).add 4) fun x60 x60n x60c => ((.slice x60 x60n x60c : Value) = .slice h.oo.1 h.oo.2.1 h.oo.2.2)) ∧
        ixA h.oo.1 h.oo.2.1 (idx l) 1 fun p61 => st w11 (p61.add 0) (.slice x59 x59n x59c) fun w12 => K w12 := by
    intro W bb kW hB
    have hRW := hR.keep0 kW
    refine appH hRW hx hids hne hlen hB fun g w' o' hR' ha hO hg kk => ⟨?_, ?_⟩
    · rw [add_mk]
      exact ldC_of (x := h.oo.1) (n := h.oo.2.1) (c := h.oo.2.2) (hR'.self.cell 4) rfl
    · rw [eix]
      refine setOut hR' hi hO hg fun w3 hR3 k3 => hK w3 ⟨o', _, hR3, ?_, ?_⟩
      · exact fun j hj => ha j (Nat.lt_of_lt_of_le hj kW.size)
      · have k1 : Keep (fun j => tPush (idxN l) (o j)) w w' := (Keep.none (S := fun j => tPush (idxN l) (o j)) kW).trans kk fun j _ hh => Or.inr hh
        exact k1.trans k3 fun j hj hh => by
          have := ha j (Nat.lt_of_lt_of_le hj kW.size)
          rw [this] at hh
          exact Or.inl hh
  have sv4 : ∀ {V : World}, Keep None w V → ∀ {K : Option Addr → Nat → Nat → Prop}, K h.oo.1 h.oo.2.1 h.oo.2.2 → ldC V ((⟨b, 0, none⟩ : Addr).add 4) K := fun hk K hK => by
    rw [add_mk]
    exact ldC_of (x := h.oo.1) (n := h.oo.2.1) (c := h.oo.2.2) ((hR.self.keep0 hk).cell 4) hK
  unfold Push3
  refine ⟨?_, ?_⟩
  · refine cl_of ok60 (indexP hfl) fun e w8 ⟨he, k8⟩ => ⟨_, he, sv4 k8 rfl, sv4 k8 rfl, ?_, ?_⟩
    · refine cl_of ok60 (indexP hfl) fun e w9 ⟨he, k9⟩ => ⟨_, he, ?_⟩
      have k89 := k8.then0 k9
      refine ⟨sv4 k89 rfl, sv4 k89 rfl, ?_⟩
      rw [eix]
      refine (hR.keep0 k89).outAt hx fun a ha => ldC_of (x := x.1) (n := x.2.1) (c := x.2.2) ha ?_
      refine alc_at fun bb w10 hbb hB k10 => ?_
      have k810 := k89.then0 k10
      refine ⟨ldC_of (x := x.1) (n := x.2.1) (c := x.2.2) (k10.cell ha fun h => h) rfl, sv4 k810 rfl, sv4 k810 rfl, ?_⟩
      have := fin w10 bb k810 hB
      rw [eix] at this
      exact this
    · refine alc_at fun bb w13 hbb hB k13 => ?_
      have k813 := k8.then0 k13
      refine ⟨sv4 k813 rfl, sv4 k813 rfl, ?_⟩
      refine cl_of ok60 (indexP hfl) fun e w14 ⟨he, k14⟩ => ⟨_, he, ?_⟩
      have k814 := k813.then0 k14
      refine ⟨sv4 k814 rfl, sv4 k814 rfl, ?_⟩
      rw [eix]
      refine (hR.keep0 k814).outAt hx fun a ha => ldC_of (x := x.1) (n := x.2.1) (c := x.2.2) ha ?_
      have := fin w14 bb k814 (hB.keep0 k14)
      rw [eix] at this
      exact this
  · refine alc_at fun bb w17 hbb hB k17 => ?_
    refine ⟨sv4 k17 rfl, sv4 k17 rfl, ?_⟩
    refine cl_of ok60 (indexP hfl) fun e w18 ⟨he, k18⟩ => ⟨_, he, ?_⟩
    have k178 := k17.then0 k18
    refine ⟨sv4 k178 rfl, sv4 k178 rfl, ?_⟩
    refine cl_of ok60 (indexP hfl) fun e w19 ⟨he, k19⟩ => ⟨_, he, ?_⟩
    have k179 := k178.then0 k19
    refine ⟨sv4 k179 rfl, sv4 k179 rfl, ?_⟩
    rw [eix]
    refine (hR.keep0 k179).outAt hx fun a ha => ldC_of (x := x.1) (n := x.2.1) (c := x.2.2) ha ?_
    have := fin w19 bb k179 ((hB.keep0 k18).keep0 k19)
    rw [eix] at this
    exact this
end Go.Proofs.Ytjpblaenebodlaa.Wt
