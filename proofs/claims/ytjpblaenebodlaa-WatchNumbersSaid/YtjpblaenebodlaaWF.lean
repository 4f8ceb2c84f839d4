/- Watch: the clauses that watch a literal that has become false. -/
import Derived.Test.YtjpblaenebodlaaWE
set_option linter.unusedVariables false
set_option linter.unusedSimpArgs false
set_option linter.unusedSectionVars false
set_option maxRecDepth 100000
namespace Go.Proofs.Ytjpblaenebodlaa.Wt
open Go Go.Proofs.Ytjpblaenebodlaa.Vc Go.Proofs.Ytjpblaenebodlaa.T
open Go.Proofs.Ytjpblaenebodlaa.Apart (RdL own_rdl wrap_nat getE own_len copy same take_snoc Sl sv New)
open Go.Proofs.Ytjpblaenebodlaa.Lits (fl fl_iff idx idx_inj idx_range Ans ans_of indexP formedP)

/-- what is always so of a Watch -/
structure Wf (S : WS) : Prop where
  nvb : S.nv ≤ 1048576
  cons : Cons S.tr
  nd : S.tr.Nodup
  wi : ∀ l ∈ S.tr, Wi S.nv l
  trl : S.tr.length ≤ 1048576
  hel : ∀ (h : Nat) (L : List Int) (u v : Int), S.H h = some (L, u, v) → (∀ x ∈ L, Wi S.nv x) ∧ L.Nodup ∧ L.length ≤ 2097153
  lsl : ∀ (i : Nat) (ids : List Nat), S.ls[i]? = some ids → ids.length ≤ 8796093022208 ∧ ∀ h ∈ ids, ∃ L u v, S.H h = some (L, u, v) ∧ u ∈ L ∧ v ∈ L
  lol : S.lo.length ≤ 8796093022208 ∧ ∀ h ∈ S.lo, ∃ L u v, S.H h = some (L, u, v)
/-- what holds while those clauses are gone through: of those to come, of the Watch, of those that stay, and whether no clash was met -/
structure VInv (l : Int) (P : List Nat → WS → List Nat → Bool → Prop) : Prop where
  wf : ∀ {ids : List Nat} {S : WS} {st : List Nat} {ok : Bool}, P ids S st ok → Wf { S with ls := S.ls.set (idxN l) [] } ∧ st.length ≤ 8796093022208
  att : ∀ {h : Nat} {ids : List Nat} {S : WS} {st : List Nat} {ok : Bool}, P (h :: ids) S st ok → ∃ L u v, S.H h = some (L, u, v) ∧ u ∈ L ∧ v ∈ L
  skip : ∀ {h : Nat} {ids : List Nat} {S : WS} {st : List Nat}, P (h :: ids) S st false → P ids S (st ++ [h]) false
  mv : ∀ {h : Nat} {ids : List Nat} {S : WS} {st : List Nat} {L : List Int} {u v x : Int}, P (h :: ids) S st true → S.H h = some (L, u, v) → lv S.tr (othr u v l) ≠ 1 → x ∈ L → x ≠ othr u v l → x ≠ l → lv S.tr x ≠ -1 → P ids { S with H := upd S.H h (L, othr u v l, x), ls := addW S.ls (idxN x) h } st true
  one : ∀ {h : Nat} {ids : List Nat} {S : WS} {st : List Nat} {L : List Int} {u v : Int}, P (h :: ids) S st true → S.H h = some (L, u, v) → lv S.tr (othr u v l) = 1 → P ids S (st ++ [h]) true
  bad : ∀ {h : Nat} {ids : List Nat} {S : WS} {st : List Nat} {L : List Int} {u v : Int}, P (h :: ids) S st true → S.H h = some (L, u, v) → lv S.tr (othr u v l) = -1 → (∀ x ∈ L, x ≠ othr u v l → x ≠ l → lv S.tr x = -1) → P ids S (st ++ [h]) false
  put : ∀ {h : Nat} {ids : List Nat} {S : WS} {st : List Nat} {L : List Int} {u v : Int}, P (h :: ids) S st true → S.H h = some (L, u, v) → lv S.tr (othr u v l) = 0 → (∀ x ∈ L, x ≠ othr u v l → x ≠ l → lv S.tr x = -1) → P ids { S with tr := S.tr ++ [othr u v l] } (st ++ [h]) true
theorem clone61 {w : World} {p : Option Addr} {n c : Nat} {ids : List Nat} (hO : Own w 74 1 p n c (ids.map Pt)) (hn : ids.length ≤ 8796093022208) :
    Calls Try.prog 61 #[.slice p n c] w fun e w' => ∃ q d, e = .returned (.slice q n d) ∧ Own w' 74 1 q n d (ids.map Pt) ∧ (∀ j, ob q j → w.heap.size ≤ j) ∧ Keep None w w' := by
  refine (V61_calls p n c w (fun v w' => ∃ q d, v = .slice q n d ∧ Own w' 74 1 q n d (ids.map Pt) ∧ (∀ j, ob q j → w.heap.size ≤ j) ∧ Keep None w w') ?_).mono fun e w' ⟨v, he, q, d, hv, hk⟩ => ⟨q, d, by rw [he, hv], hk⟩
  unfold V61
  have hl := pts_len hO
  refine pif_of (fun hq => ?_) fun hq => ?_
  · cases p with
    | none =>
      rcases hO with ⟨_, rfl, rfl, h⟩ | ⟨b, cs, h, _⟩
      · exact ⟨none, 0, rfl, by rw [h]; exact Own.nil _ _ _, (fun j ⟨a, hh, _⟩ => by cases hh), Keep.refl _ _⟩
      · cases h
    | some a => cases hq
  · refine alc_at fun b w1 hb hB k1 => ?_
    have z1 := k1.size
    have hE : Own w1 74 1 (some ⟨b, 0, none⟩) 0 0 [] := Or.inr ⟨b, [], rfl, hB, Nat.le_refl _, Nat.zero_le _, rfl, rfl⟩
    refine app_of2 (e := 74) (sz := 1) (z := .pointer none) (B := 8) Try.underlying62 (by kernel_rfl) rfl (by omega) hE (hO.keep0 k1).news (fun u hu => ?_) (by simp only [maxLen]; omega) (by omega) fun p' c' w' hO' hd => ?_
    · obtain ⟨y, _, rfl⟩ := List.mem_map.1 hu; rfl
    · rw [List.nil_append, Nat.zero_add] at hO'
      rw [Nat.zero_add]
      refine ⟨p', c', rfl, hO', ?_, ?_⟩
      · rcases hd with ⟨e1, _, _, _⟩ | ⟨e1, _⟩
        · rintro i ⟨a, ha, rfl⟩; rw [e1] at ha; cases ha; simp only []; omega
        · intro i hi; have := e1 i hi; omega
      · rcases hd with ⟨_, _, _, k⟩ | ⟨_, k⟩
        · exact k1.trans k fun i hi ⟨a, ha, hb'⟩ => by cases ha; simp only [] at hb'; omega
        · exact k1.then0 k
/-- all of a list made nothing, and begun anew -/
theorem clearP {w : World} {p : Option Addr} {n c : Nat} {xs : List Value} (h : Own w 74 1 p n c xs) {ty : TypeId} {K : World → Prop} (hK : ∀ w', Own w' 74 1 p 0 c [] → Keep (ob p) w w' → K w') :
    ∃ w' : World, (Builtin.clear_ #[62] ty #[.slice p n c]).run Try.prog w = .ok (.tuple #[]) w' ∧ K w' := by
  rcases h with ⟨rfl, rfl, rfl, rfl⟩ | ⟨b, cs, rfl, hB, h1, h2, h3, rfl⟩
  · exact ⟨w, by simp [Builtin.clear_, run_underlying Try.underlying62], hK w (Own.nil _ _ _) (Keep.refl _ _)⟩
  · by_cases hn : n = 0
    · subst hn
      exact ⟨w, by simp [Builtin.clear_, run_underlying Try.underlying62], hK w (Or.inr ⟨b, cs, rfl, hB, Nat.zero_le _, h2, h3, by simp⟩) (Keep.refl _ _)⟩
    · have hz : ∀ w, (zeroValue 74).run Try.prog w = .ok (.pointer none) w := fun w => zeroT_spec (by kernel_rfl) w
      refine ⟨_, Lib.run_clear_slice w 62 74 ty (.pointer none) Try.underlying62 hz rfl rfl b 0 n c (by omega) (fun j hj => ?_) (fun j hj => hB.frozen _), ?_⟩
      · rw [hB.cell, List.getElem?_eq_getElem (by omega)]; rfl
      · obtain ⟨cs', q1, q2, q3, q4⟩ := Lits.setCells_blk (List.replicate n (.pointer none)) b 0 w cs hB
        exact hK _ (Or.inr ⟨b, cs', rfl, q1, Nat.zero_le _, h2, by omega, by simp⟩) (q4.mono fun i _ hi => ⟨_, rfl, (show i = b from hi).symm⟩)
def tMine (t : Int) : Prop := t ≠ -9
theorem visit46 {w : World} {b : Nat} {o : Nat → Int} {h : Hs} {S : WS} (hR : Rp noEx w b o h S) {l : Int} (hl : Wi S.nv l) {ids : List Nat} (hids : S.ls[idxN l]? = some ids) (hlen : ids.length ≤ 8796093022208) {P : List Nat → WS → List Nat → Bool → Prop} (hP : VInv l P) (h0 : P ids S [] true) :
    Calls Try.prog 46 #[Pt b, I l] w fun e w' => ∃ ok S1 st, e = .returned (.bool ok) ∧ P [] S1 st ok ∧ Nx tMine noEx w b o { S1 with ls := S1.ls.set (idxN l) st } w' := by
  refine (V46_calls (some ⟨b, 0, none⟩) l w (fun v w' => ∃ ok S1 st, v = .bool ok ∧ P [] S1 st ok ∧ Nx tMine noEx w b o { S1 with ls := S1.ls.set (idxN l) st } w') ?_).mono fun e w' ⟨v, he, ok, S1, st, hv, hk⟩ => ⟨ok, S1, st, by rw [he, hv], hk⟩
  unfold V46
  obtain ⟨wf0, _⟩ := hP.wf h0
  have hnv := wf0.nvb
  have hfl := wi_fl hnv hl
  have eix := idxN_eq hnv hl
  have hi := idxN_lt hl
  -- blocks that come are no one's
  let o0 : Nat → Int := fun i => if i < w.heap.size then o i else -9
  have ha0 : Ag w o o0 := fun i hi => if_pos hi
  have hn0 : ∀ i, w.heap.size ≤ i → o0 i = -9 := fun i hi => if_neg (by omega)
  have hR := hR.reown ha0
  obtain ⟨x, hx⟩ := getE (show idxN l < h.hh.length by rw [hR.hl]; exact hi)
  refine cl_of ok60 (indexP hfl) fun e w1 ⟨he, k1⟩ => ⟨_, he, ?_⟩
  have self4 : ∀ {V : World} {o1 : Nat → Int} {h1 : Hs} {S1 : WS} {ex1 : Nat → Prop}, Rp ex1 V b o1 h1 S1 → ∀ {K : Option Addr → Nat → Nat → Prop}, K h1.oo.1 h1.oo.2.1 h1.oo.2.2 → ldC V ((⟨b, 0, none⟩ : Addr).add 4) K := fun {V o1 h1 S1 ex1} hRV {K} hK => by
    rw [add_mk]
    exact ldC_of (x := h1.oo.1) (n := h1.oo.2.1) (c := h1.oo.2.2) (hRV.self.cell 4) hK
  have hR1 := hR.keep0 k1
  rw [eix]
  refine nn_of (self4 hR1 (hR1.outAt hx fun a ha => ldC_of (x := x.1) (n := x.2.1) (c := x.2.2) ha ?_))
  have hOx := hR1.inn _ x ids hx hids (fun h => h)
  have hxl := pts_len hOx
  refine cl_of ok61 (clone61 hOx hlen) fun e w2 ⟨q, qd, he, hQ, hqn, k2⟩ => ⟨q, _, qd, he, ?_⟩
  have k02 := k1.then0 k2
  have hR2 := hR1.keep0 k2
  refine nn_of (self4 hR2 (hR2.outAt hx fun a ha => ldC_of (x := x.1) (n := x.2.1) (c := x.2.2) ha ?_))
  have hOx2 := hR2.inn _ x ids hx hids (fun h => h)
  refine clearP hOx2 fun w3 hSt k3 => ?_
  have hxo := hR2.innO _ x hx
  have k3' : Keep (fun j => (fun t : Int => t = idxN l) (o0 j)) w2 w3 := k3.mono fun j _ hj => (hxo j hj).1
  have ni : ∀ {t : Int}, t < 0 → ¬ t = ((idxN l : Nat) : Int) := fun h hh => by omega
  have hqo : ∀ j, ob q j → o0 j = -9 := fun j hj => hn0 j (by have := hqn j hj; have := k1.size; omega)
  have hQ3 : Own w3 74 1 q x.2.1 qd (ids.map Pt) := hQ.keep k3' fun j hj hh => by have := hqo j hj; have hh' : o0 j = idxN l := hh; omega
  have hR3 : Rp (fun j => j = idxN l) w3 b o0 h S := ⟨Rp.selfK (T := fun t => t = idxN l) hR2 k3' (ni (by decide)), hR2.selfO, Rp.own (T := fun t => t = idxN l) hR2.va hR2.vaO k3' (ni (by decide)), hR2.vaO, Rp.own (T := fun t => t = idxN l) hR2.tr hR2.trO k3' (ni (by decide)), hR2.trO,
    Rp.own (T := fun t => t = idxN l) hR2.st hR2.stO k3' (ni (by decide)), hR2.stO, Rp.own (T := fun t => t = idxN l) hR2.out hR2.outO k3' (ni (by decide)), hR2.outO, hR2.hl, hR2.ll, (fun j y ids' hy hj hnj => (hR2.inn j y ids' hy hj fun h => h).keep k3' fun t ht hh => by
      have := (hR2.innO j y hy t ht).1
      have hh' : o0 t = idxN l := hh
      exact hnj (by omega)), hR2.innOK k3',
    Rp.own (T := fun t => t = idxN l) hR2.lo hR2.loO k3' (ni (by decide)), hR2.loO, Rp.helK (T := fun t => t = idxN l) hR2 k3' (ni (by decide)) (ni (by decide))⟩
  have k03 : Keep (fun i => tMine (o0 i)) w w3 := (Keep.none k02).trans k3' fun j _ hh => by have hh' : o0 j = idxN l := hh; show o0 j ≠ -9; omega
  refine nn_of (self4 hR3 (hR3.outAt hx fun a ha => ldC_of (x := x.1) (n := x.2.1) (c := x.2.2) ha ⟨by omega, by omega, ?_⟩))
  have esl : slA x.1 x.2.2 0 1 = x.1 := Lits.slA_zero _ _ _
  rw [esl]
  refine lp_of (fun s W => ∃ (i : Nat) (S1 : WS) (st : List Nat) (o1 : Nat → Int) (h1 : Hs), s.2.2.1 = (i : Int) ∧ i ≤ ids.length ∧ P (ids.drop i) S1 st s.2.1 ∧ S1.nv = S.nv ∧ Rp (fun j => j = idxN l) W b o1 h1 S1 ∧ Own W 74 1 s.1.1 s.1.2.1 s.1.2.2 (st.map Pt) ∧ (∀ j, ob s.1.1 j → o1 j = idxN l) ∧
      Own W 74 1 q x.2.1 qd (ids.map Pt) ∧ (∀ j, ob q j → o1 j = -9) ∧ Ag w o0 o1 ∧ Keep (fun i => tMine (o0 i)) w W) (fun s _ => (ids.length - s.2.2.1).toNat)
    ⟨0, S, [], o0, h, rfl, Nat.zero_le _, h0, rfl, hR3, hSt, (fun j hj => (hxo j hj).1), hQ3, hqo, Ag.refl _ _, k03⟩ ?_
  rintro ⟨⟨sp, sn, sc⟩, ok, i', ⟨⟩⟩ W ⟨i, S1, st, o1, h1, rfl, hii, hPi, hnv1, hRi, hSt, hsto, hQi, hqoi, hai, kWi⟩
  simp only [] at hPi hSt hsto ⊢
  obtain ⟨wf1, hstl⟩ := hP.wf hPi
  have hstn := pts_len hSt
  refine pif_of (fun hlt => ?_) fun hge => ?_
  · have hlt : i < ids.length := by have : (i : Int) < (x.2.1 : Int) := by simpa using hlt
                                    omega
    rw [wrap_nat i (by omega)]
    obtain ⟨hb, hhb⟩ := getE hlt
    have edr : ids.drop i = hb :: ids.drop (i + 1) := by
      obtain ⟨hx1, hx2⟩ := List.getElem?_eq_some_iff.1 hhb
      rw [List.drop_eq_getElem_cons hx1, hx2]
    rw [edr] at hPi
    obtain ⟨L, u, v, hH, huL, hvL⟩ := hP.att hPi
    obtain ⟨hLw, hLn, hLl⟩ := wf1.hel hb L u v hH
    have hl1 : Wi S1.nv l := by rw [hnv1]; exact hl
    refine ⟨fun s W' => ∃ (S2 : WS) (st2 : List Nat) (o2 : Nat → Int) (h2 : Hs), P (ids.drop (i + 1)) S2 st2 s.2.1 ∧ S2.nv = S.nv ∧ Rp (fun j => j = idxN l) W' b o2 h2 S2 ∧ Own W' 74 1 s.1.1 s.1.2.1 s.1.2.2 (st2.map Pt) ∧ (∀ j, ob s.1.1 j → o2 j = idxN l) ∧
      Own W' 74 1 q x.2.1 qd (ids.map Pt) ∧ (∀ j, ob q j → o2 j = -9) ∧ Ag w o0 o2 ∧ Keep (fun i => tMine (o0 i)) w W', ?_, ?_⟩
    rotate_left
    · rintro ⟨⟨p', n', c'⟩, ok', ⟨⟩⟩ W' ⟨S2, st2, o2, h2, q1, q2, q3, q4, q5, q6, q7, q8, q9⟩
      exact ⟨⟨i + 1, S2, st2, o2, h2, rfl, hlt, q1, q2, q3, q4, q5, q6, q7, q8, q9⟩, by omega⟩
    have hQe := hQi.len
    refine hQi.ix (by omega) (by omega) fun bq hbq => ?_
    have hQi' := hQi
    rw [hbq] at hQi'
    refine ldP_of (x := some ⟨hb, 0, none⟩) (by rw [hQi'.cell _ (by omega), Int.toNat_natCast, Nat.mul_one, List.getElem?_map, hhb]; rfl) ?_
    -- h stays
    have stay : ∀ (W5 : World), Keep None W W5 → ∀ {K : Option Addr → Nat → Nat → World → Prop},
        (∀ (g : Sl) (w' : World) (o2 : Nat → Int), Rp (fun j => j = idxN l) w' b o2 h1 S1 → Own w' 74 1 g.1 g.2.1 g.2.2 ((st ++ [hb]).map Pt) → (∀ j, ob g.1 j → o2 j = idxN l) → Own w' 74 1 q x.2.1 qd (ids.map Pt) → (∀ j, ob q j → o2 j = -9) → Ag w o0 o2 → Keep (fun i => tMine (o0 i)) w w' → K g.1 g.2.1 g.2.2 w') →
        alc W5 [Pt hb] 74 fun b43 w8 => ∃ (x44 : Option Addr) (x44n x44c : Nat), ∃ w9 : World, (Builtin.append_ #[62, 62] 62 #[.slice sp sn sc, .slice (some (⟨b43, 0, none⟩ : Addr)) 1 1]).run Try.prog w8 = .ok (.slice x44 x44n x44c) w9 ∧ K x44 x44n x44c w9 := by
      intro W5 kW5 K hK
      refine alc_at fun bb w8 hbb hB k8 => ?_
      have k58 := kW5.then0 k8
      have hSt8 := hSt.keep0 k58
      have hR8 := hRi.keep0 k58
      have hQ8 := hQi.keep0 k58
      refine app_of2 (e := 74) (sz := 1) (z := .pointer none) (B := 8) Try.underlying62 (by kernel_rfl) rfl (by omega) hSt8 hB.news1 (fun u hu => ?_) (by simp only [maxLen]; omega) (by omega) fun p' c' w' hO' hd => ?_
      · simp only [List.mem_singleton] at hu; subst hu; rfl
      have key : ∃ o2 : Nat → Int, Ag w8 o1 o2 ∧ (∀ j, ob p' j → o2 j = idxN l) ∧ Keep (fun j => o1 j = idxN l) w8 w' := by
        rcases hd with ⟨e, _, _, kk⟩ | ⟨e, kk⟩
        · exact ⟨o1, Ag.refl _ _, fun j hj => hsto j (by rw [e] at hj; exact hj), kk.mono fun j _ hj => hsto j hj⟩
        · exact ⟨fun j => if j < w8.heap.size then o1 j else idxN l, fun j hj => if_pos hj, fun j hj => if_neg (by have := e j hj; omega), kk.none⟩
      obtain ⟨o2, ha2, hg2, kk⟩ := key
      have hR8' := hR8.reown ha2
      have kk' : Keep (fun j => (fun t : Int => t = idxN l) (o2 j)) w8 w' := kk.mono fun j hj hh => by show o2 j = idxN l; rw [ha2 j hj]; exact hh
      have z8 : w.heap.size ≤ w8.heap.size := Nat.le_trans kWi.size k58.size
      refine hK (p', sn + 1, c') w' o2 ⟨Rp.selfK (T := fun t => t = idxN l) hR8' kk' (ni (by decide)), hR8'.selfO, Rp.own (T := fun t => t = idxN l) hR8'.va hR8'.vaO kk' (ni (by decide)), hR8'.vaO, Rp.own (T := fun t => t = idxN l) hR8'.tr hR8'.trO kk' (ni (by decide)), hR8'.trO,
        Rp.own (T := fun t => t = idxN l) hR8'.st hR8'.stO kk' (ni (by decide)), hR8'.stO, Rp.own (T := fun t => t = idxN l) hR8'.out hR8'.outO kk' (ni (by decide)), hR8'.outO, hR8'.hl, hR8'.ll, (fun j y ids' hy hj hnj => (hR8'.inn j y ids' hy hj hnj).keep kk' fun t ht hh => by
          have := (hR8'.innO j y hy t ht).1
          have hh' : o2 t = idxN l := hh
          exact hnj (by omega)), hR8'.innOK kk',
        Rp.own (T := fun t => t = idxN l) hR8'.lo hR8'.loO kk' (ni (by decide)), hR8'.loO, Rp.helK (T := fun t => t = idxN l) hR8' kk' (ni (by decide)) (ni (by decide))⟩ (by rw [List.map_append]; exact hO') hg2 ?_ ?_ ?_ ?_
      · exact hQ8.keep kk fun j hj hh => by have := hqoi j hj; omega
      · exact fun j hj => by rw [ha2 j (hQ8.lt j hj)]; exact hqoi j hj
      · exact hai.trans ha2 z8
      · exact (kWi.then0 k58).trans kk fun j hj hh => by
          have := hai j hj
          show o0 j ≠ -9
          rw [← this]; omega
    cases ok with
    | false =>
      refine gd_f rfl (pif_f rfl ?_)
      refine stay W (Keep.refl _ _) fun g w' o2 q3 q4 q5 q6 q7 q8 q9 => ?_
      exact pif_t rfl ⟨S1, st ++ [hb], o2, h1, hP.skip hPi, hnv1, q3, q4, q5, q6, q7, q8, q9⟩
    | true =>
      have huv : Wi S1.nv u ∧ Wi S1.nv v := ⟨hLw u huL, hLw v hvL⟩
      refine gd_t rfl (cl_of ok62 (moved62 hRi wf1.cons wf1.nvb hH hLw hLl hl1 huv (fun i hi => hi) (fun i ids hne hh => (wf1.lsl i ids (by show (S1.ls.set (idxN l) [])[i]? = _; rw [List.getElem?_set_ne (fun e => hne e.symm)]; exact hh)).1)) fun e w6 ⟨r, he, hMv⟩ => ?_)
      rcases hMv with ⟨rfl, k6, hcase⟩ | ⟨rfl, hot, y, hyL, hyo, hyl, hyv, hNx⟩
      · refine ⟨_, he, pif_f rfl ?_⟩
        refine stay w6 k6 fun g w9 o2 q3 q4 q5 q6 q7 q8 q9 => pif_f rfl (nn_of ?_)
        obtain ⟨_, lp, ln, lc, hB9, _, _⟩ := q3.hel hb L u v hH
        have at0 : ∀ {j : Nat} {y : Int}, j < 2 → ([.slice lp ln lc, I u, I v] : List Value)[1 + j]? = some (I y) → ∀ {K : Int → Prop}, K y → ixA (some ((⟨hb, 0, none⟩ : Addr).add 1)) 2 (j : Int) 1 fun p => ldI .i64 w9 p K := fun {j y} hj hy {K} hK => by
          rw [add_mk]
          refine ixA_of (by omega) (by omega) ?_
          rw [Int.toNat_natCast, Nat.mul_one]
          exact ldI_of (by rw [hB9.cell]; simpa using hy) hK
        refine at0 (j := 0) (y := u) (by omega) rfl ?_
        have hwo : Wi S1.nv (othr u v l) := by unfold othr; split; exact huv.2; exact huv.1
        refine ⟨fun s W' => s.1 = othr u v l ∧ W' = w9, ?_, ?_⟩
        · refine pif_of (fun hq => ?_) fun hq => ?_
          · have hq : u = l := by simpa using hq
            refine nn_of (at0 (j := 1) (y := v) (by omega) rfl ⟨?_, by first | rfl | trivial⟩)
            unfold othr; rw [if_pos hq]
          · have hq : ¬ u = l := by simpa using hq
            exact ⟨by unfold othr; rw [if_neg hq], by first | rfl | trivial⟩
        rintro ⟨ot, ⟨⟩⟩ W10 ⟨rfl, rfl⟩
        simp only []
        refine cl_of ok26 (of26 q3 wf1.cons wf1.nvb hwo) fun e w11 ⟨he, k11⟩ => ⟨_, he, ?_⟩
        rcases hcase with hc1 | ⟨hc1, hall⟩
        · rw [hc1]
          exact pif_f rfl (pif_f rfl ⟨S1, st ++ [hb], o2, h1, hP.one hPi hH hc1, hnv1, q3.keep0 k11, q4.keep0 k11, q5, q6.keep0 k11, q7, q8, q9.then0 k11⟩)
        · rcases lv_cases S1.tr (othr u v l) with h2 | h2 | h2
          · exact absurd h2 hc1
          · rw [h2]
            exact pif_t rfl ⟨S1, st ++ [hb], o2, h1, hP.bad hPi hH h2 hall, hnv1, q3.keep0 k11, q4.keep0 k11, q5, q6.keep0 k11, q7, q8, q9.then0 k11⟩
          · rw [h2]
            refine pif_f rfl (pif_t rfl ?_)
            refine cl_of ok27 (put27 (q3.keep0 k11) wf1.nvb wf1.trl hwo h2) fun e w12 ⟨he, o3, h3, hR12, ha3, k12⟩ => ⟨he, ?_⟩
            have q4' := q4.keep0 k11
            have q6' := q6.keep0 k11
            have np : ∀ {t : Int}, (0 ≤ t ∨ t = -9) → ¬ tPut t := fun h hh => by rcases hh with hh | hh | hh <;> omega
            exact ⟨_, st ++ [hb], o3, h3, hP.put hPi hH h2 hall, hnv1, hR12, Rp.own (T := tPut) q4' q5 k12 (np (Or.inl (by omega))), (fun j hj => by rw [ha3 j (q4'.lt j hj)]; exact q5 j hj), Rp.own (T := tPut) q6' q7 k12 (np (Or.inr rfl)), (fun j hj => by rw [ha3 j (q6'.lt j hj)]; exact q7 j hj),
              q8.trans ha3 (q9.then0 k11).size, (q9.then0 k11).trans k12 fun j hj hh => by
                have := q8 j hj
                have hh' : tPut (o2 j) := hh
                show o0 j ≠ -9
                rw [← this]; rcases hh' with hh' | hh' | hh' <;> omega⟩
      · obtain ⟨o2, h2, hR6, ha2, k6⟩ := hNx
        refine ⟨_, he, pif_t rfl ?_⟩
        have nm : ∀ {t : Int}, (t = idxN l ∨ t = -9) → ¬ tMov (idxN l) t := fun h hh => by
          rcases hh with hh | hh | ⟨hh, hh2⟩
          · omega
          · omega
          · rcases h with h | h
            · exact hh2 h
            · omega
        exact ⟨_, st, o2, h2, hP.mv hPi hH hot hyL hyo hyl hyv, hnv1, hR6, Rp.own (T := tMov (idxN l)) hSt hsto k6 (nm (Or.inl rfl)), (fun j hj => by rw [ha2 j (hSt.lt j hj)]; exact hsto j hj), Rp.own (T := tMov (idxN l)) hQi hqoi k6 (nm (Or.inr rfl)), (fun j hj => by rw [ha2 j (hQi.lt j hj)]; exact hqoi j hj),
          hai.trans ha2 kWi.size, kWi.trans k6 fun j hj hh => by
            have := hai j hj
            have hh' : tMov (idxN l) (o1 j) := hh
            show o0 j ≠ -9
            rw [← this]; rcases hh' with hh' | hh' | ⟨hh', _⟩ <;> omega⟩
  · have hge : i = ids.length := by have : ¬ (i : Int) < (x.2.1 : Int) := by simpa using hge
                                    omega
    subst hge
    rw [List.drop_length] at hPi
    have hR' : Rp (fun j => noEx j ∨ j = idxN l) W b o1 h1 S1 := hRi.exMono fun j hj => Or.inr hj
    have := setOut (g := (sp, sn, sc)) (ids' := st) hR' (by rw [hnv1]; exact hi) hSt hsto (K := fun w13 => ∃ ok' S1 st, Value.bool ok = .bool ok' ∧ P [] S1 st ok' ∧ Nx tMine noEx w b o { S1 with ls := S1.ls.set (idxN l) st } w13) fun w' hRR kk => ⟨ok, S1, st, rfl, hPi, o1, _, hRR, fun j hj => (hai j hj).trans (ha0 j hj), ?_⟩
    · exact nn_of (self4 hRi this)
    · have k1' : Keep (fun i => tMine (o i)) w W := kWi.mono fun j hj hh => by show o j ≠ -9; rw [← ha0 j hj]; exact hh
      exact k1'.trans kk fun j hj hh => by
        have e1 := hai j hj
        have e2 := ha0 j hj
        have hh' : o1 j = -4 := hh
        show o j ≠ -9
        omega
end Go.Proofs.Ytjpblaenebodlaa.Wt
