/- PairingNamed: how teams are numbered does not matter: the plain law. -/
import Derived.Test.YtiedecekbdaohaaMade36
namespace Go.Proofs.Ytiedecekbdaohaa

theorem erase_map (f : Int → Int) : ∀ (l : List Int) (i : Nat), (l.map f).eraseIdx i = (l.eraseIdx i).map f
  | [], _ => rfl
  | _ :: _, 0 => rfl
  | x :: l, i + 1 => by
    rw [List.map_cons, List.eraseIdx_cons_succ, List.eraseIdx_cons_succ, List.map_cons, erase_map f l i]
theorem pDraw_ok {t : List Int} {m : List Pr} {b : List Int} (h : pWrong t m = 0) : pDraw t m b = if t.length % 2 = 0 then (nthR m t 0, 0, nthE m t 0) else
    match byeFrom m t b t.length with
    | some (d, x) => (d, x, 0)
    | none => ([], 0, 6) := by
  unfold pDraw
  rw [if_neg (fun hh => hh h)]
  split
  · rfl
  · cases byeFrom m t b t.length with
    | none => rfl
    | some r => obtain ⟨d, x⟩ := r; rfl
/-- A number turned round. -/
def tn (y : Nat) (t : Int) : Int := 1 + (t - 1 + y) % 64
def tnP (y : Nat) (p : Pr) : Pr := (tn y p.1, tn y p.2)
theorem tn_num (y : Nat) (t : Int) : 1 ≤ tn y t ∧ tn y t ≤ 64 := by unfold tn; omega
theorem tn_inj {y : Nat} {a b : Int} (ha : 1 ≤ a ∧ a ≤ 64) (hb : 1 ≤ b ∧ b ≤ 64) : tn y a = tn y b ↔ a = b := by
  constructor
  · intro h; unfold tn at h; omega
  · rintro rfl; rfl
def Nums (l : List Int) : Prop := ∀ x ∈ l, 1 ≤ x ∧ x ≤ 64
def NumsP (m : List Pr) : Prop := ∀ p ∈ m, (1 ≤ p.1 ∧ p.1 ≤ 64) ∧ (1 ≤ p.2 ∧ p.2 ≤ 64)
theorem pMet_tn {y : Nat} {m : List Pr} (hm : NumsP m) {a b : Int} (ha : 1 ≤ a ∧ a ≤ 64) (hb : 1 ≤ b ∧ b ≤ 64) : pMet (m.map (tnP y)) (tn y a) (tn y b) = pMet m a b := by
  have key : ∀ p ∈ m, metP (tn y a) (tn y b) (tnP y p) = metP a b p := by
    intro p hp
    obtain ⟨h1, h2⟩ := hm p hp
    unfold metP tnP
    dsimp only
    have e : ∀ u v : Int, (1 ≤ u ∧ u ≤ 64) → (1 ≤ v ∧ v ≤ 64) → (tn y u == tn y v) = (u == v) := fun u v hu hv => by
      rw [Bool.eq_iff_iff, beq_iff_eq, beq_iff_eq]; exact tn_inj hu hv
    rw [e _ _ h1 ha, e _ _ h2 hb, e _ _ h1 hb, e _ _ h2 ha]
  unfold pMet
  rw [List.any_map]
  have : ∀ l : List Pr, (∀ p ∈ l, p ∈ m) → l.any (metP (tn y a) (tn y b) ∘ tnP y) = l.any (metP a b) := by
    intro l
    induction l with
    | nil => intro _; rfl
    | cons p l ih =>
      intro h
      rw [List.any_cons, List.any_cons, ih (fun q hq => h q (List.mem_cons_of_mem _ hq))]
      congr 1
      exact key p (h p (List.mem_cons_self ..))
  exact this m (fun p hp => hp)
theorem draws_tn {y : Nat} {m : List Pr} (hm : NumsP m) : ∀ n l, List.length l = n → Nums l → draws (m.map (tnP y)) (l.map (tn y)) = (draws m l).map (List.map (tnP y)) := by
  intro n
  induction n using Nat.strongRecOn with
  | _ n ih =>
    intro l hl hN
    cases l with
    | nil => rfl
    | cons t rest =>
      rw [List.map_cons, draws_cons, draws_cons, List.length_map]
      have key : ∀ k, k ≤ rest.length → drawsTo (m.map (tnP y)) (tn y t) (rest.map (tn y)) k = (drawsTo m t rest k).map (List.map (tnP y)) := by
        intro k
        induction k with
        | zero => intro _; rfl
        | succ k ihk =>
          intro hk
          obtain ⟨x, hx⟩ := getI_some (l := rest) (k := k) (by omega)
          have hxm := List.mem_of_getElem? hx
          have hx' : (rest.map (tn y))[k]? = some (tn y x) := by rw [List.getElem?_map, hx]; rfl
          unfold drawsTo
          rw [ihk (by omega), hx, hx', Option.getD_some, Option.getD_some, pMet_tn hm (hN t (List.mem_cons_self ..)) (hN x (List.mem_cons_of_mem _ hxm)), List.map_append]
          congr 1
          cases pMet m t x with
          | true => rfl
          | false =>
            rw [if_neg Bool.noConfusion, if_neg Bool.noConfusion, erase_map, ih (rest.eraseIdx k).length (by rw [List.length_eraseIdx_of_lt (by omega)]; simp at hl; omega) _ rfl (fun z hz => hN z (List.mem_cons_of_mem _ (List.mem_of_mem_eraseIdx hz))), List.map_map, List.map_map]
            rfl
      exact key rest.length (Nat.le_refl _)
theorem cnt_tn {y : Nat} {m : List Pr} (hm : NumsP m) {l : List Int} (hN : Nums l) : cnt (m.map (tnP y)) (l.map (tn y)) = cnt m l := by
  unfold cnt; rw [draws_tn hm _ l rfl hN, List.length_map]
theorem nth_tn {y : Nat} {m : List Pr} (hm : NumsP m) {l : List Int} (hN : Nums l) (k : Int) : nthE (m.map (tnP y)) (l.map (tn y)) k = nthE m l k ∧ nthR (m.map (tnP y)) (l.map (tn y)) k = (nthR m l k).map (tnP y) := by
  unfold nthE nthR
  rw [cnt_tn hm hN, draws_tn hm _ l rfl hN]
  refine ⟨rfl, ?_⟩
  split
  · rw [List.getElem?_map]
    cases (draws m l)[k.toNat]? <;> rfl
  · rfl
theorem bye_tn {y : Nat} {m : List Pr} (hm : NumsP m) {l : List Int} (hN : Nums l) : ∀ i, i ≤ l.length → byeFrom (m.map (tnP y)) (l.map (tn y)) [] i = (byeFrom m l [] i).map fun r => (r.1.map (tnP y), tn y r.2)
  | 0, _ => rfl
  | i + 1, hi => by
    obtain ⟨x, hx⟩ := getI_some (l := l) (k := i) (by omega)
    have hx' : (l.map (tn y))[i]? = some (tn y x) := by rw [List.getElem?_map, hx]; rfl
    have hNe : Nums (l.eraseIdx i) := fun z hz => hN z (List.mem_of_mem_eraseIdx hz)
    unfold byeFrom
    have h0 : ∀ v, hasI [] v = false := fun v => by unfold hasI; simp
    rw [hx, hx', h0, h0, if_neg (show ¬ (false = true) from Bool.noConfusion), if_neg (show ¬ (false = true) from Bool.noConfusion), erase_map, cnt_tn hm hNe, (nth_tn hm hNe 0).2]
    split
    · rfl
    · exact bye_tn hm hN i (by omega)
theorem right_of {t : List Int} {m : List Pr} (ht : TeamsOk t) (hm : MetOk t m) : pRight t m = true := by
  unfold pRight
  rw [Bool.and_eq_true_iff]
  constructor
  · refine decide_eq_true (fun j hj => ?_)
    rw [List.getElem?_eq_getElem hj, Option.getD_some]
    refine ⟨decide_eq_true (ht.2 _ (List.getElem_mem hj)), fun hmem => ?_⟩
    obtain ⟨i, hi, he⟩ := List.mem_take_iff_getElem.1 hmem
    exact (List.pairwise_iff_getElem.1 ht.1) i j (by omega) hj (by omega) he
  · rw [Bool.not_eq_true', List.any_eq_false]
    intro p hp
    obtain ⟨h1, h2, h3⟩ := hm p hp
    unfold pairBad numB
    rw [decide_eq_true (ht.2 _ h1), decide_eq_true (ht.2 _ h2)]
    simpa using h3
theorem wrong_of {t : List Int} {m : List Pr} (ht : TeamsOk t) (hm : MetOk t m) (h16 : t.length ≤ 16) : pWrong t m = 0 := by
  unfold pWrong
  rw [right_of ht hm, if_neg Bool.noConfusion, if_neg (by omega)]
theorem teams_tn {y : Nat} {t : List Int} (ht : TeamsOk t) : TeamsOk (t.map (tn y)) := by
  refine ⟨?_, fun x hx => ?_⟩
  · rw [List.Nodup, List.pairwise_map]
    refine List.Pairwise.imp_of_mem ?_ ht.1
    intro a b ha hb hne e
    exact hne ((tn_inj (ht.2 a ha) (ht.2 b hb)).1 e)
  · obtain ⟨z, _, rfl⟩ := List.mem_map.1 hx
    exact tn_num y z
theorem met_tn {y : Nat} {t : List Int} {m : List Pr} (ht : TeamsOk t) (hm : MetOk t m) : MetOk (t.map (tn y)) (m.map (tnP y)) := by
  intro p hp
  obtain ⟨q, hq, rfl⟩ := List.mem_map.1 hp
  obtain ⟨h1, h2, h3⟩ := hm q hq
  exact ⟨List.mem_map.2 ⟨_, h1, rfl⟩, List.mem_map.2 ⟨_, h2, rfl⟩, fun e => h3 ((tn_inj (ht.2 _ h1) (ht.2 _ h2)).1 e)⟩
theorem numsP_of {t : List Int} {m : List Pr} (ht : TeamsOk t) (hm : MetOk t m) : NumsP m := fun p hp => ⟨ht.2 _ (hm p hp).1, ht.2 _ (hm p hp).2.1⟩
theorem draws_mem (m : List Pr) : ∀ n l, List.length l = n → ∀ d ∈ draws m l, ∀ p ∈ d, p.1 ∈ l ∧ p.2 ∈ l := by
  intro n
  induction n using Nat.strongRecOn with
  | _ n ih =>
    intro l hl
    cases l with
    | nil =>
      intro d hd p hp
      rw [draws_nil, List.mem_singleton] at hd
      subst hd
      cases hp
    | cons t rest =>
      rw [draws_cons]
      have key : ∀ k, k ≤ rest.length → ∀ d ∈ drawsTo m t rest k, ∀ p ∈ d, p.1 ∈ t :: rest ∧ p.2 ∈ t :: rest := by
        intro k
        induction k with
        | zero => intro _ d hd; cases hd
        | succ k ihk =>
          intro hk d hd p hp
          obtain ⟨x, hx⟩ := getI_some (l := rest) (k := k) (by omega)
          have hxm := List.mem_of_getElem? hx
          unfold drawsTo at hd
          rw [hx, Option.getD_some] at hd
          rcases List.mem_append.1 hd with hd | hd
          · exact ihk (by omega) d hd p hp
          · split at hd
            · cases hd
            · obtain ⟨d', hd', rfl⟩ := List.mem_map.1 hd
              rcases List.mem_cons.1 hp with rfl | hp
              · exact ⟨List.mem_cons_self .., List.mem_cons_of_mem _ hxm⟩
              · have := ih (rest.eraseIdx k).length (by rw [List.length_eraseIdx_of_lt (by omega)]; simp at hl; omega) _ rfl d' hd' p hp
                exact ⟨List.mem_cons_of_mem _ (List.mem_of_mem_eraseIdx this.1), List.mem_cons_of_mem _ (List.mem_of_mem_eraseIdx this.2)⟩
      exact key rest.length (Nat.le_refl _)
theorem nthR_mem (m : List Pr) (l : List Int) (k : Int) : ∀ p ∈ nthR m l k, p.1 ∈ l ∧ p.2 ∈ l := by
  intro p hp
  unfold nthR at hp
  split at hp
  · cases hq : (draws m l)[k.toNat]? with
    | none => rw [hq] at hp; cases hp
    | some d => rw [hq] at hp; exact draws_mem m _ l rfl d (List.mem_of_getElem? hq) p hp
  · cases hp
theorem byeFrom_mem {m : List Pr} {t : List Int} : ∀ i d b, i ≤ t.length → byeFrom m t [] i = some (d, b) → b ∈ t ∧ ∀ p ∈ d, p.1 ∈ t ∧ p.2 ∈ t := by
  intro i
  induction i with
  | zero => intro d b _ h; cases h
  | succ i ih =>
    intro d b hi h
    obtain ⟨x, hx⟩ := getI_some (l := t) (k := i) (by omega)
    unfold byeFrom at h
    rw [hx, Option.getD_some] at h
    split at h
    · exact ih d b (by omega) h
    · split at h
      · cases h
        refine ⟨List.mem_of_getElem? hx, fun p hp => ?_⟩
        have := nthR_mem m _ 0 p hp
        exact ⟨List.mem_of_mem_eraseIdx this.1, List.mem_of_mem_eraseIdx this.2⟩
      · exact ih d b (by omega) h
/-- All numbers of what Draw returns are numbers of teams. -/
theorem draw_nums {t : List Int} {m : List Pr} (ht : TeamsOk t) (hm : MetOk t m) (h16 : t.length ≤ 16) :
    (∀ p ∈ (pDraw t m []).1, (1 ≤ p.1 ∧ p.1 ≤ 64) ∧ (1 ≤ p.2 ∧ p.2 ≤ 64)) ∧ ((pDraw t m []).2.1 = 0 ∨ 1 ≤ (pDraw t m []).2.1 ∧ (pDraw t m []).2.1 ≤ 64) := by
  rw [pDraw_ok (wrong_of ht hm h16)]
  by_cases ho : t.length % 2 = 0
  · rw [if_pos ho]
    refine ⟨fun p hp => ?_, .inl rfl⟩
    have := nthR_mem m t 0 p hp
    exact ⟨ht.2 _ this.1, ht.2 _ this.2⟩
  · rw [if_neg ho]
    cases hq : byeFrom m t [] t.length with
    | none => exact ⟨(fun p hp => by cases hp), .inl rfl⟩
    | some r =>
      obtain ⟨d, b⟩ := r
      obtain ⟨h1, h2⟩ := byeFrom_mem _ d b (Nat.le_refl _) hq
      exact ⟨fun p hp => ⟨ht.2 _ (h2 p hp).1, ht.2 _ (h2 p hp).2⟩, .inr (ht.2 b h1)⟩
/-- What Draw returns for the turned numbers. -/
theorem draw_tn {y : Nat} {t : List Int} {m : List Pr} (ht : TeamsOk t) (hm : MetOk t m) (h16 : t.length ≤ 16) :
    (pDraw (t.map (tn y)) (m.map (tnP y)) []).1 = (pDraw t m []).1.map (tnP y) ∧ (pDraw (t.map (tn y)) (m.map (tnP y)) []).2.2 = (pDraw t m []).2.2 ∧
      ((pDraw t m []).2.1 = 0 ∧ (pDraw (t.map (tn y)) (m.map (tnP y)) []).2.1 = 0 ∨ (pDraw t m []).2.1 ≠ 0 ∧ (pDraw (t.map (tn y)) (m.map (tnP y)) []).2.1 ≠ 0 ∧ (pDraw (t.map (tn y)) (m.map (tnP y)) []).2.1 = tn y (pDraw t m []).2.1) := by
  have hP := numsP_of ht hm
  have w1 := wrong_of ht hm h16
  have w2 := wrong_of (teams_tn (y := y) ht) (met_tn (y := y) ht hm) (by rw [List.length_map]; exact h16)
  rw [pDraw_ok w1, pDraw_ok w2, List.length_map, (nth_tn hP ht.2 0).1, (nth_tn hP ht.2 0).2, bye_tn hP ht.2 _ (Nat.le_refl _)]
  by_cases ho : t.length % 2 = 0
  · rw [if_pos ho, if_pos ho]
    exact ⟨rfl, rfl, .inl ⟨rfl, rfl⟩⟩
  · rw [if_neg ho, if_neg ho]
    have hb : ∀ i d b, i ≤ t.length → byeFrom m t [] i = some (d, b) → b ∈ t := by
      intro i
      induction i with
      | zero => intro d b _ h; cases h
      | succ i ih =>
        intro d b hi h
        obtain ⟨x, hx⟩ := getI_some (l := t) (k := i) (by omega)
        unfold byeFrom at h
        rw [hx, Option.getD_some] at h
        split at h
        · exact ih d b (by omega) h
        · split at h
          · cases h; exact List.mem_of_getElem? hx
          · exact ih d b (by omega) h
    cases hq : byeFrom m t [] t.length with
    | none => exact ⟨rfl, rfl, .inl ⟨rfl, rfl⟩⟩
    | some r =>
      obtain ⟨d, b⟩ := r
      have hbt := ht.2 b (hb _ d b (Nat.le_refl _) hq)
      have := tn_num y b
      exact ⟨rfl, rfl, .inr ⟨by show b ≠ 0; omega, by show tn y b ≠ 0; omega, rfl⟩⟩
theorem count_tn {y : Nat} {t : List Int} {m : List Pr} (ht : TeamsOk t) (hm : MetOk t m) (h16 : t.length ≤ 16) :
    pCount (t.map (tn y)) (m.map (tnP y)) = pCount t m ∧ pOdd (t.map (tn y)) (m.map (tnP y)) = pOdd t m := by
  have hP := numsP_of ht hm
  have w1 := wrong_of ht hm h16
  have w2 := wrong_of (teams_tn (y := y) ht) (met_tn (y := y) ht hm) (by rw [List.length_map]; exact h16)
  have e : pOdd (t.map (tn y)) (m.map (tnP y)) = pOdd t m := by unfold pOdd; rw [w1, w2, List.length_map]
  refine ⟨?_, e⟩
  unfold pCount
  rw [e, cnt_tn hP ht.2]
end Go.Proofs.Ytiedecekbdaohaa
