/- PairingRounds, in plain Lean. -/
import Derived.Test.YtiedecekbdaohaaBest36
namespace Go.Proofs.Ytiedecekbdaohaa

theorem draws_ne (m : List Pr) : ∀ n l, List.length l = n → l.Nodup → ∀ d ∈ draws m l, ∀ p ∈ d, p.1 ≠ p.2 := by
  intro n
  induction n using Nat.strongRecOn with
  | _ n ih =>
    intro l hl hn d hd p hp
    cases l with
    | nil =>
      rw [draws_nil, List.mem_singleton] at hd
      subst hd
      cases hp
    | cons t rest =>
      obtain ⟨h1, h2⟩ := List.nodup_cons.1 hn
      rw [draws_cons, drawsTo_eq _ _ _ _ (Nat.le_refl _)] at hd
      obtain ⟨i, hi, hd⟩ := List.mem_flatMap.1 hd
      have hi : i < rest.length := by simpa using hi
      obtain ⟨x, hx⟩ := getI_some (l := rest) (k := i) hi
      rw [hx, Option.getD_some] at hd
      split at hd
      · cases hd
      · obtain ⟨d', hd', rfl⟩ := List.mem_map.1 hd
        rcases List.mem_cons.1 hp with rfl | hp
        · intro e
          have e' : t = x := e
          rw [e'] at h1
          exact h1 (List.mem_of_getElem? hx)
        · exact ih _ (by rw [List.length_eraseIdx_of_lt hi]; simp at hl; omega) _ rfl (h2.sublist (List.eraseIdx_sublist ..)) d' hd' p hp
/-- Nobody has met: there is a draw. -/
theorem cnt_none : ∀ n l, List.length l = n → l.length % 2 = 0 → 0 < cnt [] l := by
  intro n
  induction n using Nat.strongRecOn with
  | _ n ih =>
    intro l hl he
    cases l with
    | nil => exact Nat.zero_lt_one
    | cons t rest =>
      cases rest with
      | nil => simp at he
      | cons x r =>
        rw [cnt_cons]
        have h1 : cntTo [] t (x :: r) 1 = cntTo [] t (x :: r) 0 + cnt [] r := cntTo_no (k := 0) rfl rfl
        have h2 : 0 < cnt [] r := ih r.length (by simp at hl; omega) r rfl (by simp at he; omega)
        have h3 : ∀ k, 1 ≤ k → k ≤ (x :: r).length → 0 < cntTo [] t (x :: r) k := by
          intro k
          induction k with
          | zero => intro h; omega
          | succ k ihk =>
            intro _ hk
            by_cases e : k = 0
            · subst e
              show 0 < cntTo [] t (x :: r) 1
              omega
            · have := ihk (by omega) (by omega)
              obtain ⟨z, hz⟩ := getI_some (l := x :: r) (k := k) (by omega)
              rw [cntTo_no hz rfl]
              omega
        exact h3 _ (by simp) (Nat.le_refl _)
structure RInv (T : List Int) (M : List Pr) (B : List Int) (r : Nat) : Prop where
  num : NumOk M
  mlen : M.length ≤ r * 4
  zero : r = 0 → M = [] ∧ B = []
  ev : T.length % 2 = 0 → B = [] ∧ ∀ t R, T = t :: R → r ≤ (R.filter (fun y => pMet M t y)).length
  ez : T = [] → r = 0
  od : T.length % 2 = 1 → B.Nodup ∧ (∀ b ∈ B, b ∈ T) ∧ B.length = r
theorem RInv.start (T : List Int) : RInv T [] [] 0 :=
  ⟨(fun p hp => by cases hp), Nat.zero_le _, fun _ => ⟨rfl, rfl⟩, fun _ => ⟨rfl, fun _ _ _ => Nat.zero_le _⟩, fun _ => rfl, fun _ => ⟨List.nodup_nil, (fun b hb => by cases hb), rfl⟩⟩
theorem nodup_len {B T : List Int} (hb : B.Nodup) (hs : ∀ b ∈ B, b ∈ T) : B.length ≤ T.length := hb.length_le_of_subset hs
def most (T : List Int) : Nat := if T.length % 2 = 0 then T.length - 1 else T.length
theorem RInv.le {T : List Int} {M : List Pr} {B : List Int} {r : Nat} (h : RInv T M B r) : r ≤ most T := by
  unfold most
  split
  · rename_i he
    cases T with
    | nil => rw [h.ez rfl]; exact Nat.zero_le _
    | cons t R =>
      have h1 := (h.ev he).2 t R rfl
      have h2 := List.length_filter_le (fun y => pMet M t y) R
      simp only [List.length_cons]
      omega
  · rename_i he
    obtain ⟨h1, h2, h3⟩ := h.od (by omega)
    rw [← h3]
    exact nodup_len h1 h2
theorem pMet_app (m m' : List Pr) (a b : Int) : pMet (m ++ m') a b = (pMet m a b || pMet m' a b) := by
  unfold pMet
  rw [List.any_append]
/-- What a round is. -/
structure Round (T : List Int) (M : List Pr) (B : List Int) (r : Nat) (d : List Pr) (b : Int) : Prop where
  bye : (b != 0) = decide (T.length % 2 = 1)
  b64 : b = 0 ∨ 1 ≤ b ∧ b ≤ 64
  clean : pClean (T.filter (fun t => t != b)) M d = true
  n64 : ∀ p ∈ d, (1 ≤ p.1 ∧ p.1 ≤ 64) ∧ 1 ≤ p.2 ∧ p.2 ≤ 64
  new : b ∉ B
  nil : T = [] → d = []
  len : d.length ≤ 4
  next : T ≠ [] → RInv T (M ++ d) (if b != 0 then B ++ [b] else B) (r + 1)
theorem round_even {T : List Int} {M : List Pr} {B : List Int} {r : Nat} (ht : TeamsOk T) (h9 : T.length ≤ 9) (h : RInv T M B r) (he : T.length % 2 = 0) :
    (pDraw T M B = ([], 0, 6) ∧ T ≠ [] ∧ (T.length < 2 ∨ 0 < r)) ∨ (∃ d, pDraw T M B = (d, 0, 0) ∧ Round T M B r d 0) := by
  have hp : pDraw T M B = (nthR M T 0, 0, nthE M T 0) := by rw [pDraw_ok (wrong_num ht h.num (by omega)), if_pos he]
  rw [hp]
  by_cases hc : cnt M T = 0
  · refine .inl ⟨by rw [(nth0_no hc).1, (nth0_no hc).2], fun e => by rw [e, cnt_nil] at hc; omega, ?_⟩
    rcases Nat.eq_zero_or_pos r with hr | hr
    · rw [(h.zero hr).1] at hc
      have := cnt_none _ T rfl he
      omega
    · exact .inr hr
  · have hpos : 0 < cnt M T := by omega
    obtain ⟨hf, hE⟩ := nth0_yes hpos
    rw [hE]
    generalize nthR M T 0 = d at *
    have hmem := List.mem_of_getElem? hf
    obtain ⟨_, hlen⟩ := numF_of (m := M) (m' := M) (fun _ _ h => h) _ T rfl ht.1 _ hmem
    refine .inr ⟨d, rfl, ?_⟩
    · have hfil : T.filter (fun t => t != 0) = T := List.filter_eq_self.2 (fun x hx => by have := ht.2 x hx; simp; omega)
      have hdm := draws_mem M _ T rfl d hmem
      have hdn := draws_ne M _ T rfl ht.1 d hmem
      refine ⟨by simp; omega, .inl rfl, by rw [hfil]; exact clean_draw ht.1 hmem, fun p hp => ⟨ht.2 _ (hdm p hp).1, ht.2 _ (hdm p hp).2⟩, by rw [(h.ev he).1]; simp, fun e => List.eq_nil_of_length_eq_zero (by rw [e] at hlen; simp at hlen; omega), by omega, fun hne => ?_⟩
      refine ⟨?_, ?_, fun h0 => by omega, fun _ => ⟨by simp [(h.ev he).1], ?_⟩, fun e => absurd e hne, fun ho => by omega⟩
      · intro p hp
        rcases List.mem_append.1 hp with hp | hp
        · exact h.num p hp
        · exact ⟨ht.2 _ (hdm p hp).1, ht.2 _ (hdm p hp).2, hdn p hp⟩
      · have := h.mlen
        rw [List.length_append]
        omega
      · intro t R e
        subst e
        obtain ⟨i, y, d', hi, rfl, hy, hmy, _⟩ := first_cons hf
        have h1 := (h.ev he).2 t R rfl
        have hR := (List.nodup_cons.1 ht.1).2
        have h2 : (R.filter (fun z => pMet M t z)).length + 1 ≤ (R.filter (fun z => pMet (M ++ (t, y) :: d') t z)).length := by
          have hsub : ∀ z ∈ y :: R.filter (fun z => pMet M t z), z ∈ R.filter (fun z => pMet (M ++ (t, y) :: d') t z) := by
            intro z hz
            rw [List.mem_filter, pMet_app]
            rcases List.mem_cons.1 hz with rfl | hz
            · exact ⟨List.mem_of_getElem? hy, by simp [pMet, metP]⟩
            · rw [List.mem_filter] at hz
              exact ⟨hz.1, by rw [hz.2]; rfl⟩
          have hnd : (y :: R.filter (fun z => pMet M t z)).Nodup := by
            refine List.nodup_cons.2 ⟨fun hmem => ?_, hR.sublist (List.filter_sublist ..)⟩
            rw [List.mem_filter, hmy] at hmem
            exact Bool.noConfusion hmem.2
          exact nodup_len hnd hsub
        omega
theorem byeFrom_some {M : List Pr} {T B : List Int} : ∀ k d b, k ≤ T.length → byeFrom M T B k = some (d, b) → ∃ i, i < k ∧ T[i]? = some b ∧ b ∉ B ∧ 0 < cnt M (T.eraseIdx i) ∧ d = nthR M (T.eraseIdx i) 0 := by
  intro k
  induction k with
  | zero => intro d b _ h; cases h
  | succ k ih =>
    intro d b hk h
    obtain ⟨x, hx⟩ := getI_some (l := T) (k := k) (by omega)
    unfold byeFrom at h
    rw [hx, Option.getD_some] at h
    split at h
    · obtain ⟨i, h1, h2⟩ := ih d b (by omega) h
      exact ⟨i, by omega, h2⟩
    · rename_i hb
      split at h
      · rename_i hc
        injection h with h
        injection h with h1 h2
        subst h1 h2
        exact ⟨k, by omega, hx, by simpa [hasI] using hb, hc, rfl⟩
      · obtain ⟨i, h1, h2⟩ := ih d b (by omega) h
        exact ⟨i, by omega, h2⟩
theorem round_odd {T : List Int} {M : List Pr} {B : List Int} {r : Nat} (ht : TeamsOk T) (h9 : T.length ≤ 9) (h : RInv T M B r) (ho : T.length % 2 = 1) :
    (pDraw T M B = ([], 0, 6) ∧ T ≠ [] ∧ (T.length < 2 ∨ 0 < r)) ∨ (∃ d b, pDraw T M B = (d, b, 0) ∧ Round T M B r d b) := by
  have hp := pDraw_ok (b := B) (wrong_num ht h.num (by omega))
  rw [if_neg (by omega)] at hp
  cases hq : byeFrom M T B T.length with
  | none =>
    rw [hq] at hp
    refine .inl ⟨hp, fun e => by subst e; simp at ho, ?_⟩
    rcases Nat.eq_zero_or_pos r with hr | hr
    · exfalso
      obtain ⟨rfl, rfl⟩ := h.zero hr
      obtain ⟨k, hk⟩ : ∃ k, T.length = k + 1 := ⟨T.length - 1, by omega⟩
      obtain ⟨x, hx⟩ := getI_some (l := T) (k := k) (by omega)
      rw [hk] at hq
      unfold byeFrom at hq
      rw [hx, Option.getD_some, if_neg (by simp [hasI]), if_pos (cnt_none _ _ rfl (by rw [List.length_eraseIdx_of_lt (by omega)]; omega))] at hq
      cases hq
    · exact .inr hr
  | some q =>
    obtain ⟨d, b⟩ := q
    rw [hq] at hp
    obtain ⟨i, hi, hb, hnb, hc, hd⟩ := byeFrom_some _ d b (Nat.le_refl _) hq
    have hbT := List.mem_of_getElem? hb
    have hb64 := ht.2 b hbT
    have hnd : (T.eraseIdx i).Nodup := ht.1.sublist (List.eraseIdx_sublist ..)
    obtain ⟨hf, _⟩ := nth0_yes hc
    rw [← hd] at hf
    have hmem := List.mem_of_getElem? hf
    have hel : (T.eraseIdx i).length + 1 = T.length := by rw [List.length_eraseIdx_of_lt hi]; omega
    obtain ⟨_, hlen⟩ := numF_of (m := M) (m' := M) (fun _ _ h => h) _ _ rfl hnd _ hmem
    have hsub : ∀ x ∈ T.eraseIdx i, x ∈ T := fun x hx => (List.eraseIdx_sublist ..).subset hx
    have hdm := draws_mem M _ _ rfl d hmem
    have hdn := draws_ne M _ _ rfl hnd d hmem
    have hfil : T.filter (fun t => t != b) = T.eraseIdx i := (erase_filter ht.1 hb).symm
    obtain ⟨o1, o2, o3⟩ := h.od ho
    have hb0 : b ≠ 0 := by omega
    refine .inr ⟨d, b, hp, ?_⟩
    refine ⟨by simp [hb0, ho], .inr hb64, by rw [hfil]; exact clean_draw hnd hmem, fun p hp => ⟨ht.2 _ (hsub _ (hdm p hp).1), ht.2 _ (hsub _ (hdm p hp).2)⟩, hnb, fun e => by subst e; simp at ho, by omega, fun _ => ?_⟩
    refine ⟨?_, ?_, fun h0 => by omega, fun he => by omega, fun e => by subst e; simp at ho, fun _ => ?_⟩
    · intro p hp
      rcases List.mem_append.1 hp with hp | hp
      · exact h.num p hp
      · exact ⟨ht.2 _ (hsub _ (hdm p hp).1), ht.2 _ (hsub _ (hdm p hp).2), hdn p hp⟩
    · have := h.mlen
      rw [List.length_append]
      omega
    · rw [if_pos (by simpa using hb0)]
      refine ⟨?_, ?_, by rw [List.length_append, o3]; rfl⟩
      · rw [List.nodup_append]
        refine ⟨o1, by simp, ?_⟩
        intro x hx y hy e
        rw [List.mem_singleton] at hy
        exact hnb (by rw [← hy, ← e]; exact hx)
      · intro x hx
        rcases List.mem_append.1 hx with hx | hx
        · exact o2 x hx
        · rw [List.mem_singleton] at hx; rw [hx]; exact hbT
theorem round_all {T : List Int} {M : List Pr} {B : List Int} {r : Nat} (ht : TeamsOk T) (h9 : T.length ≤ 9) (h : RInv T M B r) :
    (pDraw T M B = ([], 0, 6) ∧ T ≠ [] ∧ (T.length < 2 ∨ 0 < r)) ∨ (∃ d b, pDraw T M B = (d, b, 0) ∧ Round T M B r d b) := by
  by_cases he : T.length % 2 = 0
  · rcases round_even ht h9 h he with h1 | ⟨d, h1, h2⟩
    · exact .inl h1
    · exact .inr ⟨d, 0, h1, h2⟩
  · exact round_odd ht h9 h (by omega)
end Go.Proofs.Ytiedecekbdaohaa
