/- PairingBest, in plain Lean. -/
import Derived.Test.YtiedecekbdaohaaBack36
namespace Go.Proofs.Ytiedecekbdaohaa

theorem nth0_no {m : List Pr} {t : List Int} (h : cnt m t = 0) : nthR m t 0 = [] ∧ nthE m t 0 = 6 := by
  unfold nthR nthE
  rw [if_neg (by omega), if_neg (by omega)]
  exact ⟨rfl, rfl⟩
theorem nth0_yes {m : List Pr} {t : List Int} (h : 0 < cnt m t) : (draws m t)[0]? = some (nthR m t 0) ∧ nthE m t 0 = 0 := by
  unfold nthR nthE
  rw [if_pos (by omega), if_pos (by omega)]
  refine ⟨?_, rfl⟩
  rw [show ((0 : Int)).toNat = 0 from rfl, List.getElem?_eq_getElem (show 0 < (draws m t).length from h)]
  rfl
structure BestOk (t : List Int) (m : List Pr) (d : List Pr) : Prop where
  first : (draws m t)[0]? = some d
  num : pNum t m d = (0, 0)
  clean : pClean t m d = true
  len : 2 * d.length = t.length
  n64 : ∀ p ∈ d, (1 ≤ p.1 ∧ p.1 ≤ 64) ∧ 1 ≤ p.2 ∧ p.2 ≤ 64
theorem best {t : List Int} {m : List Pr} (ht : TeamsOk t) (hm : NumOk m) (h16 : t.length ≤ 16) (he : t.length % 2 = 0) (b : List Int) :
    pDraw t m b = (nthR m t 0, 0, nthE m t 0) ∧ pOdd t m = 0 ∧ pCount t m = cnt m t ∧ (0 < cnt m t → BestOk t m (nthR m t 0)) := by
  obtain ⟨h1, h2⟩ := odd_num ht hm h16 he
  refine ⟨by rw [pDraw_ok (wrong_num ht hm h16), if_pos he], h1, h2, fun hc => ?_⟩
  obtain ⟨hf, _⟩ := nth0_yes hc
  have hmem := List.mem_of_getElem? hf
  obtain ⟨_, hlen⟩ := numF_of (m := m) (m' := m) (fun _ _ h => h) _ t rfl ht.1 _ hmem
  refine ⟨hf, ?_, clean_draw ht.1 hmem, hlen, fun p hp => ?_⟩
  · unfold pNum
    rw [if_neg (fun h => h h1), if_neg (fun h => h hlen), numF_nth _ t rfl ht.1 _ _ hf]
  · have := nthR_mem m t 0 p hp
    exact ⟨ht.2 _ this.1, ht.2 _ this.2⟩
/-- The first draw, a pair on. -/
theorem first_to {m : List Pr} {t : Int} {rest : List Int} {d : List Pr} : ∀ k, k ≤ rest.length → (drawsTo m t rest k)[0]? = some d →
    ∃ i y d', i < k ∧ d = (t, y) :: d' ∧ rest[i]? = some y ∧ pMet m t y = false ∧ (draws m (rest.eraseIdx i))[0]? = some d' ∧ ∀ j z, j < i → rest[j]? = some z → pMet m t z = true ∨ cnt m (rest.eraseIdx j) = 0 := by
  intro k
  induction k with
  | zero => intro _ h; cases h
  | succ k ih =>
    intro hk h
    by_cases h0 : 0 < (drawsTo m t rest k).length
    · have h1 : (drawsTo m t rest k)[0]? = some d := by
        unfold drawsTo at h
        rwa [List.getElem?_append_left h0] at h
      obtain ⟨i, y, d', a1, a2⟩ := ih (by omega) h1
      exact ⟨i, y, d', by omega, a2⟩
    · have hz : drawsTo m t rest k = [] := List.eq_nil_of_length_eq_zero (by omega)
      obtain ⟨x, hx⟩ := getI_some (l := rest) (k := k) (by omega)
      unfold drawsTo at h
      rw [hz, List.nil_append, hx, Option.getD_some] at h
      split at h
      · cases h
      · rename_i hm
        rw [List.getElem?_map] at h
        obtain ⟨d', h1, rfl⟩ := Option.map_eq_some_iff.1 h
        refine ⟨k, x, d', by omega, rfl, hx, by simpa using hm, h1, fun j z hj hz' => ?_⟩
        by_cases hmz : pMet m t z = true
        · exact .inl hmz
        · refine .inr (Nat.eq_zero_of_not_pos fun hpos => ?_)
          have hsub : ∀ q, q ≤ rest.length → j < q → 0 < (drawsTo m t rest q).length := by
            intro q
            induction q with
            | zero => intro _ h; omega
            | succ q ihq =>
              intro hq hjq
              unfold drawsTo
              rw [List.length_append]
              by_cases e : j = q
              · subst e
                rw [hz', Option.getD_some, if_neg hmz, List.length_map]
                have : 0 < (draws m (rest.eraseIdx j)).length := hpos
                omega
              · have := ihq (by omega) (by omega)
                omega
          exact h0 (hsub k (by omega) hj)
theorem first_cons {m : List Pr} {t : Int} {rest : List Int} {d : List Pr} (h : (draws m (t :: rest))[0]? = some d) :
    ∃ i y d', i < rest.length ∧ d = (t, y) :: d' ∧ rest[i]? = some y ∧ pMet m t y = false ∧ (draws m (rest.eraseIdx i))[0]? = some d' ∧ ∀ j z, j < i → rest[j]? = some z → pMet m t z = true ∨ cnt m (rest.eraseIdx j) = 0 := by
  rw [draws_cons] at h
  exact first_to _ (Nat.le_refl _) h
/-- A list without a place, as far as a loop has come. -/
theorem erase_take_skip {R : List Int} {q : Nat} : (R.take (q + 1)).eraseIdx q = (R.take q).eraseIdx q := by
  rcases Nat.lt_or_ge q R.length with h | h
  · rw [List.take_succ_eq_append_getElem h, List.eraseIdx_append_of_length_le (by rw [List.length_take]; omega), List.length_take, show q - min q R.length = 0 from by omega]
    rw [List.eraseIdx_of_length_le (l := R.take q) (by rw [List.length_take]; omega)]
    simp
  · rw [List.take_of_length_le (by omega), List.take_of_length_le h]
theorem erase_take_next {R : List Int} {q j : Nat} {z : Int} (hz : R[q]? = some z) (hne : q ≠ j) : (R.take (q + 1)).eraseIdx j = (R.take q).eraseIdx j ++ [z] := by
  obtain ⟨h2, h3⟩ := List.getElem?_eq_some_iff.1 hz
  rw [List.take_succ_eq_append_getElem h2, h3]
  rcases Nat.lt_or_ge j q with h | h
  · rw [List.eraseIdx_append_of_lt_length (by rw [List.length_take]; omega)]
  · rw [List.eraseIdx_of_length_le (l := R.take q ++ [z]) (by simp; omega), List.eraseIdx_of_length_le (l := R.take q) (by rw [List.length_take]; omega)]
end Go.Proofs.Ytiedecekbdaohaa
