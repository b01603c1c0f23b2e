/- PairingWrong, in plain Lean. -/
import Derived.Test.YtiedecekbdaohaaRounds36
namespace Go.Proofs.Ytiedecekbdaohaa

theorem numOk_nil : NumOk [] := fun p hp => by cases hp
theorem numF_none {m : List Pr} {p : Pr} {d : List Pr} {t0 : Int} {rest : List Int} (h : ¬ (t0 = p.1 ∧ 1 ≤ idxI (t0 :: rest) p.2 ∧ pMet m p.1 p.2 = false)) : numF m (p :: d) (t0 :: rest) = none := by
  unfold numF
  rw [if_neg h]
theorem pNum_none {t : List Int} {m d : List Pr} (h0 : pOdd t m = 0) (h : 2 * d.length ≠ t.length ∨ numF m d t = none) : pNum t m d = (0, 6) := by
  unfold pNum
  rw [if_neg (fun h => h h0)]
  by_cases hl : 2 * d.length = t.length
  · rw [if_neg (fun h => h hl)]
    rcases h with h | h
    · exact absurd hl h
    · rw [h]
  · rw [if_pos hl]
structure Wrong4 (t : List Int) (a b : Pr) (r : List Pr) : Prop where
  n1 : pNum t [] (b :: r) = (0, 6)
  n2 : pNum t [] (b :: a :: r) = (0, 6)
  n3 : pNum t [] ((a.2, a.1) :: b :: r) = (0, 6)
  n4 : pNum t [a] (a :: b :: r) = (0, 6)
theorem wrong_draw {t : List Int} (ht : TeamsOk t) (h16 : t.length ≤ 16) (he : t.length % 2 = 0) :
    pNthE t [] 0 = 0 ∧ 2 * (pNthR t [] 0).length = t.length ∧ ∀ a b r, pNthR t [] 0 = a :: b :: r → Wrong4 t a b r := by
  obtain ⟨h1, h2⟩ := odd_num ht numOk_nil h16 he
  have hc := cnt_none _ t rfl he
  obtain ⟨hf, hE⟩ := nth0_yes hc
  have e1 : pNthR t [] 0 = nthR [] t 0 := by unfold pNthR; rw [if_neg (fun h => h h1)]
  have e2 : pNthE t [] 0 = 0 := by unfold pNthE; rw [if_neg (fun h => h h1)]; exact hE
  rw [e1, e2]
  generalize nthR [] t 0 = d at *
  have hmem := List.mem_of_getElem? hf
  obtain ⟨_, hlen⟩ := numF_of (m := []) (m' := []) (fun _ _ h => h) _ t rfl ht.1 _ hmem
  refine ⟨rfl, hlen, fun a b r hd => ?_⟩
  subst hd
  cases t with
  | nil => simp at hlen
  | cons t0 rest =>
    obtain ⟨i, y, d', hi, hd', hy, hmy, hfd, _⟩ := first_cons hf
    injection hd' with ha hr
    subst ha
    obtain ⟨hn1, hn2⟩ := List.nodup_cons.1 ht.1
    have hyr := List.mem_of_getElem? hy
    have hb : b.1 ∈ rest := by
      have := (draws_mem [] _ _ rfl d' (List.mem_of_getElem? hfd) b (by rw [← hr]; simp)).1
      exact (List.eraseIdx_sublist ..).subset this
    have hbt : t0 ≠ b.1 := fun e => hn1 (e ▸ hb)
    have hyt : t0 ≠ y := fun e => hn1 (e ▸ hyr)
    have hm1 : NumOk [(t0, y)] := by
      intro p hp
      rw [List.mem_singleton] at hp
      subst hp
      exact ⟨ht.2 _ (List.mem_cons_self ..), ht.2 _ (List.mem_cons_of_mem _ hyr), hyt⟩
    obtain ⟨h3, _⟩ := odd_num ht hm1 h16 he
    refine ⟨pNum_none h1 (.inl ?_), pNum_none h1 (.inr (numF_none fun h => hbt h.1)), pNum_none h1 (.inr (numF_none fun h => hyt h.1)), pNum_none h3 (.inr (numF_none fun h => ?_))⟩
    · simp only [List.length_cons] at hlen ⊢
      omega
    · have := h.2.2
      simp [pMet, metP] at this
end Go.Proofs.Ytiedecekbdaohaa
