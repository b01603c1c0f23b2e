/- The statement TrickWinners of layer 11: the plain facts. -/
import Derived.Test.YtabejgcpihacpaaWinner11
import Derived.Test.YtabejgcpihacpaaRfE
import Derived.Test.YtabejgcpihacpaaFollow11
namespace Go.Proofs.Ytabejgcpihacpaa
open Go.RowKit

theorem tWinsE_ok {t m : Nat} {r : List Nat} (ht : t ≤ 4) (hm : m < 2 ^ 52) (hD : Distinct r) (h3 : r.length ≤ 3) : tWinsE t m r = 0 := by
  unfold tWinsE
  rw [if_neg (by omega)]
  exact tPlayE_ok hm hD h3
theorem wins_bit {t m c : Nat} {r : List Nat} (ht : t ≤ 4) (hm : m < 2 ^ 52) (hD : Distinct r) (h3 : r.length ≤ 3) (h0 : 0 < r.length) (hc : c < 52) :
    (tWins t m r).testBit c = ((tPlay m r).testBit c && tBeats t r c) := by
  unfold tWins
  rw [if_neg (fun h => h (tWinsE_ok ht hm hD h3)), if_neg (by omega)]
  exact winFold_card (tPlay_lt (tPlayE_ok hm hD h3)) hc
theorem wins_zero {t m : Nat} {r : List Nat} (ht : t ≤ 4) (hm : m < 2 ^ 52) (hD : Distinct r) (h3 : r.length ≤ 3) (h0 : r.length = 0) : tWins t m r = tPlay m r := by
  unfold tWins
  rw [if_neg (fun h => h (tWinsE_ok ht hm hD h3)), if_pos h0]
theorem wins_sub {t m c : Nat} {r : List Nat} (ht : t ≤ 4) (hm : m < 2 ^ 52) (hD : Distinct r) (h3 : r.length ≤ 3) (h : (tWins t m r).testBit c = true) : (tPlay m r).testBit c = true := by
  rcases Nat.eq_zero_or_pos r.length with h0 | h0
  · rwa [wins_zero ht hm hD h3 h0] at h
  · rcases Nat.lt_or_ge c 52 with hc | hc
    · rw [wins_bit ht hm hD h3 h0 hc, Bool.and_eq_true] at h
      exact h.1
    · rw [bit_high (tWins_lt (tWinsE_ok ht hm hD h3)) hc] at h
      cases h
theorem play_new {m c : Nat} {r : List Nat} (hm : m < 2 ^ 52) (hD : Distinct r) (h3 : r.length ≤ 3) (h : (tPlay m r).testBit c = true) : c < 52 ∧ c ∉ r := by
  have hlt := tPlay_lt (tPlayE_ok hm hD h3)
  refine ⟨?_, ?_⟩
  · rcases Nat.lt_or_ge c 52 with hc | hc
    · exact hc
    · rw [bit_high hlt hc] at h; cases h
  · rcases Nat.eq_zero_or_pos r.length with h0 | h0
    · rw [List.length_eq_zero_iff.1 h0]; simp
    · have hown := own_testBit (h := m) (l := r) (by omega) hD.lt64 c
      have : (clrTo m r r.length).testBit c = true := by
        unfold tPlay at h
        rw [if_neg (fun hh => hh (tPlayE_ok hm hD h3)), if_neg (by omega)] at h
        split at h
        · unfold follow at h
          rw [Nat.testBit_and, Bool.and_eq_true] at h
          exact h.1
        · exact h
      rw [hown, Bool.and_eq_true] at this
      intro hin
      have h2 := this.2
      unfold has at h2
      rw [decide_eq_true hin] at h2
      cases h2
theorem wins_iff {t m c : Nat} {r : List Nat} (ht : t ≤ 4) (hm : m < 2 ^ 52) (hD : Distinct r) (h3 : r.length ≤ 3) (h : (tPlay m r).testBit c = true) :
    tWin t (r ++ [c]) = r.length ↔ (tWins t m r).testBit c = true := by
  obtain ⟨hc, hn⟩ := play_new hm hD h3 h
  rcases Nat.eq_zero_or_pos r.length with h0 | h0
  · obtain rfl := List.length_eq_zero_iff.1 h0
    rw [wins_zero ht hm hD h3 h0]
    refine ⟨fun _ => h, fun _ => ?_⟩
    have := bestTo_lt (fun d => (stren t (cSuit (([] ++ [c] : List Nat)[0]?.getD 0)) d : Int)) ([] ++ [c]) 1 (by omega)
    unfold tWin bestOf
    show bestTo (fun d => (stren t (cSuit (([] ++ [c] : List Nat)[0]?.getD 0)) d : Int)) ([] ++ [c]) 1 = 0
    omega
  · rw [wins_bit ht hm hD h3 h0 hc, h, Bool.true_and]
    exact (tBeats_ok ht (hD.right h0 (by omega)) (by omega) hc hn).2.1.symm

/-! ### Cover -/
theorem cardsTo_lt {h : Nat} : ∀ {k c : Nat}, c ∈ cardsTo h k → c < k := fun hc => (mem_cardsTo.1 hc).1
theorem cardsTo_sorted (h : Nat) : ∀ k, (cardsTo h k).Pairwise (· < ·)
  | 0 => List.Pairwise.nil
  | k + 1 => by
    have ih := cardsTo_sorted h k
    unfold cardsTo
    split
    · rw [List.pairwise_append]
      refine ⟨ih, List.pairwise_singleton _ _, fun a ha b hb => ?_⟩
      rw [List.mem_singleton] at hb
      subst hb
      exact cardsTo_lt ha
    · exact ih
theorem cards_first {h c : Nat} (hc : c ∈ cardsOf h) : (cardsOf h)[0]?.getD 0 ≤ c := by
  have hs := cardsTo_sorted h 52
  show (cardsTo h 52)[0]?.getD 0 ≤ c
  have hc' : c ∈ cardsTo h 52 := hc
  revert hs hc'
  generalize cardsTo h 52 = cs
  intro hs hc'
  cases cs with
  | nil => cases hc'
  | cons a cs =>
    rw [List.pairwise_cons] at hs
    rcases List.mem_cons.1 hc' with rfl | h1
    · exact Nat.le_refl _
    · exact Nat.le_of_lt (hs.1 c h1)
theorem getD_mem {l : List Nat} {i : Nat} (h : i < l.length) : l[i]?.getD 0 ∈ l := by
  rw [List.getElem?_eq_getElem h, Option.getD_some]
  exact List.getElem_mem h
theorem cover_mem {t m : Nat} {r : List Nat} (h : tCoverIs t m r = true) : tCover t m r ∈ cardsOf (tWins t m r) := by
  have h' := of_decide_eq_true h
  have hpos := cardsOf_pos h'.2 (tWins_lt h'.1)
  unfold tCover
  rw [if_neg (by rw [h]; exact Bool.noConfusion)]
  split
  · exact getD_mem hpos
  · exact getD_mem (bestTo_lt _ _ _ hpos)
theorem cover_zero {t m : Nat} {r : List Nat} (h : tCoverIs t m r = false) : tCover t m r = 0 := by
  unfold tCover
  rw [if_pos h]
theorem cover_min {t m z c : Nat} {r : List Nat} (h : tCoverIs t m r = true) (h0 : 0 < r.length) (hz : r[0]? = some z) (hc : c ∈ cardsOf (tWins t m r)) :
    stren t (cSuit z) (tCover t m r) ≤ stren t (cSuit z) c := by
  obtain ⟨j, hj, rfl⟩ := List.getElem_of_mem hc
  have hs := (bestTo_spec (fun c => -(stren t (cSuit (r[0]?.getD 0)) c : Int)) (cardsOf (tWins t m r)) (cardsOf (tWins t m r)).length).1 j hj
  rw [List.getElem?_eq_getElem hj, hz] at hs
  simp only [Option.getD_some] at hs
  have e : tCover t m r = (cardsOf (tWins t m r))[bestTo (fun c => -(stren t (cSuit z) c : Int)) (cardsOf (tWins t m r)) (cardsOf (tWins t m r)).length]?.getD 0 := by
    unfold tCover coverAt bestOf
    rw [if_neg (by rw [h]; exact Bool.noConfusion), if_neg (by omega), hz]
    rfl
  rw [e]
  omega
theorem cover_first {t m c : Nat} {r : List Nat} (h : tCoverIs t m r = true) (h0 : r.length = 0) (hc : c ∈ cardsOf (tWins t m r)) : tCover t m r ≤ c := by
  have e : tCover t m r = (cardsOf (tWins t m r))[0]?.getD 0 := by
    unfold tCover
    rw [if_neg (by rw [h]; exact Bool.noConfusion), if_pos h0]
  rw [e]
  exact cards_first hc
/-- A card that wins is strong. -/
theorem wins_strong {t m c z : Nat} {r : List Nat} (ht : t ≤ 4) (hm : m < 2 ^ 52) (hD : Distinct r) (h3 : r.length ≤ 3) (hz : r[0]? = some z) (h : (tWins t m r).testBit c = true) :
    c < 52 ∧ 0 < stren t (cSuit z) c := by
  have hp := wins_sub ht hm hD h3 h
  obtain ⟨hc, hn⟩ := play_new hm hD h3 hp
  have h0 : 0 < r.length := (List.getElem?_eq_some_iff.1 hz).1
  rw [wins_bit ht hm hD h3 h0 hc, hp, Bool.true_and] at h
  refine ⟨hc, ?_⟩
  unfold tBeats at h
  split at h
  · have := of_decide_eq_true h
    rw [hz, Option.getD_some] at this
    omega
  · cases h
theorem cover_card {t m c : Nat} {r : List Nat} (ht : t ≤ 4) (hm : m < 2 ^ 52) (hD : Distinct r) (h3 : r.length ≤ 3) (h : (tWins t m r).testBit c = true) :
    ((c / 13 = tCover t m r / 13 ∨ r.length = 0) → tCover t m r ≤ c) ∧ (0 < r.length → c / 13 ≠ t → tCover t m r / 13 ≠ t) := by
  have hE := tWinsE_ok ht hm hD h3
  have hw0 : tWins t m r ≠ 0 := by
    intro e
    rw [e, Nat.zero_testBit] at h
    cases h
  have his : tCoverIs t m r = true := decide_eq_true ⟨hE, hw0⟩
  have hc52 := (play_new hm hD h3 (wins_sub ht hm hD h3 h)).1
  have hcm : c ∈ cardsOf (tWins t m r) := mem_cardsTo.2 ⟨hc52, h⟩
  have hlm := cover_mem his
  have hl52 := cardsOf_lt hlm
  have hlb : (tWins t m r).testBit (tCover t m r) = true := (mem_cardsTo.1 hlm).2
  have hkey : 0 < r.length → ∃ z, z < 52 ∧ stren t (z / 13) (tCover t m r) ≤ stren t (z / 13) c ∧ 0 < stren t (z / 13) (tCover t m r) := by
    intro h0
    obtain ⟨z, hz⟩ := get_some h0
    have hz52 := hD.1 z (List.mem_of_getElem? hz)
    have hs : cSuit z = z / 13 := by unfold cSuit; rw [if_pos hz52]
    refine ⟨z, hz52, ?_, ?_⟩
    · rw [← hs]; exact cover_min his h0 hz hcm
    · rw [← hs]; exact (wins_strong ht hm hD h3 hz hlb).2
  refine ⟨fun hh => ?_, fun h0 hct => ?_⟩
  · rcases Nat.eq_zero_or_pos r.length with h0 | h0
    · exact cover_first his h0 hcm
    · have hs : c / 13 = tCover t m r / 13 := by rcases hh with hh | hh; exact hh; omega
      obtain ⟨z, hz, h1, h2⟩ := hkey h0
      generalize tCover t m r = d at *
      rw [stren_52 hl52] at h1 h2
      rw [stren_52 hc52, hs] at h1
      split at h1
      · omega
      · split at h1
        · omega
        · rename_i a1 a2
          rw [if_neg a1, if_neg a2] at h2
          omega
  · obtain ⟨z, hz, h1, h2⟩ := hkey h0
    generalize tCover t m r = d at *
    rw [stren_52 hl52, stren_52 hc52, if_neg hct] at h1
    intro e
    rw [if_pos e] at h1
    split at h1 <;> omega
end Go.Proofs.Ytabejgcpihacpaa
