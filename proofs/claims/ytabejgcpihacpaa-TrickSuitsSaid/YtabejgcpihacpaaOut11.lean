/- Layer 11: plain facts about lists of distinct cards, for the statements that use no reference. -/
import Derived.Test.YtabejgcpihacpaaLw11C
import Derived.Test.YtabejgcpihacpaaMade11
import Derived.Test.YtabejgcpihacpaaPopW
namespace Go.Proofs.Ytabejgcpihacpaa
open Go.RowKit

theorem Distinct.right {r : List Nat} (h : Distinct r) (h0 : 0 < r.length) (h4 : r.length ≤ 4) : tRight r = true := by
  refine (tRight_iff r).2 ⟨h0, h4, fun j hj => ?_⟩
  rw [List.getElem?_eq_getElem hj, Option.getD_some]
  refine ⟨h.1 _ (List.getElem_mem _), fun hm => ?_⟩
  obtain ⟨i, hi, he⟩ := List.mem_take_iff_getElem.1 hm
  have := (List.pairwise_iff_getElem.1 h.2) i j (by omega) hj (by omega)
  exact this he
theorem Distinct.take {r : List Nat} (h : Distinct r) (k : Nat) : Distinct (r.take k) :=
  ⟨fun x hx => h.1 x (List.mem_of_mem_take hx), h.2.sublist (List.take_sublist k r)⟩
theorem Distinct.lt64 {r : List Nat} (h : Distinct r) : ∀ x ∈ r, x < 64 := fun x hx => by have := h.1 x hx; omega
theorem Distinct.lt256 {r : List Nat} (h : Distinct r) : ∀ x ∈ r, x < 256 := fun x hx => by have := h.1 x hx; omega

theorem maskTo_testBit {l : List Nat} (h64 : ∀ x ∈ l, x < 64) (i : Nat) : ∀ k, k ≤ l.length → (maskTo l k).testBit i = has (l.take k) i
  | 0, _ => by unfold maskTo has; simp
  | k + 1, hk => by
    have ih := maskTo_testBit h64 i k (by omega)
    have hx : l[k]? = some l[k] := List.getElem?_eq_getElem (by omega)
    have hx64 := h64 _ (List.getElem_mem (h := (by omega : k < l.length)))
    show (set1 (maskTo l k) (l[k]?.getD 0)).testBit i = _
    rw [hx, Option.getD_some, set1_testBit hx64, ih]
    unfold has
    rw [List.take_succ_eq_append_getElem (by omega), ← Bool.decide_or]
    simp only [List.mem_append, List.mem_singleton, eq_comm]
theorem maskOf_testBit {l : List Nat} (h64 : ∀ x ∈ l, x < 64) (i : Nat) : (maskOf l).testBit i = has l i := by
  have := maskTo_testBit h64 i l.length (Nat.le_refl _)
  rwa [List.take_length] at this
theorem maskOf_lt (l : List Nat) : maskOf l < 2 ^ 64 := maskTo_lt l _
/-- hand &^ mask(l...) is the hand without the cards of the trick. -/
theorem own_mask {h : Nat} {l : List Nat} (hh : h < 2 ^ 64) (h64 : ∀ x ∈ l, x < 64) : h &&& (2 ^ 64 - 1 - maskOf l) = clrTo h l l.length := by
  refine Nat.eq_of_testBit_eq fun i => ?_
  rw [compl_and hh (maskOf_lt l), maskOf_testBit h64, own_testBit hh h64]
theorem w_own {h : Nat} {l : List Nat} (hh : h < 2 ^ 64) (h64 : ∀ x ∈ l, x < 64) : bits BinOp.andNot IntKind.u64 (h : Int) (maskOf l : Nat) = ((clrTo h l l.length : Nat) : Int) := by
  rw [u64_andNot_nat h _ hh (maskOf_lt l), ← own_mask hh h64]
theorem cnt_zero_iff (m : Nat) : ∀ k, cnt m k = 0 ↔ ∀ i, i < k → m.testBit i = false
  | 0 => by simp [cnt]
  | k + 1 => by
    have ih := cnt_zero_iff m k
    constructor
    · intro h i hi
      unfold cnt at h
      by_cases e : i = k
      · subst e
        cases hb : m.testBit i with
        | false => rfl
        | true => rw [hb] at h; simp at h
      · exact ih.1 (by omega) i (by omega)
    · intro h
      unfold cnt
      rw [ih.2 (fun i hi => h i (by omega)), h k (by omega)]
      rfl
theorem bit_high {m n i : Nat} (h : m < 2 ^ n) (hi : n ≤ i) : m.testBit i = false :=
  Nat.testBit_lt_two_pow (Nat.lt_of_lt_of_le h (Nat.pow_le_pow_right (by omega) hi))
theorem cnt_pos {m k : Nat} (h : m < 2 ^ k) : 0 < cnt m k ↔ m ≠ 0 := by
  constructor
  · rintro h1 rfl
    have := (cnt_zero_iff 0 k).2 (fun i _ => Nat.zero_testBit i)
    omega
  · intro h1
    rcases Nat.eq_zero_or_pos (cnt m k) with h0 | h0
    · refine absurd (Nat.eq_of_testBit_eq fun i => ?_) h1
      rw [Nat.zero_testBit]
      rcases Nat.lt_or_ge i k with h2 | h2
      · exact (cnt_zero_iff m k).1 h0 i h2
      · exact bit_high h h2
    · exact h0
theorem cnt_more {m n : Nat} (h : m < 2 ^ n) : ∀ d, cnt m (n + d) = cnt m n
  | 0 => rfl
  | d + 1 => by
    show cnt m (n + d) + (m.testBit (n + d)).toNat = cnt m n
    rw [cnt_more h d, bit_high h (by omega)]
    rfl
theorem cnt_64 {m : Nat} (h : m < 2 ^ 52) : cnt m 64 = cnt m 52 := cnt_more h 12

theorem w_hand {h : Nat} (hh : h < 2 ^ 64) : bits BinOp.and IntKind.u64 (h : Int) 4503599627370495 = ((h % 2 ^ 52 : Nat) : Int) := by
  rw [show (4503599627370495 : Int) = ((4503599627370495 : Nat) : Int) from rfl, u64_and_nat _ _ hh (by omega), show 4503599627370495 = 2 ^ 52 - 1 from rfl, Nat.and_two_pow_sub_one_eq_mod]

theorem follow_lt (h : Nat) (l : List Nat) : follow h l < 2 ^ 52 :=
  Nat.lt_of_le_of_lt Nat.and_le_right (suitMask_lt (cSuit_le _))
theorem follow_testBit {h z i : Nat} {l : List Nat} (hz : l[0]? = some z) (hi : i < 52) : (follow h l).testBit i = ((clrTo h l l.length).testBit i && decide (i / 13 = cSuit z)) := by
  unfold follow
  rw [Nat.testBit_and, hz, Option.getD_some, suitMask_testBit (cSuit_le z) hi]
theorem follow_shape {h z : Nat} {l : List Nat} (hz : l[0]? = some z) : ((follow h l / 2 ^ (13 * cSuit z)) &&& 8191) * 2 ^ (13 * cSuit z) = follow h l := by
  refine Nat.eq_of_testBit_eq fun i => ?_
  have hs := cSuit_le z
  have hlt := follow_lt h l
  rw [Nat.testBit_mul_two_pow, show 8191 = 2 ^ 13 - 1 from rfl, Nat.and_two_pow_sub_one_eq_mod, Nat.testBit_mod_two_pow, Nat.testBit_div_two_pow]
  rcases Nat.lt_or_ge i 52 with h1 | h1
  · rw [follow_testBit hz (i := i) h1]
    by_cases h2 : 13 * cSuit z ≤ i
    · rw [show i - 13 * cSuit z + 13 * cSuit z = i from by omega, follow_testBit hz h1]
      by_cases h3 : i / 13 = cSuit z
      · simp [h3, h2]; omega
      · simp [h3]
    · have h3 : ¬ i / 13 = cSuit z := by omega
      simp [h3, h2]
  · rw [bit_high hlt h1]
    by_cases h2 : 13 * cSuit z ≤ i
    · rw [show i - 13 * cSuit z + 13 * cSuit z = i from by omega, bit_high hlt h1]; simp
    · simp [h2]
end Go.Proofs.Ytabejgcpihacpaa
