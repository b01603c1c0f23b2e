/- Masks: the walk's forms of shifts and bit operations on uint64, as natural numbers and their bits. -/
import Derived.Test.YtabejgcpihacpaaBase
namespace Go.Proofs.Ytabejgcpihacpaa
open Go.RowKit

/-- 1 << x on uint64. -/
def bitOf (x : Nat) : Nat := if x < 64 then 2 ^ x else 0
/-- m &^ 1 << x. -/
def clr (m x : Nat) : Nat := m &&& (2 ^ 64 - 1 - bitOf x)
/-- m | 1 << x. -/
def set1 (m x : Nat) : Nat := m ||| bitOf x

theorem bitOf_lt (x : Nat) : bitOf x < 2 ^ 64 := by
  unfold bitOf
  split
  · exact Nat.pow_lt_pow_right (by omega) (by omega)
  · omega
theorem bitOf_pow {x : Nat} (h : x < 64) : bitOf x = 2 ^ x := by unfold bitOf; rw [if_pos h]
theorem testBit_bitOf {x : Nat} (h : x < 64) (i : Nat) : (bitOf x).testBit i = decide (x = i) := by
  rw [bitOf_pow h, Nat.testBit_two_pow]
theorem wrap_shl1 (x : Nat) : IntKind.u64.wrap (2 ^ min x 64) = ((bitOf x : Nat) : Int) := by
  unfold bitOf
  rcases Nat.lt_or_ge x 64 with h | h
  · rw [Nat.min_eq_left (Nat.le_of_lt h), if_pos h, IntKind.wrap_u64]
    have h2 : (2 : Nat) ^ x < 2 ^ 64 := Nat.pow_lt_pow_right (by omega) h
    rw [show ((2 : Int) ^ x) = ((2 ^ x : Nat) : Int) from by simp]
    generalize (2 : Nat) ^ x = y at *
    omega
  · rw [Nat.min_eq_right h, if_neg (by omega), IntKind.wrap_u64]
    decide
theorem compl_and {n m b : Nat} (hm : m < 2 ^ n) (hb : b < 2 ^ n) (i : Nat) : (m &&& (2 ^ n - 1 - b)).testBit i = (m.testBit i && !b.testBit i) := by
  rw [Nat.testBit_and]
  rcases Nat.lt_or_ge i n with h | h
  · rw [show 2 ^ n - 1 - b = 2 ^ n - (b + 1) from by omega, Nat.testBit_two_pow_sub_succ hb]
    simp [h]
  · rw [Nat.testBit_lt_two_pow (x := m) (Nat.lt_of_lt_of_le hm (Nat.pow_le_pow_right (by omega) h))]
    simp
theorem clr_testBit {m x : Nat} (hm : m < 2 ^ 64) (hx : x < 64) (i : Nat) : (clr m x).testBit i = (m.testBit i && !decide (x = i)) := by
  unfold clr
  rw [compl_and hm (bitOf_lt x), testBit_bitOf hx]
theorem clr_le (m x : Nat) : clr m x ≤ m := Nat.and_le_left
theorem set1_testBit {m x : Nat} (hx : x < 64) (i : Nat) : (set1 m x).testBit i = (m.testBit i || decide (x = i)) := by
  unfold set1
  rw [Nat.testBit_or, testBit_bitOf hx]
theorem set1_lt {m x n : Nat} (hm : m < 2 ^ n) (hx : x < n) (h64 : n ≤ 64) : set1 m x < 2 ^ n := by
  unfold set1
  rw [bitOf_pow (by omega)]
  exact Nat.or_lt_two_pow hm (Nat.pow_lt_pow_right (by omega) hx)

theorem w_clr {m x : Nat} (hm : m < 2 ^ 64) : bits BinOp.andNot IntKind.u64 (m : Int) (IntKind.u64.wrap (2 ^ min x 64)) = ((clr m x : Nat) : Int) := by
  rw [wrap_shl1, u64_andNot_nat m _ hm (bitOf_lt x)]
  rfl
theorem w_set1 {m x : Nat} (hm : m < 2 ^ 64) : bits BinOp.or IntKind.u64 (m : Int) (IntKind.u64.wrap (2 ^ min x 64)) = ((set1 m x : Nat) : Int) := by
  rw [wrap_shl1, u64_or_nat m _ hm (bitOf_lt x)]
  rfl
theorem w_clr_lt {m x : Nat} (hm : m < 2 ^ 64) (hx : x < 64) : bits BinOp.andNot IntKind.u64 (m : Int) (IntKind.u64.wrap (2 ^ x)) = ((clr m x : Nat) : Int) := by
  have := w_clr (x := x) hm
  rwa [Nat.min_eq_left (Nat.le_of_lt hx)] at this
theorem w_set1_lt {m x : Nat} (hm : m < 2 ^ 64) (hx : x < 64) : bits BinOp.or IntKind.u64 (m : Int) (IntKind.u64.wrap (2 ^ x)) = ((set1 m x : Nat) : Int) := by
  have := w_set1 (x := x) hm
  rwa [Nat.min_eq_left (Nat.le_of_lt hx)] at this
theorem shr_min {m c : Nat} (hm : m < 2 ^ 64) : (m : Int) / 2 ^ min c 64 = ((m >>> c : Nat) : Int) := by
  rw [show ((2 : Int) ^ min c 64) = ((2 ^ min c 64 : Nat) : Int) from by simp, ← Int.natCast_ediv, Nat.shiftRight_eq_div_pow]
  congr 1
  rcases Nat.lt_or_ge c 64 with h | h
  · rw [Nat.min_eq_left (Nat.le_of_lt h)]
  · rw [Nat.min_eq_right h, Nat.div_eq_of_lt hm, Nat.div_eq_of_lt (Nat.lt_of_lt_of_le hm (Nat.pow_le_pow_right (by omega) h))]
theorem shr_lt {m c : Nat} (hm : m < 2 ^ 64) : m >>> c < 2 ^ 64 := by
  rw [Nat.shiftRight_eq_div_pow]
  exact Nat.lt_of_le_of_lt (Nat.div_le_self _ _) hm
theorem w_bit_and {m c : Nat} (hm : m < 2 ^ 64) : bits BinOp.and IntKind.u64 ((m : Int) / 2 ^ min c 64) 1 = (((m.testBit c).toNat : Nat) : Int) := by
  rw [shr_min hm, show (1 : Int) = ((1 : Nat) : Int) from rfl, u64_and_nat _ 1 (shr_lt hm) (by omega)]
  rw [nat_mask1]
  congr 1
  rw [Nat.testBit, Nat.and_comm, nat_mask1]
  rcases Nat.mod_two_eq_zero_or_one (m >>> c) with h | h <;> simp [h]
theorem w_bit_eq {m c : Nat} (hm : m < 2 ^ 64) : (bits BinOp.and IntKind.u64 ((m : Int) / 2 ^ min c 64) 1 == 1) = m.testBit c := by
  rw [w_bit_and hm]
  cases m.testBit c <;> rfl
theorem w_bit_lt {m c : Nat} (hm : m < 2 ^ 64) (hc : c < 64) : (bits BinOp.and IntKind.u64 ((m : Int) / 2 ^ c) 1 == 1) = m.testBit c := by
  have := w_bit_eq (m := m) (c := c) hm
  rwa [Nat.min_eq_left (Nat.le_of_lt hc)] at this
theorem w_bit_lt0 {m c : Nat} (hm : m < 2 ^ 64) (hc : c < 64) : (bits BinOp.and IntKind.u64 ((m : Int) / 2 ^ c) 1 == 0) = !m.testBit c := by
  rw [show ((2 : Int) ^ c) = 2 ^ min c 64 from by rw [Nat.min_eq_left (Nat.le_of_lt hc)], w_bit_and hm]
  cases m.testBit c <;> rfl
theorem w_bit_eq0 {m c : Nat} (hm : m < 2 ^ 64) : (bits BinOp.and IntKind.u64 ((m : Int) / 2 ^ min c 64) 1 == 0) = !m.testBit c := by
  rw [w_bit_and hm]
  cases m.testBit c <;> rfl
theorem w_bit_mod {m c : Nat} (hm : m < 2 ^ 64) : (((m : Int) / 2 ^ min c 64).tmod 2 == 1) = m.testBit c := by
  rw [shr_min hm]
  rw [show ((m >>> c : Nat) : Int).tmod 2 = ((m >>> c % 2 : Nat) : Int) from by
    generalize m >>> c = y
    rw [Int.tmod_eq_emod_of_nonneg (by omega)]; omega]
  rw [Nat.testBit, Nat.and_comm, nat_mask1]
  rcases Nat.mod_two_eq_zero_or_one (m >>> c) with h | h <;> simp [h]
end Go.Proofs.Ytabejgcpihacpaa
