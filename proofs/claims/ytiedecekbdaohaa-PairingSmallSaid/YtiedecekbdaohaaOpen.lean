/- From the form's readings of the arguments to natural numbers and lists. -/
import Derived.Test.YtiedecekbdaohaaBase
import Derived.OpenShut
namespace Go.Proofs.Ytiedecekbdaohaa
open Go.RowKit

theorem nat_u8 {a : Int} (h : (Lit.int .u8 a).wf = true) : ∃ n : Nat, a = (n : Int) ∧ n < 256 := by
  simp [Lit.wf, IntKind.min, IntKind.max, IntKind.signed, IntKind.bits] at h
  exact ⟨a.toNat, by omega, by omega⟩
theorem nat_u64 {a : Int} (h : (Lit.int .u64 a).wf = true) : ∃ n : Nat, a = (n : Int) ∧ n < 2 ^ 64 := by
  simp [Lit.wf, IntKind.min, IntKind.max, IntKind.signed, IntKind.bits] at h
  exact ⟨a.toNat, by omega, by omega⟩
theorem int_i64 {a : Int} (h : (Lit.int .i64 a).wf = true) : -9223372036854775808 ≤ a ∧ a ≤ 9223372036854775807 := by
  simp [Lit.wf, IntKind.min, IntKind.max, IntKind.signed, IntKind.bits] at h
  exact h

theorem row_nat8 {w : World} {a : Option Addr} {len cap : Nat} {zs : List Int}
    (h : (a = none ∧ len = 0 ∧ cap = 0 ∧ zs = []) ∨ ∃ x, a = some x ∧ len ≤ cap ∧ cap ≤ maxLen ∧ zs.length = cap ∧ (∀ i, i < zs.length → w.cell? (x.add i) = some (.int .u8 (zs.getD i 0))) ∧ ∀ n ∈ zs, (Lit.int .u8 n).wf = true) :
    ∃ l : List Nat, len = l.length ∧ len ≤ cap ∧ cap ≤ 9223372036854775807 ∧ SlAt w a (l.map u8) ∧ ∀ x ∈ l, x < 256 := by
  rcases h with ⟨rfl, rfl, rfl, rfl⟩ | ⟨x, rfl, h1, h2, h3, h4, h5⟩
  · exact ⟨[], rfl, Nat.le_refl _, by omega, SlAt.nil_, by simp⟩
  · have hnn : ∀ z ∈ zs, 0 ≤ z ∧ z < 256 := by
      intro z hz
      obtain ⟨n, rfl, hn⟩ := nat_u8 (h5 z hz)
      omega
    refine ⟨(zs.take len).map Int.toNat, by simp; omega, h1, h2, fun hl => ?_, ?_⟩
    · have hl0 : 0 < zs.length := by simp at hl; omega
      obtain ⟨b, o, rfl, hc0⟩ := ints_at h4 hl0
      refine ⟨b, o, rfl, World.block_lt_of_cell? _ _ (hc0 0 hl0), fun i v hv => ?_⟩
      have hi : i < zs.length := by
        have := (List.getElem?_eq_some_iff.1 hv).1
        simp at this; omega
      have hc := hc0 i hi
      rw [hc]
      have hz := hnn zs[i] (List.getElem_mem hi)
      simp only [List.getElem?_map, List.getElem?_take] at hv
      split at hv
      · rw [List.getElem?_eq_getElem hi] at hv
        simp only [Option.map_some, Option.some.injEq] at hv
        subst hv
        rw [List.getD_eq_getElem?_getD, List.getElem?_eq_getElem hi]
        unfold u8
        simp only [Option.getD_some]
        rw [Int.toNat_of_nonneg hz.1]
      · simp at hv
    · intro y hy
      simp only [List.mem_map] at hy
      obtain ⟨z, hz, rfl⟩ := hy
      have := hnn z (List.mem_of_mem_take hz)
      omega
end Go.Proofs.Ytiedecekbdaohaa
