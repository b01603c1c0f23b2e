/- From the form's readings of the arguments to lists: slices of ints, slices of pairs. -/
import Derived.Test.YtiedecekbdaohaaOpen
import Derived.Test.YtiedecekbdaohaaPairs
import Derived.Deep.Slices
import Derived.Deep.Fields
import Derived.ChangeSame
namespace Go.Proofs.Ytiedecekbdaohaa
open Go.RowKit Go.ChangeShapes Go.WideShapes Go.Deep

theorem row_int {w : World} {a : Option Addr} {len cap : Nat} {zs : List Int}
    (h : (a = none ∧ len = 0 ∧ cap = 0 ∧ zs = []) ∨ ∃ x, a = some x ∧ len ≤ cap ∧ cap ≤ maxLen ∧ zs.length = cap ∧ (∀ i, i < zs.length → w.cell? (x.add i) = some (.int .i64 (zs.getD i 0))) ∧ ∀ n ∈ zs, (Lit.int .i64 n).wf = true) :
    ∃ l : List Int, len = l.length ∧ len ≤ cap ∧ cap ≤ 9223372036854775807 ∧ SlAt w a (l.map i64) := by
  rcases h with ⟨rfl, rfl, rfl, rfl⟩ | ⟨x, rfl, h1, h2, h3, h4, h5⟩
  · exact ⟨[], rfl, Nat.le_refl _, by omega, SlAt.nil_⟩
  · refine ⟨zs.take len, by simp; omega, h1, h2, fun hl => ?_⟩
    have hl0 : 0 < zs.length := by simp at hl; omega
    obtain ⟨b, o, rfl, hc0⟩ := ints_at h4 hl0
    refine ⟨b, o, rfl, World.block_lt_of_cell? _ _ (hc0 0 hl0), fun i v hv => ?_⟩
    have hi : i < zs.length := by
      have := (List.getElem?_eq_some_iff.1 hv).1
      simp at this; omega
    rw [hc0 i hi]
    simp only [List.getElem?_map, List.getElem?_take] at hv
    split at hv
    · rw [List.getElem?_eq_getElem hi] at hv
      simp only [Option.map_some, Option.some.injEq] at hv
      subst hv
      rw [List.getD_eq_getElem?_getD, List.getElem?_eq_getElem hi]
      rfl
    · simp at hv
section
variable {H : Type} {enc : TypeId × Value → H} {w : World} {base fuel : Nat} {spare : Nat → Bool} {held : Bool}
theorem pair_cells {cs : List Value} {x : DataW H × List MemPlace} (h : DataW.trod enc Try.prog w base spare held fuel 39 cs = some x) : ∃ a b, cs = [.int .i64 a, .int .i64 b] := by
  obtain ⟨xs, n, rfl, hx, hlen, hxl, hf⟩ := DataW.trod_struct Try.underlying39 h
  have hl : cs.length = 2 := hlen.trans (by kernel_rfl)
  have h0 : DataW.trod enc Try.prog w base spare held n 3 ((cs.drop 0).take (Try.prog.cellsOf 3)) = xs[0]? := hf 0 _ rfl
  have h1 : DataW.trod enc Try.prog w base spare held n 3 ((cs.drop 1).take (Try.prog.cellsOf 3)) = xs[1]? := hf 1 _ rfl
  rw [show Try.prog.cellsOf 3 = 1 from by kernel_rfl] at h0 h1
  match cs, hl with
  | [c0, c1], _ =>
    have hx2 : xs.length = 2 := hxl.trans rfl
    match xs, hx2 with
    | [y0, y1], _ =>
      have e0 : DataW.trod enc Try.prog w base spare held n 3 [c0] = some y0 := h0
      have e1 : DataW.trod enc Try.prog w base spare held n 3 [c1] = some y1 := h1
      obtain ⟨a, ha, _⟩ := DataW.trod_int Try.underlying3 e0
      obtain ⟨b, hb, _⟩ := DataW.trod_int Try.underlying3 e1
      injection ha with ha
      injection hb with hb
      exact ⟨a, b, by rw [ha, hb]⟩
theorem list_of {P : Nat → Pr → Prop} : ∀ n, (∀ i, i < n → ∃ p, P i p) → ∃ l : List Pr, l.length = n ∧ ∀ i p, l[i]? = some p → P i p
  | 0, _ => ⟨[], rfl, fun i p h => by simp at h⟩
  | n + 1, h => by
    obtain ⟨l, h1, h2⟩ := list_of n (fun i hi => h i (by omega))
    obtain ⟨p, hp⟩ := h n (by omega)
    refine ⟨l ++ [p], by simp [h1], fun i q hq => ?_⟩
    by_cases hi : i < l.length
    · rw [List.getElem?_append_left hi] at hq
      exact h2 i q hq
    · rw [List.getElem?_append_right (by omega)] at hq
      by_cases e : i - l.length = 0
      · rw [e] at hq
        have hqp : p = q := by simpa using hq
        have hin : i = n := by omega
        rw [hin, ← hqp]
        exact hp
      · have := (List.getElem?_eq_some_iff.1 hq).1
        simp at this
        omega
theorem prs_cells {l : List Pr} {k : Nat} {v : Value} (h : (prs l)[k]? = some v) : ∃ i p, l[i]? = some p ∧ (k = i * 2 ∧ v = .int .i64 p.1 ∨ k = i * 2 + 1 ∧ v = .int .i64 p.2) := by
  have hk := (List.getElem?_eq_some_iff.1 h).1
  rw [prs_len] at hk
  have hi : k / 2 < l.length := by omega
  obtain ⟨h1, h2⟩ := prs_get (List.getElem?_eq_getElem hi)
  refine ⟨k / 2, l[k / 2], List.getElem?_eq_getElem hi, ?_⟩
  rcases Nat.mod_two_eq_zero_or_one k with e | e
  · have e2 : k / 2 * 2 = k := by omega
    rw [e2, h] at h1
    injection h1 with h1
    exact .inl ⟨e2.symm, h1⟩
  · have e2 : k / 2 * 2 + 1 = k := by omega
    rw [e2, h] at h2
    injection h2 with h2
    exact .inr ⟨e2.symm, h2⟩
theorem open_pairs {a : Option Addr} {len cap : Nat} {x : DataW H × List MemPlace} (h : DataW.trod enc Try.prog w base spare held fuel 23 [.slice a len cap] = some x) :
    ∃ l : List Pr, len = l.length ∧ len ≤ cap ∧ cap ≤ 9223372036854775807 ∧ SlAt w a (prs l) := by
  rcases open_slice Try.underlying23 h with ⟨hcs, _⟩ | ⟨ad, len', cap', m, n, D, Pl, hcs, hb, hl, hm, hmm, hx, hi⟩
  · simp at hcs
    obtain ⟨rfl, rfl, rfl⟩ := hcs
    exact ⟨[], rfl, Nat.le_refl _, by omega, SlAt.nil_⟩
  · simp at hcs
    obtain ⟨rfl, rfl, rfl⟩ := hcs
    have hlm : len ≤ m := by rw [hmm]; split <;> omega
    rw [show Try.prog.cellsOf 39 = 2 from by kernel_rfl] at hi
    have hcell : ∀ i, i < len → ∃ p : Pr, w.cell? (ad.add (i * 2)) = some (.int .i64 p.1) ∧ w.cell? (ad.add (i * 2 + 1)) = some (.int .i64 p.2) := by
      intro i hil
      obtain ⟨cs', hc, ht⟩ := hi i (by omega)
      obtain ⟨u, v, rfl⟩ := pair_cells ht
      obtain ⟨_, _, hat⟩ := World.cells?_some hc
      have h0 := hat 0 (by omega)
      have h1 := hat 1 (by omega)
      rw [Go.Deep.add_add] at h0 h1
      exact ⟨(u, v), h0, h1⟩
    obtain ⟨l, hll, hlc⟩ := list_of len hcell
    refine ⟨l, hll.symm, hl, by unfold maxLen at hm; omega, fun hpos => ?_⟩
    rw [prs_len] at hpos
    have hl0 : 0 < l.length := by omega
    obtain ⟨b, off, spot⟩ := ad
    have hc0 := (hlc 0 _ (List.getElem?_eq_getElem hl0)).1
    have hspot : spot = none := by simpa [Addr.add] using World.cell?_spot hc0
    subst hspot
    refine ⟨b, off, rfl, ?_, fun i v hv => ?_⟩
    · rw [Go.WideShapes.add_plain] at hc0
      exact World.block_lt_of_cell? _ _ hc0
    · obtain ⟨j, p, hp, hh⟩ := prs_cells hv
      have h2 := hlc j p hp
      rw [Go.WideShapes.add_plain, Go.WideShapes.add_plain] at h2
      rcases hh with ⟨rfl, rfl⟩ | ⟨rfl, rfl⟩
      · exact h2.1
      · exact h2.2
end
end Go.Proofs.Ytiedecekbdaohaa
