/- Lists of draws in memory: a row of slices, each a row of its own; the numbers of draws (plain). -/
import Derived.Test.YtiedecekbdaohaaFirst36
namespace Go.Proofs.Ytiedecekbdaohaa
open Go.RowKit

/-- A row's cells are slices that read as these lists of pairs, each in memory from base on. -/
inductive LL (w : World) (base : Nat) : List Value → List (List Pr) → Prop
  | nil : LL w base [] []
  | cons {v : Value} {d : List Pr} {vs : List Value} {ds : List (List Pr)} : w.ownsRow base 71 2 v d.length (prs d) → LL w base vs ds → LL w base (v :: vs) (d :: ds)
theorem LL.len {w : World} {base : Nat} {vs : List Value} {ds : List (List Pr)} (h : LL w base vs ds) : vs.length = ds.length := by
  induction h with
  | nil => rfl
  | cons _ _ ih => simp [ih]
theorem LL.at_ {w : World} {base : Nat} {vs : List Value} {ds : List (List Pr)} (h : LL w base vs ds) : ∀ {k : Nat} {v : Value} {d : List Pr}, vs[k]? = some v → ds[k]? = some d → w.ownsRow base 71 2 v d.length (prs d) := by
  induction h with
  | nil => intro k v d hv; simp at hv
  | cons h1 _ ih =>
    intro k v d hv hd
    cases k with
    | zero => simp at hv hd; subst hv hd; exact h1
    | succ k => simp at hv hd; exact ih hv hd
theorem LL.imp {w w' : World} {base base' : Nat} {vs : List Value} {ds : List (List Pr)} (h : LL w base vs ds) (hi : ∀ v d, w.ownsRow base 71 2 v (List.length d) (prs d) → w'.ownsRow base' 71 2 v d.length (prs d)) : LL w' base' vs ds := by
  induction h with
  | nil => exact .nil
  | cons h1 _ ih => exact .cons (hi _ _ h1) ih
theorem LL.later {w w' : World} {base : Nat} {vs : List Value} {ds : List (List Pr)} (h : LL w base vs ds) (hb : Below w.heap.size w w') : LL w' base vs ds := h.imp fun _ _ h => own_later h hb
theorem LL.mono {w : World} {base base' : Nat} {vs : List Value} {ds : List (List Pr)} (h : LL w base vs ds) (hb : base' ≤ base) : LL w base' vs ds := h.imp fun _ _ h => own_mono h hb
theorem LL.snoc {w : World} {base : Nat} {vs : List Value} {ds : List (List Pr)} {v : Value} {d : List Pr} (h : LL w base vs ds) (hv : w.ownsRow base 71 2 v d.length (prs d)) : LL w base (vs ++ [v]) (ds ++ [d]) := by
  induction h with
  | nil => exact .cons hv .nil
  | cons h1 _ ih => exact .cons h1 ih
/-- The rows of pairs are no part of the row of slices: the blocks' kinds differ. -/
theorem own_apart {w : World} {base base' : Nat} {v u : Value} {n m : Nat} {xs ys : List Value} (h : w.ownsRow base 71 2 v n xs) (h' : w.ownsRow base' 30 1 u m ys) : v.ownBlock = none ∨ v.ownBlock ≠ u.ownBlock := by
  obtain ⟨_, ⟨rfl, _⟩ | ⟨g, c, cur, rfl, _, hh, _⟩⟩ := h
  · exact .inl rfl
  · obtain ⟨_, ⟨rfl, _⟩ | ⟨g', c', cur', rfl, _, hh', _⟩⟩ := h'
    · exact .inr (by simp [Value.ownBlock])
    · refine .inr (fun e => ?_)
      have e2 : g = g' := by simpa [Value.ownBlock] using e
      subst e2
      rw [hh] at hh'
      injection hh' with hh'
      injection hh' with _ ht
      exact absurd ht (by decide)
theorem LL.grown {w w' : World} {base base' : Nat} {vs : List Value} {ds : List (List Pr)} {u : Value} {m : Nat} {ys : List Value} (h : LL w base vs ds) (hu : w.ownsRow base' 30 1 u m ys) (hg : w.grownBy w' u.ownBlock) : LL w' base vs ds :=
  h.imp fun _ _ hh => hh.kept hg (own_apart hh hu)
def AllPost (l : List Pr) (t : List Int) (w : World) (e : Ending) (w' : World) : Prop :=
  ∃ v vs, e = .returned v ∧ w'.ownsRow w.heap.size 30 1 v (draws l t).length vs ∧ LL w' w.heap.size vs (draws l t) ∧ Below w.heap.size w w'
theorem drawsTo_keep {m : List Pr} {t : Int} {R : List Int} {d : List Pr} {j k : Nat} (h : (drawsTo m t R k)[j]? = some d) : ∀ k', k ≤ k' → (drawsTo m t R k')[j]? = some d := by
  intro k' hk
  induction k' with
  | zero =>
    obtain rfl : k = 0 := by omega
    exact h
  | succ k' ih =>
    by_cases e : k = k' + 1
    · rw [← e]; exact h
    · have h1 := ih (by omega)
      unfold drawsTo
      rw [List.getElem?_append_left (List.getElem?_eq_some_iff.1 h1).1]
      exact h1
/-- The number of a draw, back. -/
theorem numF_back {m : List Pr} : ∀ (d : List Pr) (l : List Int), l.Nodup → 2 * d.length = l.length → ∀ q, numF m d l = some q → (draws m l)[q]? = some d := by
  intro d
  induction d with
  | nil =>
    intro l _ hl q h
    have : l = [] := List.eq_nil_of_length_eq_zero (by simp at hl; exact hl.symm)
    subst this
    have : q = 0 := by simpa [numF] using h.symm
    subst this
    rfl
  | cons p d ih =>
    intro l hn hl q h
    cases l with
    | nil => cases h
    | cons t0 rest =>
      have hc : t0 = p.1 ∧ 1 ≤ idxI (t0 :: rest) p.2 ∧ pMet m p.1 p.2 = false := by
        by_cases hc : t0 = p.1 ∧ 1 ≤ idxI (t0 :: rest) p.2 ∧ pMet m p.1 p.2 = false
        · exact hc
        · unfold numF at h
          rw [if_neg hc] at h
          cases h
      obtain ⟨p1, p2⟩ := p
      obtain ⟨h1, h2, h3⟩ := hc
      dsimp only at h1 h2 h3
      subst h1
      have hmem : p2 ∈ t0 :: rest := by
        by_cases hm : p2 ∈ t0 :: rest
        · exact hm
        · rw [idxI_miss hm] at h2; omega
      obtain ⟨i, hi, he⟩ := List.mem_iff_getElem.1 hmem
      have hi2 := idxI_get hn (show (t0 :: rest)[i]? = some p2 from by rw [List.getElem?_eq_getElem hi, he])
      rw [hi2] at h2
      obtain ⟨k, rfl⟩ : ∃ k, i = k + 1 := ⟨i - 1, by omega⟩
      have hk : rest[k]? = some p2 := by
        have : (t0 :: rest)[k + 1]? = some p2 := by rw [List.getElem?_eq_getElem hi, he]
        simpa using this
      have hkl := (List.getElem?_eq_some_iff.1 hk).1
      rw [numF_cons hn hk h3] at h
      obtain ⟨q', hq', rfl⟩ := Option.map_eq_some_iff.1 h
      have hel : (rest.eraseIdx k).length + 1 = rest.length := by rw [List.length_eraseIdx_of_lt hkl]; omega
      have h4 := ih (rest.eraseIdx k) ((List.nodup_cons.1 hn).2.sublist (List.eraseIdx_sublist ..)) (by simp only [List.length_cons] at hl; omega) q' hq'
      rw [draws_cons]
      refine drawsTo_keep (k := k + 1) ?_ _ hkl
      unfold drawsTo
      rw [hk, Option.getD_some, h3, if_neg Bool.noConfusion, List.getElem?_append_right (by unfold cntTo; omega)]
      unfold cntTo
      rw [Nat.add_sub_cancel_left, List.getElem?_map, h4]
      rfl
/-- The first place at which a draw stands. -/
theorem num_at {m : List Pr} {t : List Int} (hn : t.Nodup) {d : List Pr} : (match (if 2 * d.length = t.length then numF m d t else none) with
    | some q => (draws m t)[q]? = some d ∧ ∀ i, i < q → (draws m t)[i]? ≠ some d
    | none => d ∉ draws m t) := by
  by_cases hl : 2 * d.length = t.length
  · rw [if_pos hl]
    cases hq : numF m d t with
    | none =>
      intro hm
      obtain ⟨i, hi, he⟩ := List.mem_iff_getElem.1 hm
      have := numF_nth (m := m) _ t rfl hn i d (by rw [List.getElem?_eq_getElem hi, he])
      rw [hq] at this
      cases this
    | some q =>
      refine ⟨numF_back d t hn hl q hq, fun i hi h => ?_⟩
      have := numF_nth (m := m) _ t rfl hn i d h
      rw [hq] at this
      injection this with this
      omega
  · rw [if_neg hl]
    exact fun hm => hl (draws_len m _ t rfl d hm)
end Go.Proofs.Ytiedecekbdaohaa
