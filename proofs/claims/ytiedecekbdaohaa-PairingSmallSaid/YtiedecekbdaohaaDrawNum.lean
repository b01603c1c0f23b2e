/- The numbers of draws, in plain Lean. -/
import Derived.Test.YtiedecekbdaohaaPrNum
namespace Go.Proofs.Ytiedecekbdaohaa

theorem nodup_take {l : List Int} {k : Nat} {x : Int} (hn : l.Nodup) (hx : l[k]? = some x) : x ∉ l.take k := by
  intro h
  have h2 : x ∈ l.drop k := List.mem_of_getElem? (i := 0) (by rw [List.getElem?_drop]; exact hx)
  have h3 := hn
  rw [← List.take_append_drop k l, List.nodup_append] at h3
  exact h3.2.2 x h x h2 rfl
theorem idxI_cons {t : Int} {rest : List Int} {k : Nat} {x : Int} (hn : (t :: rest).Nodup) (hx : rest[k]? = some x) : idxI (t :: rest) x = ((k + 1 : Nat) : Int) :=
  idxI_hit (nodup_take (k := k + 1) hn (by simpa using hx)) (by simpa using hx)
theorem numF_cons {m : List Pr} {t : Int} {rest : List Int} {k : Nat} {x : Int} {d : List Pr} (hn : (t :: rest).Nodup) (hx : rest[k]? = some x) (hm : pMet m t x = false) :
    numF m ((t, x) :: d) (t :: rest) = (numF m d (rest.eraseIdx k)).map (fun q => cntTo m t rest k + q) := by
  have e := idxI_cons hn hx
  have e2 : (((k + 1 : Nat) : Int) - 1).toNat = k := by omega
  conv => lhs; unfold numF
  dsimp only
  rw [e, e2, if_pos ⟨rfl, by omega, hm⟩]
  cases numF m d (rest.eraseIdx k) <;> rfl
/-- A draw in which fewer have met is a draw of all. -/
theorem numF_of {m m' : List Pr} (hs : ∀ a b, pMet m' a b = false → pMet m a b = false) : ∀ n l, List.length l = n → l.Nodup → ∀ d ∈ draws m' l, (∃ q, numF m d l = some q) ∧ 2 * d.length = l.length := by
  intro n
  induction n using Nat.strongRecOn with
  | _ n ih =>
    intro l hl hn
    cases l with
    | nil =>
      intro d hd
      obtain rfl : d = [] := by simpa [draws_nil] using hd
      exact ⟨⟨0, rfl⟩, rfl⟩
    | cons t rest =>
      rw [draws_cons]
      have h2 := (List.nodup_cons.1 hn).2
      have key : ∀ k, k ≤ rest.length → ∀ d ∈ drawsTo m' t rest k, (∃ q, numF m d (t :: rest) = some q) ∧ 2 * d.length = (t :: rest).length := by
        intro k
        induction k with
        | zero => intro _ d hd; cases hd
        | succ k ihk =>
          intro hk d hd
          obtain ⟨x, hx⟩ := getI_some (l := rest) (k := k) (by omega)
          unfold drawsTo at hd
          rw [hx, Option.getD_some] at hd
          rcases List.mem_append.1 hd with hd | hd
          · exact ihk (by omega) d hd
          · split at hd
            · cases hd
            · rename_i hm
              obtain ⟨d', hd', rfl⟩ := List.mem_map.1 hd
              have hle : (rest.eraseIdx k).length = rest.length - 1 := List.length_eraseIdx_of_lt (by omega)
              obtain ⟨⟨q, hq⟩, h3⟩ := ih (rest.eraseIdx k).length (by rw [hle]; simp at hl; omega) _ rfl (h2.sublist (List.eraseIdx_sublist ..)) d' hd'
              refine ⟨⟨cntTo m t rest k + q, ?_⟩, ?_⟩
              · rw [numF_cons hn hx (hs _ _ (by simpa using hm)), hq]; rfl
              · simp only [List.length_cons]; omega
      exact key rest.length (Nat.le_refl _)
/-- The draw with number j has number j. -/
theorem numF_nth {m : List Pr} : ∀ n l, List.length l = n → l.Nodup → ∀ j d, (draws m l)[j]? = some d → numF m d l = some j := by
  intro n
  induction n using Nat.strongRecOn with
  | _ n ih =>
    intro l hl hn
    cases l with
    | nil =>
      intro j d hd
      rw [draws_nil] at hd
      obtain ⟨hj, e⟩ := List.getElem?_eq_some_iff.1 hd
      simp at hj
      subst hj
      subst e
      rfl
    | cons t rest =>
      rw [draws_cons]
      have h2 := (List.nodup_cons.1 hn).2
      have key : ∀ k, k ≤ rest.length → ∀ j d, (drawsTo m t rest k)[j]? = some d → numF m d (t :: rest) = some j := by
        intro k
        induction k with
        | zero => intro _ j d hd; cases hd
        | succ k ihk =>
          intro hk j d hd
          obtain ⟨x, hx⟩ := getI_some (l := rest) (k := k) (by omega)
          unfold drawsTo at hd
          rw [hx, Option.getD_some] at hd
          rcases Nat.lt_or_ge j (drawsTo m t rest k).length with hj | hj
          · rw [List.getElem?_append_left hj] at hd
            exact ihk (by omega) j d hd
          · rw [List.getElem?_append_right hj] at hd
            split at hd
            · cases hd
            · rename_i hm
              rw [List.getElem?_map] at hd
              cases hq : (draws m (rest.eraseIdx k))[j - (drawsTo m t rest k).length]? with
              | none => rw [hq] at hd; cases hd
              | some d' =>
                rw [hq] at hd
                cases hd
                have hle : (rest.eraseIdx k).length = rest.length - 1 := List.length_eraseIdx_of_lt (by omega)
                have h3 := ih (rest.eraseIdx k).length (by rw [hle]; simp at hl; omega) _ rfl (h2.sublist (List.eraseIdx_sublist ..)) _ d' hq
                rw [numF_cons hn hx (by simpa using hm), h3]
                show some (cntTo m t rest k + (j - (drawsTo m t rest k).length)) = some j
                unfold cntTo
                congr 1
                omega
      exact key rest.length (Nat.le_refl _)
end Go.Proofs.Ytiedecekbdaohaa
