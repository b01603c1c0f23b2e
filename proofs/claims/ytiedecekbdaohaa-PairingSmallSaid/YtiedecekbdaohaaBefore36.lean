/- The order of draws, in plain Lean. -/
import Derived.Test.YtiedecekbdaohaaDrawNum
namespace Go.Proofs.Ytiedecekbdaohaa

def pBefore (t : List Int) : List Pr → List Pr → Bool
  | [], _ => false
  | _ :: _, [] => false
  | p :: a, q :: b => if p = q then pBefore t a b else match t.find? (fun z => z == p.2 || z == q.2) with
    | some z => z == p.2
    | none => pBefore t a b
theorem find_first {x y : Int} : ∀ {l : List Int}, l.Nodup → [x, y].Sublist l → l.find? (fun z => z == x || z == y) = some x
  | [], _, h => by cases h
  | z :: l, hn, h => by
    obtain ⟨h1, h2⟩ := List.nodup_cons.1 hn
    by_cases e : z = x
    · subst e; rw [List.find?_cons_of_pos (by simp)]
    · have h3 : [x, y].Sublist l := by
        cases h with
        | cons _ h => exact h
        | cons_cons _ h => exact absurd rfl e
      have hy : z ≠ y := fun e2 => h1 (e2 ▸ h3.subset (by simp))
      rw [List.find?_cons_of_neg (by simp [e, hy]), find_first h2 h3]
theorem two_sublist {l : List Int} {i k : Nat} {x y : Int} (hx : l[i]? = some x) (hy : l[k]? = some y) (hik : i < k) : [x, y].Sublist l := by
  obtain ⟨hk, e⟩ := List.getElem?_eq_some_iff.1 hy
  have h1 : l = l.take k ++ l.drop k := (List.take_append_drop k l).symm
  have h2 : x ∈ l.take k := List.mem_of_getElem? (i := i) (by rw [List.getElem?_take_of_lt hik]; exact hx)
  have h3 : y ∈ l.drop k := List.mem_of_getElem? (i := 0) (by rw [List.getElem?_drop]; exact hy)
  rw [h1]
  exact List.Sublist.append (List.singleton_sublist.2 h2) (List.singleton_sublist.2 h3)
theorem drawsTo_mem {m : List Pr} {t : Int} {rest : List Int} : ∀ k, k ≤ rest.length → ∀ d ∈ drawsTo m t rest k, ∃ i x d', i < k ∧ rest[i]? = some x ∧ d = (t, x) :: d' := by
  intro k
  induction k with
  | zero => intro _ d hd; cases hd
  | succ k ih =>
    intro hk d hd
    obtain ⟨x, hx⟩ := getI_some (l := rest) (k := k) (by omega)
    unfold drawsTo at hd
    rw [hx, Option.getD_some] at hd
    rcases List.mem_append.1 hd with hd | hd
    · obtain ⟨i, x', d', h1, h2, h3⟩ := ih (by omega) d hd
      exact ⟨i, x', d', by omega, h2, h3⟩
    · split at hd
      · cases hd
      · obtain ⟨d', _, rfl⟩ := List.mem_map.1 hd
        exact ⟨k, x, d', by omega, hx, rfl⟩
/-- The draws lie in order. -/
theorem draws_before {m : List Pr} {l0 : List Int} (h0 : l0.Nodup) : ∀ n l, List.length l = n → l.Sublist l0 → ∀ (i j : Nat) (a b : List Pr), i < j → (draws m l)[i]? = some a → (draws m l)[j]? = some b → pBefore l0 a b = true := by
  intro n
  induction n using Nat.strongRecOn with
  | _ n ih =>
    intro l hl hs
    cases l with
    | nil =>
      intro i j a b hij _ hb
      rw [draws_nil] at hb
      obtain ⟨hj, _⟩ := List.getElem?_eq_some_iff.1 hb
      simp at hj
      omega
    | cons t rest =>
      rw [draws_cons]
      have hs2 : rest.Sublist l0 := (List.sublist_cons_self t rest).trans hs
      have hn := List.nodup_cons.1 (h0.sublist hs)
      have key : ∀ k, k ≤ rest.length → ∀ (i j : Nat) (a b : List Pr), i < j → (drawsTo m t rest k)[i]? = some a → (drawsTo m t rest k)[j]? = some b → pBefore l0 a b = true := by
        intro k
        induction k with
        | zero => intro _ i j a b _ ha; cases ha
        | succ k ihk =>
          intro hk i j a b hij ha hb
          obtain ⟨x, hx⟩ := getI_some (l := rest) (k := k) (by omega)
          unfold drawsTo at ha hb
          rw [hx, Option.getD_some] at ha hb
          rcases Nat.lt_or_ge j (drawsTo m t rest k).length with hj | hj
          · rw [List.getElem?_append_left (by omega)] at ha
            rw [List.getElem?_append_left hj] at hb
            exact ihk (by omega) i j a b hij ha hb
          · rw [List.getElem?_append_right hj] at hb
            by_cases hm : pMet m t x = true
            · rw [if_pos hm] at hb; cases hb
            · rw [if_neg hm, List.getElem?_map] at hb
              rw [if_neg hm] at ha
              obtain ⟨b', hb', rfl⟩ := Option.map_eq_some_iff.1 hb
              rcases Nat.lt_or_ge i (drawsTo m t rest k).length with hi | hi
              · rw [List.getElem?_append_left hi] at ha
                obtain ⟨i', x', a', h1, h2, rfl⟩ := drawsTo_mem k (by omega) a (List.mem_of_getElem? ha)
                have h3 := (two_sublist h2 hx h1)
                have hne : x' ≠ x := by
                  have := hn.2.sublist h3
                  simpa using this
                unfold pBefore
                rw [if_neg (fun e => hne (Prod.mk.inj e).2), find_first h0 (h3.trans hs2)]
                simp
              · rw [List.getElem?_append_right hi, List.getElem?_map] at ha
                obtain ⟨a', ha', rfl⟩ := Option.map_eq_some_iff.1 ha
                unfold pBefore
                rw [if_pos rfl]
                exact ih (rest.eraseIdx k).length (by rw [List.length_eraseIdx_of_lt (by omega)]; simp at hl; omega) _ rfl ((List.eraseIdx_sublist ..).trans hs2) _ _ a' b' (by omega) ha' hb'
      exact key rest.length (Nat.le_refl _)
end Go.Proofs.Ytiedecekbdaohaa
