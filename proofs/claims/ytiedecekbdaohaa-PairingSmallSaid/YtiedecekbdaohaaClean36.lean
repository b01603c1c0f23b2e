/- clean of the statements of layer 36, in plain Lean: a draw of teams is clean. -/
import Derived.Test.YtiedecekbdaohaaBefore36
import Derived.Test.YtiedecekbdaohaaMapI
namespace Go.Proofs.Ytiedecekbdaohaa

def pl (g : Int → Option Int) (x : Int) : Int := (g x).getD 0
/-- The loop over the pairs of a draw. -/
def clF (m : List Pr) : (Int → Option Int) → Int → List Pr → Bool
  | _, _, [] => true
  | g, last, p :: d => if pl g p.1 ≤ last ∨ pl g p.2 ≤ pl g p.1 ∨ pMet m p.1 p.2 = true then false else clF m (upd (upd g p.1 0) p.2 0) (pl g p.1) d
/-- Where each team is. -/
def placeTo (t : List Int) : Nat → Int → Option Int
  | 0 => fun _ => none
  | k + 1 => upd (placeTo t k) (t[k]?.getD 0) (k + 1 : Nat)
def pClean (t : List Int) (m d : List Pr) : Bool := if 2 * d.length = t.length then clF m (placeTo t t.length) 0 d else false

theorem placeTo_out {t : List Int} {x : Int} : ∀ k, k ≤ t.length → x ∉ t.take k → placeTo t k x = none
  | 0, _, _ => rfl
  | k + 1, hk, hx => by
    obtain ⟨y, hy⟩ := getI_some (l := t) (k := k) (by omega)
    have h1 : t.take (k + 1) = t.take k ++ [y] := by
      obtain ⟨h2, h3⟩ := List.getElem?_eq_some_iff.1 hy
      rw [List.take_succ_eq_append_getElem h2, h3]
    rw [h1] at hx
    have h2 : x ∉ t.take k := fun h => hx (List.mem_append_left _ h)
    have h3 : x ≠ y := fun h => hx (by rw [h]; simp)
    unfold placeTo upd
    rw [hy, Option.getD_some, if_neg h3]
    exact placeTo_out k (by omega) h2
theorem placeTo_at {t : List Int} (hn : t.Nodup) {i : Nat} {x : Int} (hx : t[i]? = some x) : ∀ k, k ≤ t.length → i < k → placeTo t k x = some ((i + 1 : Nat) : Int)
  | 0, _, h => absurd h (by omega)
  | k + 1, hk, hi => by
    obtain ⟨y, hy⟩ := getI_some (l := t) (k := k) (by omega)
    unfold placeTo upd
    rw [hy, Option.getD_some]
    by_cases e : i = k
    · subst e
      rw [hx] at hy
      injection hy with hy
      rw [if_pos hy]
    · have hne : x ≠ y := fun h => by
        subst h
        obtain ⟨h1, e1⟩ := List.getElem?_eq_some_iff.1 hx
        obtain ⟨h2, e2⟩ := List.getElem?_eq_some_iff.1 hy
        exact e ((List.getElem_inj hn).1 (e1.trans e2.symm))
      rw [if_neg hne]
      exact placeTo_at hn hx k (by omega) (by omega)
/-- The teams lie at places that rise. -/
def Rise (g : Int → Option Int) (last : Int) (l : List Int) : Prop := (∀ x ∈ l, last < pl g x) ∧ l.Pairwise (fun x y => pl g x < pl g y)
theorem rise_place {t : List Int} (hn : t.Nodup) : Rise (placeTo t t.length) 0 t := by
  have h1 : ∀ i x, t[i]? = some x → pl (placeTo t t.length) x = ((i + 1 : Nat) : Int) := fun i x hx => by
    unfold pl
    rw [placeTo_at hn hx _ (Nat.le_refl _) (List.getElem?_eq_some_iff.1 hx).1, Option.getD_some]
  refine ⟨fun x hx => ?_, ?_⟩
  · obtain ⟨i, hi, e⟩ := List.mem_iff_getElem.1 hx
    rw [h1 i x (by rw [List.getElem?_eq_getElem hi, e])]
    omega
  · rw [List.pairwise_iff_getElem]
    intro i j hi hj hij
    rw [h1 i _ (List.getElem?_eq_getElem hi), h1 j _ (List.getElem?_eq_getElem hj)]
    omega
theorem draws_clean {m : List Pr} : ∀ n l, List.length l = n → ∀ (g : Int → Option Int) (last : Int), Rise g last l → ∀ d ∈ draws m l, clF m g last d = true ∧ 2 * d.length = l.length := by
  intro n
  induction n using Nat.strongRecOn with
  | _ n ih =>
    intro l hl g last hR d hd
    cases l with
    | nil =>
      rw [draws_nil] at hd
      obtain rfl : d = [] := by simpa using hd
      exact ⟨rfl, rfl⟩
    | cons t rest =>
      rw [draws_cons, drawsTo_eq _ _ _ _ (Nat.le_refl _)] at hd
      obtain ⟨i, hi, hd⟩ := List.mem_flatMap.1 hd
      have hi : i < rest.length := by simpa using hi
      obtain ⟨x, hx⟩ := getI_some (l := rest) (k := i) hi
      rw [hx, Option.getD_some] at hd
      split at hd
      · cases hd
      · rename_i hm
        obtain ⟨d', hd', rfl⟩ := List.mem_map.1 hd
        obtain ⟨h1, h2⟩ := List.pairwise_cons.1 hR.2
        have hxr : x ∈ rest := List.mem_of_getElem? hx
        have hlt : last < pl g t := hR.1 t (List.mem_cons_self ..)
        have htx := h1 x hxr
        have hel : (rest.eraseIdx i).length + 1 = rest.length := by rw [List.length_eraseIdx_of_lt hi]; omega
        have hsub : (rest.eraseIdx i).Sublist rest := List.eraseIdx_sublist ..
        have hnx : x ∉ rest.eraseIdx i := by
          intro hmem
          have hnd : rest.Nodup := h2.imp (fun h e => by rw [e] at h; omega)
          obtain ⟨hi', e⟩ := List.getElem?_eq_some_iff.1 hx
          rw [List.mem_eraseIdx_iff_getElem] at hmem
          obtain ⟨j, hj, hne, e2⟩ := hmem
          exact hne ((List.getElem_inj hnd).1 (e2.trans e.symm))
        have hg : ∀ y ∈ rest.eraseIdx i, pl (upd (upd g t 0) x 0) y = pl g y := by
          intro y hy
          have hyr := hsub.subset hy
          have h3 := h1 y hyr
          unfold pl upd
          rw [if_neg (fun e : y = x => hnx (e ▸ hy)), if_neg (fun e : y = t => by rw [e] at h3; omega)]
        have hR' : Rise (upd (upd g t 0) x 0) (pl g t) (rest.eraseIdx i) := by
          refine ⟨fun y hy => ?_, ?_⟩
          · rw [hg y hy]; exact h1 y (hsub.subset hy)
          · refine (h2.sublist hsub).imp_of_mem ?_
            intro a b ha hb hab
            rw [hg a ha, hg b hb]
            exact hab
        simp only [List.length_cons] at hl
        obtain ⟨h4, h5⟩ := ih _ (by omega) _ rfl _ _ hR' d' hd'
        constructor
        · unfold clF
          rw [if_neg]
          · exact h4
          · rintro (h | h | h)
            · dsimp only at h; omega
            · dsimp only at h; omega
            · exact hm h
        · simp only [List.length_cons]; omega
theorem clean_draw {t : List Int} {m : List Pr} (hn : t.Nodup) {d : List Pr} (hd : d ∈ draws m t) : pClean t m d = true := by
  obtain ⟨h1, h2⟩ := draws_clean _ t rfl _ _ (rise_place hn) d hd
  unfold pClean
  rw [if_pos h2]
  exact h1
end Go.Proofs.Ytiedecekbdaohaa
