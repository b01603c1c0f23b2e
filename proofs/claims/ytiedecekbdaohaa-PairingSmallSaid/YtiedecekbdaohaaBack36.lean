/- PairingBack, in plain Lean. -/
import Derived.Test.YtiedecekbdaohaaFewer36
import Derived.Test.YtiedecekbdaohaaClean36
import Derived.Test.YtiedecekbdaohaaNamed36
namespace Go.Proofs.Ytiedecekbdaohaa

theorem bnd_8 : ∀ n, n ≤ 8 → bnd n ≤ 105 := by decide
/-- A draw by its number. -/
structure BackAt (t : List Int) (m : List Pr) (k : Nat) (d : List Pr) : Prop where
  e : pNthE t m k = 0
  num : pNum t m d = (k, 0)
  clean : pClean t m d = true
  len : 2 * d.length = t.length
  n64 : ∀ p ∈ d, (1 ≤ p.1 ∧ p.1 ≤ 64) ∧ 1 ≤ p.2 ∧ p.2 ≤ 64
theorem back {t : List Int} {m : List Pr} (ht : TeamsOk t) (hm : NumOk m) (h8 : t.length ≤ 8) (he : t.length % 2 = 0) :
    pOdd t m = 0 ∧ pCount t m ≤ 105 ∧ (∀ k : Nat, k < pCount t m → BackAt t m k (pNthR t m k)) ∧
      (∀ k : Nat, k + 1 < pCount t m → pBefore t (pNthR t m k) (pNthR t m (k + 1 : Nat)) = true) ∧ pNthE t m (pCount t m : Nat) = 6 ∧ pNthE t m (-1) = 6 := by
  obtain ⟨h1, h2⟩ := odd_num ht hm (by omega) he
  have hc : cnt m t ≤ 105 := Nat.le_trans (cnt_le m _ t rfl) (bnd_8 _ h8)
  have hr : ∀ k : Nat, k < cnt m t → (draws m t)[k]? = some (pNthR t m k) := fun k hk => by
    unfold pNthR nthR
    rw [if_neg (fun h => h h1), if_pos (by omega), show ((k : Int)).toNat = k from by omega]
    rw [List.getElem?_eq_getElem (show k < (draws m t).length from hk)]
    rfl
  rw [h2]
  refine ⟨h1, hc, fun k hk => ?_, fun k hk => ?_, ?_, ?_⟩
  · have hd := hr k hk
    have hmem := List.mem_of_getElem? hd
    obtain ⟨_, hlen⟩ := numF_of (m := m) (m' := m) (fun _ _ h => h) _ t rfl ht.1 _ hmem
    refine ⟨?_, ?_, clean_draw ht.1 hmem, hlen, fun p hp => ?_⟩
    · unfold pNthE nthE
      rw [if_neg (fun h => h h1), if_pos (by omega)]
    · unfold pNum
      rw [if_neg (fun h => h h1), if_neg (fun h => h hlen), numF_nth _ t rfl ht.1 _ _ hd]
    · have h3 : p ∈ nthR m t k := by
        have : pNthR t m k = nthR m t k := by unfold pNthR; rw [if_neg (fun h => h h1)]
        rw [← this]; exact hp
      have := nthR_mem m t k p h3
      exact ⟨ht.2 _ this.1, ht.2 _ this.2⟩
  · exact draws_before ht.1 _ t rfl (List.Sublist.refl _) k (k + 1) _ _ (by omega) (hr k (by omega)) (hr (k + 1) hk)
  · unfold pNthE nthE
    rw [if_neg (fun h => h h1), if_neg (by omega)]
  · unfold pNthE nthE
    rw [if_neg (fun h => h h1), if_neg (by omega)]
end Go.Proofs.Ytiedecekbdaohaa
