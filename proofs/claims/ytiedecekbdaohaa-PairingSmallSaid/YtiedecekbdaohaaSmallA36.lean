/- PairingSmall, in plain Lean: how many draws there are of teams that have not met. -/
import Derived.Test.YtiedecekbdaohaaRounds36
import Derived.Test.YtiedecekbdaohaaPrNum
import Derived.Test.YtiedecekbdaohaaPrNthW
namespace Go.Proofs.Ytiedecekbdaohaa

theorem cnt_free : ∀ n l, List.length l = n → cnt [] l = bnd n := by
  intro n
  induction n using Nat.strongRecOn with
  | _ n ih =>
    intro l hl
    cases l with
    | nil => simp at hl; subst hl; rfl
    | cons t rest =>
      obtain ⟨k, rfl⟩ : ∃ k, n = k + 1 := ⟨rest.length, by simpa using hl.symm⟩
      have hr : rest.length = k := by simpa using hl
      rw [cnt_cons]
      have key : ∀ j, j ≤ rest.length → cntTo [] t rest j = j * bnd (k - 1) := by
        intro j
        induction j with
        | zero => intro _; rw [Nat.zero_mul]; rfl
        | succ j ihj =>
          intro hj
          obtain ⟨z, hz⟩ := getI_some (l := rest) (k := j) (by omega)
          rw [cntTo_no hz rfl, ihj (by omega), ih (k - 1) (by omega) _ (by rw [List.length_eraseIdx_of_lt (by omega)]; omega), Nat.succ_mul]
      rw [key rest.length (Nat.le_refl _), hr]
      cases k with
      | zero => rfl
      | succ k => show (k + 1) * bnd k = bnd (k + 2); rfl
theorem bnd16 : bnd 16 = 2027025 := by decide
/-- The numbers 64, 63, .. -/
def smM : Nat → List Int
  | 0 => []
  | k + 1 => smM k ++ [64 - (k : Int)]
theorem smM_len : ∀ k, (smM k).length = k
  | 0 => rfl
  | k + 1 => by unfold smM; rw [List.length_append, smM_len k]; rfl
theorem sm16_wrong : pWrong ((smM 17).take 16) [] = 0 := by decide +kernel
theorem sm17_wrong : pWrong (smM 17) [] = 5 := by decide +kernel
theorem sm16_len : ((smM 17).take 16).length = 16 := by decide +kernel
theorem sm16_odd : pOdd ((smM 17).take 16) [] = 0 := by
  unfold pOdd
  rw [sm16_wrong, if_neg (by decide), sm16_len, if_neg (by decide)]
theorem sm16_count : pCount ((smM 17).take 16) [] = 2027025 := by
  unfold pCount
  rw [sm16_odd, if_pos rfl, cnt_free 16 _ sm16_len, bnd16]
theorem sm17_odd : pOdd (smM 17) [] = 5 := by
  unfold pOdd
  rw [sm17_wrong, if_pos (by decide)]
theorem sm17_count : pCount (smM 17) [] = 0 := by
  unfold pCount
  rw [sm17_odd, if_neg (by decide)]
theorem sm17_nth : pNthE (smM 17) [] 0 = 5 ∧ pNthR (smM 17) [] 0 = [] := by
  unfold pNthE pNthR
  rw [sm17_odd, if_pos (by decide), if_pos (by decide)]
  exact ⟨rfl, rfl⟩
theorem sm17_num : pNum (smM 17) [] [] = (0, 5) := by
  unfold pNum
  rw [sm17_odd, if_pos (by decide)]
theorem sm17_draw : pDraw (smM 17) [] [] = ([], 0, 5) := by
  unfold pDraw
  rw [sm17_wrong, if_pos (by decide)]
end Go.Proofs.Ytiedecekbdaohaa
