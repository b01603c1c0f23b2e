/- Draws of teams, in plain Lean: all draws, in order; how many there are; keys of parts of the teams. -/
import Derived.Test.YtiedecekbdaohaaPairs
namespace Go.Proofs.Ytiedecekbdaohaa

theorem fm_congr {α β : Type} {f g : α → List β} : ∀ {l : List α}, (∀ x ∈ l, f x = g x) → l.flatMap f = l.flatMap g
  | [], _ => rfl
  | x :: l, h => by
    rw [List.flatMap_cons, List.flatMap_cons, h x (List.mem_cons_self ..), fm_congr (l := l) (fun y hy => h y (List.mem_cons_of_mem _ hy))]
/-- All draws of a part of the teams, with fuel. -/
def allF (m : List Pr) : Nat → List Int → List (List Pr)
  | _, [] => [[]]
  | 0, _ :: _ => []
  | f + 1, t :: rest => (List.range rest.length).flatMap fun i =>
      if pMet m t (rest[i]?.getD 0) then [] else (allF m f (rest.eraseIdx i)).map fun d => (t, rest[i]?.getD 0) :: d
def draws (m : List Pr) (l : List Int) : List (List Pr) := allF m l.length l
def cnt (m : List Pr) (l : List Int) : Nat := (draws m l).length
theorem allF_fuel (m : List Pr) : ∀ f l, l.length ≤ f → allF m f l = draws m l := by
  intro f
  induction f using Nat.strongRecOn with
  | _ f ih =>
    intro l hl
    cases l with
    | nil => cases f <;> rfl
    | cons t rest =>
      cases f with
      | zero => simp at hl
      | succ f =>
        unfold draws
        show allF m (f + 1) (t :: rest) = allF m (rest.length + 1) (t :: rest)
        unfold allF
        have hl' : rest.length ≤ f := by simpa using hl
        have key : ∀ i, i < rest.length → allF m f (rest.eraseIdx i) = allF m rest.length (rest.eraseIdx i) := by
          intro i hi
          have hle : (rest.eraseIdx i).length ≤ rest.length := by rw [List.length_eraseIdx_of_lt hi]; omega
          rw [ih f (by omega) _ (by omega)]
          rcases Nat.lt_or_ge rest.length f with h1 | h1
          · rw [ih rest.length (by omega) _ hle]
          · have : f = rest.length := by omega
            subst this
            rw [ih rest.length (by omega) _ hle]
        refine fm_congr ?_
        intro i hi
        rw [key i (by simpa using hi)]
/-- The draws in which the first team plays one of the first k others. -/
def drawsTo (m : List Pr) (t : Int) (rest : List Int) : Nat → List (List Pr)
  | 0 => []
  | k + 1 => drawsTo m t rest k ++ if pMet m t (rest[k]?.getD 0) then [] else (draws m (rest.eraseIdx k)).map fun d => (t, rest[k]?.getD 0) :: d
theorem drawsTo_eq (m : List Pr) (t : Int) (rest : List Int) : ∀ k, k ≤ rest.length → drawsTo m t rest k = (List.range k).flatMap fun i =>
      if pMet m t (rest[i]?.getD 0) then [] else (draws m (rest.eraseIdx i)).map fun d => (t, rest[i]?.getD 0) :: d
  | 0, _ => rfl
  | k + 1, hk => by
    unfold drawsTo
    rw [drawsTo_eq m t rest k (by omega), List.range_succ, List.flatMap_append]
    simp
theorem draws_nil (m : List Pr) : draws m [] = [[]] := rfl
theorem draws_cons (m : List Pr) (t : Int) (rest : List Int) : draws m (t :: rest) = drawsTo m t rest rest.length := by
  rw [drawsTo_eq m t rest _ (Nat.le_refl _)]
  show allF m (rest.length + 1) (t :: rest) = _
  unfold allF
  refine fm_congr ?_
  intro i hi
  have hi' : i < rest.length := by simpa using hi
  rw [allF_fuel m rest.length _ (by rw [List.length_eraseIdx_of_lt hi']; omega)]
def cntTo (m : List Pr) (t : Int) (rest : List Int) (k : Nat) : Nat := (drawsTo m t rest k).length
theorem cnt_nil (m : List Pr) : cnt m [] = 1 := rfl
theorem cnt_cons (m : List Pr) (t : Int) (rest : List Int) : cnt m (t :: rest) = cntTo m t rest rest.length := by unfold cnt cntTo; rw [draws_cons]
theorem cntTo_yes {m : List Pr} {t x : Int} {rest : List Int} {k : Nat} (hx : rest[k]? = some x) (h : pMet m t x = true) : cntTo m t rest (k + 1) = cntTo m t rest k := by
  show (drawsTo m t rest (k + 1)).length = _
  unfold drawsTo
  rw [hx, Option.getD_some, if_pos h, List.append_nil]
  rfl
theorem cntTo_no {m : List Pr} {t x : Int} {rest : List Int} {k : Nat} (hx : rest[k]? = some x) (h : pMet m t x = false) : cntTo m t rest (k + 1) = cntTo m t rest k + cnt m (rest.eraseIdx k) := by
  show (drawsTo m t rest (k + 1)).length = _
  unfold drawsTo
  rw [hx, Option.getD_some, if_neg (by rw [h]; exact Bool.noConfusion), List.length_append, List.length_map]
  rfl
/-- A bound of the number of draws. -/
def bnd : Nat → Nat
  | 0 => 1
  | 1 => 0
  | n + 2 => (n + 1) * bnd n
theorem cnt_le (m : List Pr) : ∀ n l, List.length l = n → cnt m l ≤ bnd n := by
  intro n
  induction n using Nat.strongRecOn with
  | _ n ih =>
    intro l hl
    cases l with
    | nil => simp at hl; subst hl; exact Nat.le_refl _
    | cons t rest =>
      rw [cnt_cons]
      simp at hl
      have key : ∀ k, k ≤ rest.length → cntTo m t rest k ≤ k * bnd (rest.length - 1) := by
        intro k
        induction k with
        | zero => intro _; exact Nat.zero_le _
        | succ k ihk =>
          intro hk
          have h1 := ihk (by omega)
          obtain ⟨x, hx⟩ := getI_some (l := rest) (k := k) (by omega)
          cases hm : pMet m t x with
          | true =>
            rw [cntTo_yes hx hm]
            exact Nat.le_trans h1 (Nat.mul_le_mul_right _ (by omega))
          | false =>
            rw [cntTo_no hx hm, Nat.succ_mul]
            have := ih (rest.length - 1) (by omega) (rest.eraseIdx k) (List.length_eraseIdx_of_lt (by omega))
            omega
      have h2 := key rest.length (Nat.le_refl _)
      cases rest with
      | nil => exact Nat.zero_le _
      | cons y r =>
        obtain rfl : n = r.length + 2 := by simp at hl; omega
        simpa [bnd] using h2
theorem cntTo_le (m : List Pr) (t : Int) (rest : List Int) : ∀ k, k ≤ rest.length → cntTo m t rest k ≤ k * bnd (rest.length - 1)
  | 0, _ => Nat.zero_le _
  | k + 1, hk => by
    have h1 := cntTo_le m t rest k (by omega)
    obtain ⟨x, hx⟩ := getI_some (l := rest) (k := k) (by omega)
    rw [Nat.succ_mul]
    cases hm : pMet m t x with
    | true => rw [cntTo_yes hx hm]; omega
    | false =>
      rw [cntTo_no hx hm]
      have := cnt_le m (rest.length - 1) (rest.eraseIdx k) (List.length_eraseIdx_of_lt (by omega))
      omega
theorem bnd_16 : ∀ n, n ≤ 16 → bnd n ≤ 2027025 := by decide

theorem cnt_16 {m : List Pr} {l : List Int} (h : l.length ≤ 16) : cnt m l ≤ 2027025 := Nat.le_trans (cnt_le m _ l rfl) (bnd_16 _ h)
theorem cntTo_16 {m : List Pr} {t : Int} {rest : List Int} {k : Nat} (hk : k ≤ rest.length) (h : rest.length ≤ 16) : cntTo m t rest k ≤ 32432400 := by
  have h1 := cntTo_le m t rest k hk
  have h2 := Nat.mul_le_mul (show k ≤ 16 by omega) (bnd_16 (rest.length - 1) (by omega))
  omega
/-- A list without the elements at some places, from place i on. -/
def woFrom (ps : List Int) : List Int → Nat → List Int
  | [], _ => []
  | x :: l, i => if (i : Int) ∈ ps then woFrom ps l (i + 1) else x :: woFrom ps l (i + 1)
def wo (l : List Int) (ps : List Int) : List Int := woFrom ps l 0
theorem woFrom_append (ps : List Int) : ∀ (a b : List Int) (i : Nat), woFrom ps (a ++ b) i = woFrom ps a i ++ woFrom ps b (i + a.length)
  | [], b, i => by simp [woFrom]
  | x :: a, b, i => by
    have := woFrom_append ps a b (i + 1)
    simp only [List.cons_append, woFrom, List.length_cons, this]
    rw [show i + 1 + a.length = i + (a.length + 1) from by omega]
    split <;> simp
theorem wo_snoc {ps l : List Int} {k : Nat} {x : Int} (hx : l[k]? = some x) : wo (l.take (k + 1)) ps = if (k : Int) ∈ ps then wo (l.take k) ps else wo (l.take k) ps ++ [x] := by
  obtain ⟨hk, rfl⟩ := List.getElem?_eq_some_iff.1 hx
  unfold wo
  rw [List.take_succ_eq_append_getElem hk, woFrom_append, List.length_take, Nat.min_eq_left (by omega), Nat.zero_add]
  simp only [woFrom]
  split <;> simp
theorem wo_len (ps : List Int) : ∀ (l : List Int) (i : Nat), (woFrom ps l i).length ≤ l.length
  | [], _ => by simp [woFrom]
  | x :: l, i => by
    have := wo_len ps l (i + 1)
    unfold woFrom
    split <;> simp <;> omega
theorem woFrom_none {ps : List Int} : ∀ (l : List Int) (i : Nat), (∀ p ∈ ps, p < (i : Int)) → woFrom ps l i = l
  | [], _, _ => rfl
  | x :: l, i, h => by
    unfold woFrom
    rw [if_neg (fun hm => by have := h _ hm; omega), woFrom_none l (i + 1) (fun p hp => by have := h p hp; omega)]
theorem woFrom_one {p : Nat} {ps : List Int} : ∀ (l : List Int) (i : Nat), i ≤ p → (∀ q : Nat, i ≤ q → ((q : Int) ∈ ps ↔ q = p)) → woFrom ps l i = l.eraseIdx (p - i)
  | [], _, _, _ => rfl
  | x :: l, i, hi, h => by
    unfold woFrom
    by_cases e : i = p
    · subst e
      rw [if_pos ((h i (Nat.le_refl _)).2 rfl), Nat.sub_self, List.eraseIdx_cons_zero]
      have : ∀ (l : List Int) (j : Nat), i < j → woFrom ps l j = l := by
        intro l
        induction l with
        | nil => intros; rfl
        | cons y l ih =>
          intro j hj
          unfold woFrom
          rw [if_neg (fun hm => by have := (h j (by omega)).1 hm; omega), ih (j + 1) (by omega)]
      exact this l (i + 1) (by omega)
    · rw [if_neg (fun hm => e ((h i (Nat.le_refl _)).1 hm)), woFrom_one l (i + 1) (by omega) (fun q hq => h q (by omega)),
        show p - i = (p - (i + 1)) + 1 from by omega, List.eraseIdx_cons_succ]
theorem wo_zero_i {t : Int} {rest : List Int} {k : Nat} : wo (t :: rest) [0, (k : Int) + 1] = rest.eraseIdx k := by
  unfold wo woFrom
  rw [if_pos (by simp)]
  have := woFrom_one (p := k + 1) (ps := [0, (k : Int) + 1]) rest 1 (by omega) (fun q hq => by simp; omega)
  rw [this]
  congr 1
theorem wo_one {l : List Int} {k : Nat} : wo l [(k : Int)] = l.eraseIdx k := by
  unfold wo
  have := woFrom_one (p := k) (ps := [(k : Int)]) l 0 (by omega) (fun q hq => by simp; omega)
  rw [this, Nat.sub_zero]
end Go.Proofs.Ytiedecekbdaohaa
