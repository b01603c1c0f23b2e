/- What package trick computes, in plain Lean: cards are numbers, hands are masks, tricks are lists. -/
namespace Go.Proofs.Ytabejgcpihacpaa

def cRight (c : Nat) : Bool := decide (c < 52)
def cSuit (c : Nat) : Nat := if c < 52 then c / 13 else 0
def cRank (c : Nat) : Nat := if c < 52 then c % 13 else 0
/-- The place of v in l, or -1. -/
def idx (l : List Nat) (v : Nat) : Int := if v ∈ l then (l.idxOf v : Int) else -1
def has (l : List Nat) (v : Nat) : Bool := decide (v ∈ l)
/-- The strength of a card. -/
def stren (t d c : Nat) : Nat := if cSuit c = t then 14 + cRank c else if cSuit c = d then 1 + cRank c else 0
/-- The place of the first greatest value among the first k. -/
def bestTo (f : Nat → Int) (l : List Nat) : Nat → Nat
  | 0 => 0
  | k + 1 => if f (l[bestTo f l k]?.getD 0) < f (l[k]?.getD 0) then k else bestTo f l k
def bestOf (f : Nat → Int) (l : List Nat) : Nat := bestTo f l l.length
/-- The first k cards are cards, each once. -/
def okTo (l : List Nat) (k : Nat) : Prop := ∀ j, j < k → l[j]?.getD 0 < 52 ∧ l[j]?.getD 0 ∉ l.take j
def tRight (l : List Nat) : Bool := decide (0 < l.length ∧ l.length ≤ 4 ∧ (∀ j, j < l.length → l[j]?.getD 0 < 52 ∧ l[j]?.getD 0 ∉ l.take j))
def tStrength (t d c : Nat) : Nat := if t ≤ 4 ∧ d ≤ 3 ∧ c < 52 then stren t d c else 0
def tWin (t : Nat) (l : List Nat) : Nat := bestOf (fun c => (stren t (cSuit (l[0]?.getD 0)) c : Int)) l
def tWinE (t : Nat) (l : List Nat) : Nat := if 4 < t then 2 else if tRight l = false then 110 else 0
def tWinner (t : Nat) (l : List Nat) : Nat := if 4 < t then 0 else if tRight l = false then 0 else tWin t l

theorem cSuit_le (c : Nat) : cSuit c ≤ 3 := by unfold cSuit; split <;> omega
theorem cRank_le (c : Nat) : cRank c ≤ 12 := by unfold cRank; split <;> omega
theorem bestTo_lt (f : Nat → Int) (l : List Nat) : ∀ k, 0 < k → bestTo f l k < k
  | 0, h => absurd h (by omega)
  | 1, _ => by unfold bestTo bestTo; split <;> omega
  | k + 2, _ => by
    have := bestTo_lt f l (k + 1) (by omega)
    unfold bestTo
    split <;> omega
theorem bestTo_le (f : Nat → Int) (l : List Nat) (k : Nat) : bestTo f l k ≤ k := by
  rcases Nat.eq_zero_or_pos k with h | h
  · subst h; exact Nat.le_refl _
  · exact Nat.le_of_lt (bestTo_lt f l k h)
theorem tRight_len {l : List Nat} (h : tRight l = true) : 0 < l.length ∧ l.length ≤ 4 := by
  unfold tRight at h
  have := of_decide_eq_true h
  exact ⟨this.1, this.2.1⟩

theorem idx_hit {l : List Nat} {v k : Nat} (h0 : v ∉ l.take k) (hv : l[k]? = some v) : idx l v = k := by
  have hk : k < l.length := (List.getElem?_eq_some_iff.1 hv).1
  unfold idx
  rw [if_pos (List.mem_of_getElem? hv)]
  have h1 : l = l.take k ++ l.drop k := (List.take_append_drop k l).symm
  have h2 : l.drop k = v :: l.drop (k + 1) := by
    rw [List.drop_eq_getElem_cons hk]
    simp [List.getElem?_eq_getElem hk] at hv
    rw [hv]
  have h3 : l.idxOf v = k := by
    rw [h1, List.idxOf_append, if_neg h0, h2]
    simp; omega
  rw [h3]
theorem idx_miss {l : List Nat} {v : Nat} (h0 : v ∉ l) : idx l v = -1 := by unfold idx; rw [if_neg h0]
theorem notin_snoc {l : List Nat} {v k x : Nat} (hx : l[k]? = some x) (h0 : v ∉ l.take k) (h : ¬ v = x) : v ∉ l.take (k + 1) := by
  obtain ⟨hk, rfl⟩ := List.getElem?_eq_some_iff.1 hx
  rw [List.take_succ_eq_append_getElem hk, List.mem_append]
  rintro (hh | hh)
  · exact h0 hh
  · exact h (by simpa using hh)
theorem has_idx (l : List Nat) (v : Nat) : has l v = decide (0 ≤ idx l v) := by
  unfold has idx
  by_cases h : v ∈ l
  · simp [h]
  · simp [h]

def tSeatE (t ld : Nat) (l : List Nat) : Nat := if 3 < ld then 2 else tWinE t l
def tSeat (t ld : Nat) (l : List Nat) : Nat := if tSeatE t ld l = 0 then (ld + tWin t l) % 4 else 0
def tBeatsE (t : Nat) (l : List Nat) (c : Nat) : Nat := if tWinE t l ≠ 0 then tWinE t l else if l.length = 4 then 111 else if cRight c = false ∨ has l c = true then 110 else 0
def tBeats (t : Nat) (l : List Nat) (c : Nat) : Bool :=
  if tBeatsE t l c = 0 then decide (stren t (cSuit (l[0]?.getD 0)) (l[tWin t l]?.getD 0) < stren t (cSuit (l[0]?.getD 0)) c) else false
theorem tWinE_zero {t : Nat} {l : List Nat} (h : tWinE t l = 0) : t ≤ 4 ∧ tRight l = true := by
  unfold tWinE at h
  by_cases h4 : 4 < t
  · rw [if_pos h4] at h; omega
  · rw [if_neg h4] at h
    cases hR : tRight l with
    | true => exact ⟨by omega, rfl⟩
    | false => rw [if_pos hR] at h; omega
theorem tWinE_le (t : Nat) (l : List Nat) : tWinE t l ≤ 110 := by unfold tWinE; split <;> (try split) <;> omega
theorem tWinner_zero {t : Nat} {l : List Nat} (h : tWinE t l ≠ 0) : tWinner t l = 0 := by
  unfold tWinE at h
  unfold tWinner
  split
  · rfl
  · split
    · rfl
    · rename_i h1 h2; rw [if_neg h1, if_neg h2] at h; omega
theorem tWinner_ok {t : Nat} {l : List Nat} (h : tWinE t l = 0) : tWinner t l = tWin t l := by
  obtain ⟨h1, h2⟩ := tWinE_zero h
  unfold tWinner
  rw [if_neg (by omega), if_neg (by rw [h2]; exact Bool.noConfusion)]

theorem tStrength_lt (t d c : Nat) : tStrength t d c ≤ 26 := by
  have := cRank_le c
  unfold tStrength stren
  split <;> (try split) <;> (try split) <;> omega

/-- Among the first k cards is one with a greater value than card i. -/
def beatTo (f : Nat → Int) (l : List Nat) (i : Nat) : Nat → Bool
  | 0 => false
  | k + 1 => if f (l[i]?.getD 0) < f (l[k]?.getD 0) then true else beatTo f l i k
theorem beatTo_iff (f : Nat → Int) (l : List Nat) (i : Nat) : ∀ k, beatTo f l i k = true ↔ ∃ j, j < k ∧ f (l[i]?.getD 0) < f (l[j]?.getD 0)
  | 0 => by simp [beatTo]
  | k + 1 => by
    unfold beatTo
    split
    · rename_i h
      simp only [true_iff]
      exact ⟨k, by omega, h⟩
    · rename_i h
      rw [beatTo_iff f l i k]
      constructor
      · rintro ⟨j, hj, hf⟩; exact ⟨j, by omega, hf⟩
      · rintro ⟨j, hj, hf⟩
        by_cases e : j = k
        · subst e; exact absurd hf h
        · exact ⟨j, by omega, hf⟩
/-- What the first greatest value is. -/
theorem bestTo_spec (f : Nat → Int) (l : List Nat) : ∀ k, (∀ j, j < k → f (l[j]?.getD 0) ≤ f (l[bestTo f l k]?.getD 0)) ∧ (∀ j, j < bestTo f l k → f (l[j]?.getD 0) < f (l[bestTo f l k]?.getD 0))
  | 0 => ⟨fun j hj => absurd hj (by omega), fun j hj => absurd hj (by unfold bestTo; omega)⟩
  | k + 1 => by
    obtain ⟨h1, h2⟩ := bestTo_spec f l k
    unfold bestTo
    split
    · rename_i h
      refine ⟨fun j hj => ?_, fun j hj => ?_⟩
      · by_cases e : j = k
        · subst e; exact Int.le_refl _
        · have := h1 j (by omega); omega
      · have := h1 j hj; omega
    · rename_i h
      refine ⟨fun j hj => ?_, h2⟩
      by_cases e : j = k
      · subst e; omega
      · exact h1 j (by omega)
theorem best_first {f : Nat → Int} {l : List Nat} {i : Nat} (hi : i < l.length) (hn : beatTo f l i l.length = false) (hb : ∀ j, j < i → beatTo f l j l.length = true) : bestOf f l = i := by
  obtain ⟨h1, h2⟩ := bestTo_spec f l l.length
  have hlt := bestTo_lt f l l.length (by omega)
  unfold bestOf
  rcases Nat.lt_trichotomy (bestTo f l l.length) i with h | h | h
  · obtain ⟨j, hj, hf⟩ := (beatTo_iff f l _ _).1 (hb _ h)
    have := h1 j hj
    omega
  · exact h
  · have h3 := h2 i h
    have : beatTo f l i l.length = true := (beatTo_iff f l _ _).2 ⟨_, hlt, h3⟩
    rw [hn] at this; cases this
theorem best_some {f : Nat → Int} {l : List Nat} (h0 : 0 < l.length) : ¬ ∀ j, j < l.length → beatTo f l j l.length = true := by
  intro hb
  obtain ⟨h1, _⟩ := bestTo_spec f l l.length
  obtain ⟨j, hj, hf⟩ := (beatTo_iff f l _ _).1 (hb _ (bestTo_lt f l l.length h0))
  have := h1 j hj
  omega
theorem bestTo_congr {f g : Nat → Int} {l : List Nat} (h : ∀ c ∈ l, f c = g c) : ∀ k, k ≤ l.length → bestTo f l k = bestTo g l k
  | 0, _ => rfl
  | k + 1, hk => by
    have ih := bestTo_congr h k (by omega)
    have hx : f (l[k]?.getD 0) = g (l[k]?.getD 0) := by
      rw [List.getElem?_eq_getElem (by omega)]; exact h _ (List.getElem_mem _)
    have hy : bestTo g l k < l.length := by have := bestTo_le g l k; omega
    have hz : f (l[bestTo g l k]?.getD 0) = g (l[bestTo g l k]?.getD 0) := by
      rw [List.getElem?_eq_getElem hy]; exact h _ (List.getElem_mem _)
    unfold bestTo
    rw [ih, hx, hz]
theorem bestOf_congr {f g : Nat → Int} {l : List Nat} (h : ∀ c ∈ l, f c = g c) : bestOf f l = bestOf g l := bestTo_congr h _ (Nat.le_refl _)
theorem tRight_mem {l : List Nat} (h : tRight l = true) {c : Nat} (hc : c ∈ l) : c < 52 := by
  unfold tRight at h
  obtain ⟨k, hk, rfl⟩ := List.getElem_of_mem hc
  have := ((of_decide_eq_true h).2.2 k hk).1
  rwa [List.getElem?_eq_getElem hk] at this
theorem tWin_ref {t z : Nat} {l : List Nat} (ht : t ≤ 4) (hR : tRight l = true) (hz : l[0]? = some z) : tWin t l = bestOf (fun c => (tStrength t (z / 13) c : Int)) l := by
  unfold tWin
  rw [hz]
  have hz52 := tRight_mem hR (List.mem_of_getElem? hz)
  refine bestOf_congr fun c hc => ?_
  have hc52 := tRight_mem hR hc
  show ((stren t (cSuit z) c : Nat) : Int) = _
  unfold tStrength
  rw [if_pos (by omega)]
  congr 2
  unfold cSuit
  rw [if_pos hz52]

theorem tRight_iff (l : List Nat) : tRight l = true ↔ 0 < l.length ∧ l.length ≤ 4 ∧ ∀ j, j < l.length → l[j]?.getD 0 < 52 ∧ l[j]?.getD 0 ∉ l.take j := by
  unfold tRight; exact decide_eq_true_iff
theorem tRight_snoc {l : List Nat} {c : Nat} (hR : tRight l = true) (h4 : l.length ≠ 4) : tRight (l ++ [c]) = true ↔ cRight c = true ∧ has l c = false := by
  obtain ⟨h0, hle, hj⟩ := (tRight_iff l).1 hR
  rw [tRight_iff]
  unfold cRight has
  rw [decide_eq_true_iff, decide_eq_false_iff_not]
  constructor
  · rintro ⟨_, _, hh⟩
    have := hh l.length (by simp)
    rw [List.getElem?_append_right (Nat.le_refl _), Nat.sub_self, List.take_left] at this
    exact this
  · rintro ⟨h1, h2⟩
    refine ⟨by simp, by simp; omega, fun j hlt => ?_⟩
    rw [List.length_append] at hlt
    simp only [List.length_cons, List.length_nil] at hlt
    by_cases e : j = l.length
    · subst e
      rw [List.getElem?_append_right (Nat.le_refl _), Nat.sub_self, List.take_left]
      exact ⟨h1, h2⟩
    · have hj' : j < l.length := by omega
      rw [List.getElem?_append_left hj', List.take_append_of_le_length (by omega)]
      exact hj j hj'
theorem bestTo_append (f : Nat → Int) (l m : List Nat) : ∀ k, k ≤ l.length → bestTo f (l ++ m) k = bestTo f l k
  | 0, _ => rfl
  | k + 1, hk => by
    have ih := bestTo_append f l m k (by omega)
    have hb := bestTo_le f l k
    unfold bestTo
    rw [ih, List.getElem?_append_left (by omega), List.getElem?_append_left (by omega)]
theorem tWin_snoc {t c : Nat} {l : List Nat} (h0 : 0 < l.length) : tWin t (l ++ [c]) =
    if stren t (cSuit (l[0]?.getD 0)) (l[tWin t l]?.getD 0) < stren t (cSuit (l[0]?.getD 0)) c then l.length else tWin t l := by
  unfold tWin bestOf
  rw [List.getElem?_append_left h0, List.length_append, List.length_singleton]
  have hb := bestTo_lt (fun c => (stren t (cSuit (l[0]?.getD 0)) c : Int)) l l.length h0
  show (if _ < _ then _ else _) = _
  rw [bestTo_append _ l [c] l.length (Nat.le_refl _), List.getElem?_append_left hb, List.getElem?_append_right (Nat.le_refl _), Nat.sub_self]
  have e : ∀ a b : Nat, ((a : Int) < (b : Int)) ↔ a < b := fun a b => by omega
  simp only [List.getElem?_cons_zero, Option.getD_some, e]
end Go.Proofs.Ytabejgcpihacpaa
