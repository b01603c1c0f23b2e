/- The key of a part of the teams, in plain Lean; what the counter's map holds. -/
import Derived.Test.YtiedecekbdaohaaWithout
namespace Go.Proofs.Ytiedecekbdaohaa

def keyTo (t l : List Int) : Nat → Nat
  | 0 => 0
  | k + 1 => keyTo t l k ||| 2 ^ (idxI t (l[k]?.getD 0)).toNat
def keyOf36 (t l : List Int) : Nat := keyTo t l l.length
theorem keyTo_lt {t l : List Int} (ht : t.length ≤ 16) : ∀ k, keyTo t l k < 2 ^ 16
  | 0 => by unfold keyTo; omega
  | k + 1 => by
    have h1 := keyTo_lt (l := l) ht k
    have h2 := idxI_lt t (l[k]?.getD 0)
    unfold keyTo
    refine Nat.or_lt_two_pow h1 (Nat.pow_lt_pow_right (by omega) ?_)
    rcases Int.lt_or_le (idxI t (l[k]?.getD 0)) 0 with h3 | h3 <;> omega
theorem idxI_get {t : List Int} (hn : t.Nodup) {j : Nat} {x : Int} (hx : t[j]? = some x) : idxI t x = j := by
  obtain ⟨hj, rfl⟩ := List.getElem?_eq_some_iff.1 hx
  refine idxI_hit (fun hm => ?_) hx
  obtain ⟨i, hi, he⟩ := List.mem_take_iff_getElem.1 hm
  exact (List.pairwise_iff_getElem.1 hn) i j (by omega) hj (by omega) he
theorem keyTo_bit {t l : List Int} (hn : t.Nodup) (hs : ∀ x ∈ l, x ∈ t) {j : Nat} {y : Int} (hy : t[j]? = some y) : ∀ k, k ≤ l.length → (keyTo t l k).testBit j = hasI (l.take k) y
  | 0, _ => by unfold keyTo hasI; simp
  | k + 1, hk => by
    have ih := keyTo_bit hn hs hy k (by omega)
    obtain ⟨x, hx⟩ := getI_some (l := l) (k := k) (by omega)
    have hxt := hs x (List.mem_of_getElem? hx)
    obtain ⟨i, hi, he⟩ := List.getElem_of_mem hxt
    have hxi : t[i]? = some x := by rw [List.getElem?_eq_getElem hi, he]
    have hkx := (List.getElem?_eq_some_iff.1 hx)
    obtain ⟨hkl, rfl⟩ := hkx
    unfold keyTo
    rw [Nat.testBit_or, ih, hx, Option.getD_some, idxI_get hn hxi, Int.toNat_natCast, Nat.testBit_two_pow, List.take_succ_eq_append_getElem hkl]
    unfold hasI
    rw [← Bool.decide_or]
    refine decide_eq_decide.2 ?_
    simp only [List.mem_append, List.mem_singleton]
    have : i = j ↔ y = l[k] := by
      constructor
      · rintro rfl; rw [hxi] at hy; exact (Option.some.inj hy).symm
      · rintro rfl
        have h1 := idxI_get hn hxi
        have h2 := idxI_get hn hy
        omega
    rw [this]
theorem sub_eq : ∀ {t a b : List Int}, t.Nodup → a.Sublist t → b.Sublist t → (∀ x ∈ t, x ∈ a ↔ x ∈ b) → a = b
  | [], a, b, _, ha, hb, _ => by rw [List.sublist_nil.1 ha, List.sublist_nil.1 hb]
  | y :: t, a, b, hn, ha, hb, h => by
    rw [List.nodup_cons] at hn
    have hin : ∀ {c : List Int}, c.Sublist (y :: t) → (y ∉ c ∧ c.Sublist t) ∨ ∃ c', c = y :: c' ∧ c'.Sublist t := by
      intro c hc
      cases hc with
      | cons _ h => exact .inl ⟨fun hm => hn.1 (h.subset hm), h⟩
      | cons_cons _ h => exact .inr ⟨_, rfl, h⟩
    have hy := h y (List.mem_cons_self ..)
    rcases hin ha with ⟨h1, h2⟩ | ⟨a', rfl, h2⟩
    · rcases hin hb with ⟨h3, h4⟩ | ⟨b', rfl, h4⟩
      · exact sub_eq hn.2 h2 h4 (fun x hx => h x (List.mem_cons_of_mem _ hx))
      · exact absurd (hy.2 (List.mem_cons_self ..)) h1
    · rcases hin hb with ⟨h3, h4⟩ | ⟨b', rfl, h4⟩
      · exact absurd (hy.1 (List.mem_cons_self ..)) h3
      · refine congrArg (y :: ·) (sub_eq hn.2 h2 h4 (fun x hx => ?_))
        have := h x (List.mem_cons_of_mem _ hx)
        have hne : x ≠ y := fun e => hn.1 (e ▸ hx)
        simpa [hne] using this
theorem key_inj {t a b : List Int} (hn : t.Nodup) (ha : a.Sublist t) (hb : b.Sublist t) (h : keyOf36 t a = keyOf36 t b) : a = b := by
  refine sub_eq hn ha hb (fun x hx => ?_)
  obtain ⟨j, hj, he⟩ := List.getElem_of_mem hx
  have hxj : t[j]? = some x := by rw [List.getElem?_eq_getElem hj, he]
  have h1 := keyTo_bit hn (fun y hy => ha.subset hy) hxj a.length (Nat.le_refl _)
  have h2 := keyTo_bit hn (fun y hy => hb.subset hy) hxj b.length (Nat.le_refl _)
  rw [List.take_length] at h1 h2
  unfold keyOf36 at h
  rw [h, h2] at h1
  unfold hasI at h1
  exact (decide_eq_decide.1 h1).symm
/-- What the map holds are numbers of draws of parts of the teams. -/
def Memo (t : List Int) (m : List Pr) (g : Int → Option Int) : Prop := ∀ k v, inI k → g k = some v → ∃ l, l.Sublist t ∧ k = (keyOf36 t l : Int) ∧ v = (cnt m l : Int)
theorem Memo.none (t : List Int) (m : List Pr) : Memo t m (fun _ => none) := fun _ _ _ h => by cases h
theorem Memo.upd {t : List Int} {m : List Pr} {g : Int → Option Int} (h : Memo t m g) {l : List Int} (hl : l.Sublist t) : Memo t m (upd g (keyOf36 t l) (cnt m l)) := by
  intro k v hk hv
  unfold Go.Proofs.Ytiedecekbdaohaa.upd at hv
  by_cases e : k = (keyOf36 t l : Int)
  · rw [if_pos e] at hv
    cases hv
    exact ⟨l, hl, e, rfl⟩
  · rw [if_neg e] at hv
    exact h k v hk hv
theorem Memo.hit {t : List Int} {m : List Pr} {g : Int → Option Int} (h : Memo t m g) (hn : t.Nodup) {l : List Int} (hl : l.Sublist t) {v : Int} (hi : inI (keyOf36 t l : Int)) (hv : g (keyOf36 t l : Int) = some v) : v = cnt m l := by
  obtain ⟨l', h1, h2, h3⟩ := h _ _ hi hv
  have := key_inj hn hl h1 (by omega)
  rw [this]; exact h3
/-- How many stores a count of n teams makes at most. -/
def stT : Nat → Nat
  | 0 => 0
  | 1 => 1
  | n + 2 => (n + 1) * stT n + 1
theorem stT_step : ∀ r, stT (r + 1) = r * stT (r - 1) + 1
  | 0 => rfl
  | _ + 1 => rfl
theorem stT_16 : ∀ n, n ≤ 16 → stT n ≤ 10000000 := by decide
end Go.Proofs.Ytiedecekbdaohaa
