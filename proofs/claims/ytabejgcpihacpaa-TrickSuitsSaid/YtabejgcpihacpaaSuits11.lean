/- The statement TrickSuits of layer 11: the plain facts on a renaming of suits. -/
import Derived.Test.YtabejgcpihacpaaWinners11
namespace Go.Proofs.Ytabejgcpihacpaa
open Go.RowKit

/-- The new name of a suit. -/
def nm (b s : Nat) : Nat := if 3 < s then s else if b / 4 % 2 = 1 ∧ s < 2 then (1 - s + b) % 4 else (s + b) % 4
/-- The new name of a card. -/
def nc (b c : Nat) : Nat := 13 * nm b (c / 13) + c % 13
theorem nm_le {b s : Nat} (h : s ≤ 3) : nm b s ≤ 3 := by
  unfold nm
  rw [if_neg (by omega)]
  split <;> omega
theorem nm_inj {b s u : Nat} (hs : s ≤ 3) (hu : u ≤ 3) (h : nm b s = nm b u) : s = u := by
  have e : ∀ x, x ≤ 3 → nm b x = if b / 4 % 2 = 1 ∧ x < 2 then (1 - x + b) % 4 else (x + b) % 4 := fun x hx => by unfold nm; rw [if_neg (by omega)]
  rw [e s hs, e u hu] at h
  split at h <;> split at h <;> omega
theorem nm_iff {b s u : Nat} (hs : s ≤ 4) (hu : u ≤ 3) : nm b u = nm b s ↔ u = s := by
  constructor
  · intro h
    rcases Nat.lt_or_ge 3 s with h3 | h3
    · have := nm_le (b := b) hu
      have e : nm b s = s := by unfold nm; rw [if_pos h3]
      omega
    · exact nm_inj hu h3 h
  · intro h; rw [h]
theorem nc_lt {b c : Nat} (h : c < 52) : nc b c < 52 := by
  have := nm_le (b := b) (s := c / 13) (by omega)
  unfold nc
  omega
theorem nc_div {b c : Nat} : nc b c / 13 = nm b (c / 13) := by unfold nc; omega
theorem nc_mod {b c : Nat} : nc b c % 13 = c % 13 := by unfold nc; omega
theorem nc_inj {b c d : Nat} (hc : c < 52) (hd : d < 52) (h : nc b c = nc b d) : c = d := by
  have h1 : nm b (c / 13) = nm b (d / 13) := by rw [← nc_div, ← nc_div, h]
  have h2 : c % 13 = d % 13 := by rw [← nc_mod (b := b), ← nc_mod (b := b) (c := d), h]
  have h3 := nm_inj (by omega) (by omega) h1
  omega
theorem nm_onto (b : Nat) {u : Nat} (hu : u ≤ 3) : ∃ s, s ≤ 3 ∧ nm b s = u := by
  have key : ∀ q, q < 4 → ∀ e, e < 2 → ∀ u, u < 4 → ∃ s, s < 4 ∧ (if e = 1 ∧ s < 2 then (1 - s + q) % 4 else (s + q) % 4) = u := by decide
  obtain ⟨s, hs, he⟩ := key (b % 4) (by omega) (b / 4 % 2) (by omega) u (by omega)
  refine ⟨s, by omega, ?_⟩
  unfold nm
  rw [if_neg (by omega)]
  split at he
  · rename_i hh; rw [if_pos hh]; omega
  · rename_i hh; rw [if_neg hh]; omega
theorem nc_onto (b : Nat) {j : Nat} (hj : j < 52) : ∃ c, c < 52 ∧ nc b c = j := by
  obtain ⟨s, hs, he⟩ := nm_onto b (u := j / 13) (by omega)
  refine ⟨13 * s + j % 13, by omega, ?_⟩
  unfold nc
  rw [show (13 * s + j % 13) / 13 = s from by omega, he]
  omega
theorem nc_stren {b t d c : Nat} (ht : t ≤ 4) (hd : d ≤ 3) (hc : c < 52) : stren (nm b t) (nm b d) (nc b c) = stren t d c := by
  have h1 : ∀ s, s ≤ 4 → (nm b (c / 13) = nm b s ↔ c / 13 = s) := fun s hs => nm_iff hs (by omega)
  rw [stren_52 (nc_lt hc), stren_52 hc, nc_div, nc_mod]
  simp only [h1 t ht, h1 d (by omega)]
theorem bestTo_map (f : Nat → Int) (g : Nat → Nat) (l : List Nat) : ∀ k, k ≤ l.length → bestTo f (l.map g) k = bestTo (fun c => f (g c)) l k
  | 0, _ => rfl
  | k + 1, hk => by
    have ih := bestTo_map f g l k (by omega)
    have hb := bestTo_le (fun c => f (g c)) l k
    unfold bestTo
    rw [ih, List.getElem?_map, List.getElem?_map, List.getElem?_eq_getElem (i := k) (by omega), List.getElem?_eq_getElem (i := bestTo (fun c => f (g c)) l k) (by omega)]
    rfl
theorem nc_distinct {b : Nat} {r : List Nat} (h : Distinct r) : Distinct (r.map (nc b)) := by
  refine ⟨fun x hx => ?_, ?_⟩
  · obtain ⟨c, hc, rfl⟩ := List.mem_map.1 hx
    exact nc_lt (h.1 c hc)
  · rw [List.Nodup, List.pairwise_map]
    refine List.Pairwise.imp_of_mem ?_ h.2
    intro a c ha hc hne e
    exact hne (nc_inj (h.1 a ha) (h.1 c hc) e)
theorem nc_win {b t : Nat} {r : List Nat} (ht : t ≤ 4) (h : Distinct r) (h0 : 0 < r.length) : tWin (nm b t) (r.map (nc b)) = tWin t r := by
  obtain ⟨z, hz⟩ := get_some h0
  have hz52 := h.1 z (List.mem_of_getElem? hz)
  have hs : cSuit z = z / 13 := by unfold cSuit; rw [if_pos hz52]
  have hs' : cSuit (nc b z) = nm b (z / 13) := by unfold cSuit; rw [if_pos (nc_lt hz52), nc_div]
  unfold tWin bestOf
  rw [List.getElem?_map, hz, List.length_map, bestTo_map _ _ _ _ (Nat.le_refl _)]
  refine bestTo_congr (fun c hc => ?_) _ (Nat.le_refl _)
  show ((stren (nm b t) (cSuit (nc b z)) (nc b c) : Nat) : Int) = ((stren t (cSuit z) c : Nat) : Int)
  rw [hs, hs', nc_stren ht (by omega) (h.1 c hc)]

/-- The renamed mask. -/
def renTo (b m : Nat) : Nat → Nat
  | 0 => 0
  | k + 1 => if m.testBit k then set1 (renTo b m k) (nc b k) else renTo b m k
def ren (b m : Nat) : Nat := renTo b m 52
theorem renTo_lt (b m : Nat) : ∀ k, k ≤ 52 → renTo b m k < 2 ^ 52
  | 0, _ => by unfold renTo; omega
  | k + 1, hk => by
    have ih := renTo_lt b m k (by omega)
    unfold renTo
    split
    · exact set1_lt ih (nc_lt (by omega)) (by omega)
    · exact ih
theorem renTo_bit {b m c : Nat} (hc : c < 52) : ∀ k, k ≤ 52 → (renTo b m k).testBit (nc b c) = (m.testBit c && decide (c < k))
  | 0, _ => by unfold renTo; simp
  | k + 1, hk => by
    have ih := renTo_bit (b := b) (m := m) hc k (by omega)
    have hk64 : nc b k < 64 := by have := nc_lt (b := b) (c := k) (by omega); omega
    unfold renTo
    by_cases e : k = c
    · subst e
      have h1 : decide (k < k + 1) = true := decide_eq_true (by omega)
      have h2 : decide (k < k) = false := decide_eq_false (by omega)
      rw [h2, Bool.and_false] at ih
      rw [h1, Bool.and_true]
      cases hb : m.testBit k with
      | true => rw [if_pos rfl, set1_testBit hk64, ih]; simp
      | false => rw [if_neg Bool.noConfusion, ih]
    · have h1 : decide (c < k + 1) = decide (c < k) := decide_eq_decide.2 (by omega)
      rw [h1]
      split
      · rw [set1_testBit hk64, ih]
        have : decide (nc b k = nc b c) = false := decide_eq_false (fun hh => e (nc_inj (by omega) hc hh))
        rw [this, Bool.or_false]
      · exact ih
theorem ren_bit {b m c : Nat} (hc : c < 52) : (ren b m).testBit (nc b c) = m.testBit c := by
  unfold ren
  rw [renTo_bit hc 52 (by omega), decide_eq_true hc, Bool.and_true]
theorem ren_lt (b m : Nat) : ren b m < 2 ^ 52 := renTo_lt b m 52 (by omega)
theorem ren_eq {b x y : Nat} (hx : x < 2 ^ 52) (hy : y < 2 ^ 52) (h : ∀ c, c < 52 → x.testBit (nc b c) = y.testBit (nc b c)) : x = y := by
  refine Nat.eq_of_testBit_eq fun j => ?_
  rcases Nat.lt_or_ge j 52 with hj | hj
  · obtain ⟨c, hc, rfl⟩ := nc_onto b hj
    exact h c hc
  · rw [bit_high hx hj, bit_high hy hj]
theorem ren_own {b m : Nat} {p : List Nat} (hm : m < 2 ^ 52) (hD : Distinct p) : clrTo (ren b m) (p.map (nc b)) (p.map (nc b)).length = ren b (clrTo m p p.length) := by
  have hDn := nc_distinct (b := b) hD
  have hl := ren_lt b m
  refine ren_eq (b := b) (Nat.lt_of_le_of_lt (clrTo_le _ _ _) hl) (ren_lt _ _) fun c hc => ?_
  rw [own_testBit (by omega) hDn.lt64, ren_bit hc, ren_bit hc, own_testBit (by omega) hD.lt64]
  congr 2
  unfold has
  refine decide_eq_decide.2 ⟨fun h => ?_, fun h => List.mem_map.2 ⟨c, h, rfl⟩⟩
  obtain ⟨d, hd, he⟩ := List.mem_map.1 h
  rw [nc_inj hc (hD.1 d hd) he.symm]
  exact hd
theorem ren_follow {b m : Nat} {p : List Nat} (hm : m < 2 ^ 52) (hD : Distinct p) (h0 : 0 < p.length) : follow (ren b m) (p.map (nc b)) = ren b (follow m p) := by
  obtain ⟨z, hz⟩ := get_some h0
  have hz52 := hD.1 z (List.mem_of_getElem? hz)
  have hz' : (p.map (nc b))[0]? = some (nc b z) := by rw [List.getElem?_map, hz]; rfl
  refine ren_eq (b := b) (follow_lt _ _) (ren_lt _ _) fun c hc => ?_
  rw [ren_bit hc, follow_testBit hz' (nc_lt hc), follow_testBit hz hc, ren_own hm hD, ren_bit hc]
  congr 1
  unfold cSuit
  rw [if_pos (nc_lt hz52), if_pos hz52, nc_div, nc_div]
  exact decide_eq_decide.2 (nm_iff (by omega) (by omega))
theorem ren_zero {b x : Nat} (hx : x < 2 ^ 52) : ren b x = 0 ↔ x = 0 := by
  constructor
  · intro h
    refine Nat.eq_of_testBit_eq fun i => ?_
    rw [Nat.zero_testBit]
    rcases Nat.lt_or_ge i 52 with hi | hi
    · have := ren_bit (b := b) (m := x) hi
      rw [h, Nat.zero_testBit] at this
      exact this.symm
    · exact bit_high hx hi
  · rintro rfl
    refine ren_eq (b := b) (ren_lt _ _) (by omega) fun c hc => ?_
    rw [ren_bit hc, Nat.zero_testBit, Nat.zero_testBit]
theorem ren_play {b m : Nat} {p : List Nat} (hm : m < 2 ^ 52) (hD : Distinct p) (h3 : p.length ≤ 3) : tPlay (ren b m) (p.map (nc b)) = ren b (tPlay m p) := by
  have e1 := tPlayE_ok hm hD h3
  have e2 := tPlayE_ok (ren_lt b m) (nc_distinct (b := b) hD) (by rw [List.length_map]; exact h3)
  have q : ∀ {h : Nat} {l : List Nat}, tPlayE h l = 0 → tPlay h l = if l.length = 0 then h else if follow h l ≠ 0 then follow h l else clrTo h l l.length := fun hE => by
    unfold tPlay; rw [hE, if_neg (fun h => h rfl)]
  rw [q e1, q e2]
  by_cases h0 : p.length = 0
  · rw [if_pos h0, if_pos (by rw [List.length_map]; exact h0)]
  · rw [if_neg h0, if_neg (by rw [List.length_map]; exact h0), ren_follow hm hD (by omega)]
    have hz := ren_zero (b := b) (follow_lt m p)
    by_cases hf : follow m p = 0
    · rw [if_neg (fun h => h (hz.2 hf)), if_neg (fun h => h hf)]
      exact ren_own (b := b) hm hD
    · rw [if_pos (fun h => hf (hz.1 h)), if_pos hf]
end Go.Proofs.Ytabejgcpihacpaa
