/- Lists of ints: slices of them, slices.Index, slices.Contains, slices.Clone at []int. -/
import Derived.Test.YtiedecekbdaohaaAppend
import Derived.Test.YtiedecekbdaohaaOpen
import Derived.IntWalk
namespace Go.Proofs.Ytiedecekbdaohaa
open Go.RowKit

theorem info_i64 : (Try.prog.info? 3).map (fun i => (i.zero, i.size, i.bytes)) = some (some (.int .i64 0), 1, 8) := by kernel_rfl
/-- The place of v in l, or -1. -/
def idxI (l : List Int) (v : Int) : Int := if v ∈ l then (l.idxOf v : Int) else -1
def hasI (l : List Int) (v : Int) : Bool := decide (v ∈ l)
theorem SlAt.i64_at {w : World} {A : Option Addr} {l : List Int} (h : SlAt w A (l.map i64)) {k : Nat} (hk : k < l.length) :
    ∃ b o x, A = some ⟨b, o, none⟩ ∧ b < w.heap.size ∧ l[k]? = some x ∧ w.cell? ⟨b, o + k, none⟩ = some (.int .i64 x) := by
  obtain ⟨b, o, e, hb, hc⟩ := h (by simp; omega)
  exact ⟨b, o, l[k], e, hb, List.getElem?_eq_getElem hk, hc k _ (by simp [hk, i64])⟩
theorem SlAt.i64_all {w : World} {A : Option Addr} {l : List Int} (h : SlAt w A (l.map i64)) (hk : 0 < l.length) :
    ∃ b o, A = some ⟨b, o, none⟩ ∧ b < w.heap.size ∧ ∀ k x, l[k]? = some x → w.cell? ⟨b, o + k, none⟩ = some (.int .i64 x) := by
  obtain ⟨b, o, e, hb, hc⟩ := h (by simp; omega)
  exact ⟨b, o, e, hb, fun k x hk => hc k _ (by simp [hk, i64])⟩
theorem getI_some {α : Type} {l : List α} {k : Nat} (hk : k < l.length) : ∃ x, l[k]? = some x := ⟨l[k], List.getElem?_eq_getElem hk⟩
theorem idxI_hit {l : List Int} {v : Int} {k : Nat} (h0 : v ∉ l.take k) (hv : l[k]? = some v) : idxI l v = k := by
  have hk : k < l.length := (List.getElem?_eq_some_iff.1 hv).1
  unfold idxI
  rw [if_pos (List.mem_of_getElem? hv)]
  have h1 : l = l.take k ++ l.drop k := (List.take_append_drop k l).symm
  have h2 : l.drop k = v :: l.drop (k + 1) := by
    rw [List.drop_eq_getElem_cons hk]
    simp [List.getElem?_eq_getElem hk] at hv
    rw [hv]
  have h3 : l.idxOf v = k := by
    rw [h1, List.idxOf_append, if_neg h0, h2]
    simp; omega
  rw [h3]
theorem idxI_miss {l : List Int} {v : Int} (h0 : v ∉ l) : idxI l v = -1 := by unfold idxI; rw [if_neg h0]
theorem notin_snocI {l : List Int} {v x : Int} {k : Nat} (hx : l[k]? = some x) (h0 : v ∉ l.take k) (h : ¬ v = x) : v ∉ l.take (k + 1) := by
  obtain ⟨hk, rfl⟩ := List.getElem?_eq_some_iff.1 hx
  rw [List.take_succ_eq_append_getElem hk, List.mem_append]
  rintro (hh | hh)
  · exact h0 hh
  · exact h (by simpa using hh)
theorem hasI_idx (l : List Int) (v : Int) : hasI l v = decide (0 ≤ idxI l v) := by
  unfold hasI idxI
  by_cases h : v ∈ l <;> simp [h]
theorem idxI_lt (l : List Int) (v : Int) : idxI l v < l.length ∧ -1 ≤ idxI l v := by
  unfold idxI
  by_cases h : v ∈ l
  · rw [if_pos h]
    have := List.idxOf_lt_length_of_mem h
    omega
  · rw [if_neg h]; omega

theorem c_index (A : Option Addr) (n cap : Nat) (l : List Int) (v : Int) (w : World) (hn : n = l.length) (hl : l.length ≤ 2^47) (h : SlAt w A (l.map i64)) :
    Calls Try.prog 43 #[.slice A n cap, .int .i64 v] w (Same (.int .i64 (idxI l v)) w) := by
  subst hn
  go_enter Try.func43, Try.ntmps43
  go_wp2_with fail
  go_loop [5, 8] (fun _ i => ∃ k : Nat, k ≤ l.length ∧ i = .int .i64 k ∧ Hid (v ∉ l.take k)) (fun _ i => l.length - (intOf i).toNat)
  case atStart => exact ⟨0, Nat.zero_le _, rfl, fun h => by simp at h⟩
  case round =>
    obtain ⟨k, hk, rfl, Hv⟩ := hrel
    by_cases hlt : k < l.length
    · obtain ⟨b, o, x, rfl, hb, hx, hc⟩ := h.i64_at hlt
      have Hx := Lib.hid hx
      clear hx
      by_cases he : v = x
      · have e1 : (v == x) = true := by simp [he]
        have He := Lib.hid he
        clear he
        go_wp2_with fail
        go_ret
        exact ⟨ret_int (idxI_hit Hv.out (by rw [Hx.out, He.out])).symm, rfl⟩
      · have e1 : (v == x) = false := by simpa using he
        have He := Lib.hid he
        clear he
        go_wp2_with fail
        go_round
        case rel => exact ⟨k + 1, by omega, by go_num, notin_snocI Hx.out Hv.out He.out⟩
        case measure => simp [intOf]; omega
    · go_wp2_with fail
      go_ret
      exact ⟨ret_int (idxI_miss (by have := Hv.out; rwa [List.take_of_length_le (by omega)] at this)).symm, rfl⟩

theorem c_contains (A : Option Addr) (n cap : Nat) (l : List Int) (v : Int) (w : World) (hn : n = l.length) (hl : l.length ≤ 2^47) (h : SlAt w A (l.map i64)) :
    Calls Try.prog 37 #[.slice A n cap, .int .i64 v] w (Same (.bool (hasI l v)) w) := by
  subst hn
  go_enter Try.func37, Try.ntmps37
  go_wp2_with (go_at_call 43; refine (c_index _ _ _ l v _ rfl hl h).mono ?_; rintro e w' ⟨rfl, rfl⟩)
  go_ret
  exact ⟨ret_bool (hasI_idx l v).symm, rfl⟩

theorem i64_one (l : List Int) : ∀ u ∈ l.map i64, u.oneCell' = true := by
  intro u hu
  obtain ⟨x, _, rfl⟩ := List.mem_map.1 hu
  rfl

set_option maxHeartbeats 400000 in
theorem c_cloneI (A : Option Addr) (n cap : Nat) (l : List Int) (w : World) (hn : n = l.length) (hl : l.length * 8 ≤ 140737488351232) (h : SlAt w A (l.map i64)) :
    Calls Try.prog 42 #[.slice A n cap] w fun e w' => ∃ v, e = .returned v ∧ w'.ownsRow w.heap.size 3 1 v l.length (l.map i64) ∧ Below w.heap.size w w' := by
  subst hn
  obtain ⟨i0, hi, hz0, hz1, hz2⟩ := info_parts info_i64
  have hnil := fun W a n c n' c' => Lib.run_eql_slice_nil (P := Try.prog) W 22 3 a n c n' c' Try.underlying22
  cases A with
  | none =>
    have h0 : l = [] := by
      rcases l with _ | ⟨x, l⟩
      · rfl
      · obtain ⟨b, o, hA, _⟩ := h (by simp)
        cases hA
    subst h0
    clear h
    go_enter Try.func42, Try.ntmps42
    go_wp2_with fail
    go_ret
    exact ⟨_, rfl, own_nil _ _, Below.refl _ _⟩
  | some ad =>
    go_enter Try.func42, Try.ntmps42
    go_wp2_with (at_builtin; go_must (refine wpList_append_sl rfl (.tmp 5) (.tmp 6) 22 rfl w.heap.size 3 i0 (.int .i64 0) 8 Try.underlying22 hi hz0 hz1 hz2 rfl _ 0 [] rfl (own_empty (w := w) _ (Nat.le_refl _)) (some ad) l.length cap (l.map i64) rfl (by simp) (h.alloc _) (i64_one l) (by unfold maxLen; omega) (by omega) (by simp) ?_))
    intro v1 w1 hown1 hg1 _
    have hbw1 : Below w.heap.size w w1 := ((Below.refl _ w).alloc (Nat.le_refl _) _).grown hg1 (by simp) (own_base (own_empty (w := w) (base := w.heap.size) 3 (Nat.le_refl _)))
    clear hg1
    go_wp2_with fail
    go_ret
    exact ⟨v1, rfl, by simpa using hown1, hbw1⟩

/-- A slice value that reads as l, from base on. -/
theorem own_slI {w : World} {base : Nat} {e : TypeId} {v : Value} {n : Nat} {xs : List Value} (h : w.ownsRow base e 1 v n xs) : ∃ A c, v = .slice A n c ∧ n ≤ c ∧ c ≤ 9223372036854775807 ∧ SlAt w A xs := by
  obtain ⟨h1, h2⟩ := h
  rcases h2 with ⟨rfl, rfl⟩ | ⟨g, cap, cur, rfl, _, hh, hnc, hcm, hs, hx⟩
  · exact ⟨none, 0, rfl, Nat.le_refl _, by omega, fun hl => by omega⟩
  · refine ⟨_, cap, rfl, hnc, by unfold maxLen at hcm; omega, fun _ => ⟨g, 0, rfl, (Array.getElem?_eq_some_iff.1 hh).1, fun i v hv => ?_⟩⟩
    rw [Nat.zero_add, cell_of_row w g i cur e (0, 0) hh]
    rw [← hx, List.getElem?_take] at hv
    split at hv
    · simpa using hv
    · cases hv
end Go.Proofs.Ytiedecekbdaohaa
