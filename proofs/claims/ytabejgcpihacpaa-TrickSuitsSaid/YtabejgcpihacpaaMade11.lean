/- Contracts: slices.Clone at uint8; Made of the statements of layer 11. -/
import Derived.Test.YtabejgcpihacpaaTkA
import Derived.Test.YtabejgcpihacpaaAppend
import Derived.Test.YtabejgcpihacpaaCollect8
namespace Go.Proofs.Ytabejgcpihacpaa
open Go.RowKit

set_option maxHeartbeats 400000 in
theorem c_clone8 (A : Option Addr) (n cap : Nat) (l : List Nat) (w : World) (hn : n = l.length) (hl : l.length ≤ 140737488351232) (h : SlAt w A (l.map u8)) :
    Calls Try.prog 22 #[.slice A n cap] w fun e w' => ∃ v, e = .returned v ∧ w'.ownsRow w.heap.size 5 1 v l.length (l.map u8) ∧ Below w.heap.size w w' := by
  subst hn
  obtain ⟨i0, hi, hz0, hz1, hz2⟩ := info_parts info_u8
  have hnil := fun W a n c n' c' => Lib.run_eql_slice_nil (P := Try.prog) W 23 5 a n c n' c' Try.underlying23
  cases A with
  | none =>
    have h0 : l = [] := by
      rcases l with _ | ⟨x, l⟩
      · rfl
      · obtain ⟨b, o, hA, _⟩ := h (by simp)
        cases hA
    subst h0
    clear h
    go_enter Try.func22, Try.ntmps22
    go_wp2_with fail
    go_ret
    exact ⟨_, rfl, own_nil _ _, Below.refl _ _⟩
  | some ad =>
    go_enter Try.func22, Try.ntmps22
    go_wp2_with (at_builtin; go_must (refine wpList_append_sl rfl (.tmp 5) (.tmp 6) 23 rfl w.heap.size 5 i0 (.int .u8 0) 1 Try.underlying23 hi hz0 hz1 hz2 rfl _ 0 [] rfl (own_empty (w := w) _ (Nat.le_refl _)) (some ad) l.length cap (l.map u8) rfl (by simp) (h.alloc _) (u8_one l) (by unfold maxLen; omega) (by omega) (by simp) ?_))
    intro v1 w1 hown1 hg1 _
    have hbw1 : Below w.heap.size w w1 := ((Below.refl _ w).alloc (Nat.le_refl _) _).grown hg1 (by simp) (own_base (own_empty (w := w) (base := w.heap.size) 5 (Nat.le_refl _)))
    clear hg1
    go_wp2_with fail
    go_ret
    exact ⟨v1, rfl, by simpa using hown1, hbw1⟩

/-! ### Made -/

theorem erase_len {l : List Nat} {x : Nat} (h : x ∈ l) : (l.erase x).length + 1 = l.length := by
  rw [List.length_erase_of_mem h]
  have := List.length_pos_of_mem h
  omega
theorem nodup_le : ∀ {a b : List Nat}, a.Nodup → (∀ x ∈ a, x ∈ b) → a.length ≤ b.length
  | [], _, _, _ => Nat.zero_le _
  | x :: a, b, hn, hs => by
    rw [List.nodup_cons] at hn
    have hx : x ∈ b := hs x (List.mem_cons_self ..)
    have h1 := nodup_le (a := a) (b := b.erase x) hn.2 (fun y hy => by
      have hne : y ≠ x := fun e => hn.1 (e ▸ hy)
      exact (List.mem_erase_of_ne hne).2 (hs y (List.mem_cons_of_mem _ hy)))
    have h2 := erase_len hx
    simp only [List.length_cons]
    omega
/-- Among fewer than 52 cards one of the next is free. -/
theorem free_card {out : List Nat} (h : out.length < 52) (c : Nat) : ∃ d, d ≤ out.length ∧ (c + d) % 52 ∉ out := by
  refine Classical.byContradiction fun hno => ?_
  have hall : ∀ d, d ≤ out.length → (c + d) % 52 ∈ out := fun d hd => Classical.byContradiction fun hn => hno ⟨d, hd, hn⟩
  have h1 := nodup_le (a := (List.range (out.length + 1)).map fun d => (c + d) % 52) (b := out) ?_ ?_
  · simp at h1; omega
  · rw [List.Nodup, List.pairwise_map]
    refine List.Pairwise.imp_of_mem (R := fun a b => a ≠ b) ?_ List.nodup_range
    intro a b ha hb hab
    rw [List.mem_range] at ha hb
    omega
  · intro x hx
    obtain ⟨d, hd, rfl⟩ := List.mem_map.1 hx
    rw [List.mem_range] at hd
    exact hall d (by omega)

def Distinct (r : List Nat) : Prop := (∀ x ∈ r, x < 52) ∧ r.Nodup
theorem Distinct.snoc {r : List Nat} {c : Nat} (h : Distinct r) (hc : c < 52) (hn : c ∉ r) : Distinct (r ++ [c]) := by
  refine ⟨fun x hx => ?_, ?_⟩
  · rcases List.mem_append.1 hx with hx | hx
    · exact h.1 x hx
    · rw [List.mem_singleton] at hx; omega
  · rw [List.nodup_append]
    refine ⟨h.2, by simp, fun a ha b hb => ?_⟩
    rw [List.mem_singleton] at hb
    subst hb
    exact fun e => hn (e ▸ ha)

set_option maxHeartbeats 1000000 in
theorem c_Made (A : Option Addr) (n cap : Nat) (l : List Nat) (most : Nat) (w : World) (hn : n = l.length) (hcap : n ≤ cap) (hl : cap ≤ 9223372036854775807) (hm : most ≤ 40) (h8 : ∀ x ∈ l, x < 256) (h : SlAt w A (l.map u8)) :
    Calls Try.prog 13 #[.slice A n cap, .int .i64 most] w fun e w' => ∃ v r, e = .returned v ∧ w'.ownsRow w.heap.size 5 1 v r.length (r.map u8) ∧ r.length = min l.length most ∧ Distinct r ∧ Below w.heap.size w w' := by
  subst hn
  obtain ⟨i0, hi, hz0, hz1, hz2⟩ := info_parts info_u8
  by_cases hlm : most < l.length
  · go_enter Try.func13, Try.ntmps13
    go_wp2_with fail
    go_loopw [5, 7, 8, 16] (fun v _ _ i wr => ∃ (k : Nat) (r : List Nat), k ≤ most ∧ i = .int .i64 k ∧ wr.ownsRow w.heap.size 5 1 v k (r.map u8) ∧ Hid (r.length = k ∧ Distinct r) ∧ Below w.heap.size w wr) (fun _ _ _ i _ => most - (intOf i).toNat)
    case atStart => exact ⟨0, [], by omega, rfl, own_nil _ _, ⟨rfl, by simp, List.nodup_nil⟩, Below.refl _ _⟩
    case round =>
      obtain ⟨k, r, hk, rfl, hown, HR, hbw⟩ := hrel
      have hwsz := hbw.size
      by_cases hlt : k < most
      · obtain ⟨b, o, x, rfl, hb, hx, hc⟩ := (h.below hbw).u8_at (k := k) (by omega)
        have hx8 := h8 x (List.mem_of_getElem? hx)
        obtain ⟨A2, c2, rfl, hcap2, hs2, hn2⟩ := own_sl hown
        have Hown := Lib.hid hown
        have Hs2 := Lib.hid hs2
        clear hx hown hs2 hn2
        go_wp2_with fail
        obtain ⟨wo, rfl⟩ : ∃ wo : World, wo = wr := ⟨_, rfl⟩
        go_loopg [8] 52 (fun gk c wq => ∃ cc : Nat, c = .int .u8 cc ∧ cc < 52 ∧ wq = wo ∧ Aside (∃ d, d ≤ gk ∧ (cc + d) % 52 ∉ r))
        case atStart =>
          obtain ⟨d, hd, hf⟩ := free_card (out := r) (by have := HR.out.1; omega) (x % 52)
          exact ⟨x % 52, int_eq (by omega), by omega, rfl, d, by have := HR.out.1; omega, hf⟩
        case round =>
          obtain ⟨cc, rfl, hcc, rfl, HA⟩ := hrel
          have HC := Lib.hid (c_slContains A2 k c2 r cc _ HR.out.1.symm (by have := HR.out.1; omega) Hs2.out)
          cases hin : has r cc with
          | true =>
            rw [hin] at HC
            have Hin := Lib.hid hin
            clear hin
            go_wp2_with (go_at_call 35; refine HC.out.mono ?_; rintro e w' ⟨rfl, rfl⟩)
            have hd0 : ∃ d, d + 1 ≤ gk ∧ (cc + (d + 1)) % 52 ∉ r := by
              obtain ⟨d, hd, hf⟩ := HA.out
              rcases d with _ | d
              · refine absurd ?_ hf
                rw [Nat.add_zero, Nat.mod_eq_of_lt hcc]
                exact of_decide_eq_true Hin.out
              · exact ⟨d, hd, hf⟩
            go_roundg (gk - 1)
            case measure => obtain ⟨d, hd, _⟩ := hd0; omega
            case rel =>
              obtain ⟨d, hd, hf⟩ := hd0
              refine ⟨(cc + 1) % 52, int_eq (by omega), by omega, rfl, d, by omega, ?_⟩
              rw [show ((cc + 1) % 52 + d) % 52 = (cc + (d + 1)) % 52 from by omega]
              exact hf
          | false =>
            rw [hin] at HC
            have Hin := Lib.hid hin
            clear hin HA
            go_wp2_with (first
              | (go_at_call 35; refine HC.out.mono ?_; rintro e w' ⟨rfl, rfl⟩)
              | (at_builtin; go_must (refine wpList_append_sl rfl (.tmp 28) (.tmp 30) 23 rfl w.heap.size 5 i0 (.int .u8 0) 1 Try.underlying23 hi hz0 hz1 hz2 rfl _ k _ rfl (Hown.out.alloc _) (some ⟨wr.heap.size, 0, none⟩) 1 1 [.int .u8 (cc : Int)] rfl rfl (sl_one _ _ _) (by simp [Value.oneCell']) (by unfold maxLen; omega) (by omega) (by simp; omega) ?_); intro v2 w2 hown2 hg2 _))
            go_roundw
            case rel =>
              refine ⟨k + 1, r ++ [cc], by omega, by go_num, ?_, ⟨by rw [List.length_append, HR.out.1]; rfl, HR.out.2.snoc hcc (of_decide_eq_false Hin.out)⟩, (hbw.alloc hbw.size _).grown hg2 (by simp; omega) (own_base Hown.out)⟩
              rw [List.map_append]
              exact hown2
            case measure => simp [intOf]; omega
      · obtain rfl : k = most := by omega
        go_wp2_with fail
        go_ret
        exact ⟨_, r, rfl, by rw [HR.out.1]; exact hown, by rw [HR.out.1]; omega, HR.out.2, hbw⟩
  · have hlm' : l.length ≤ most := by omega
    clear hlm
    go_enter Try.func13, Try.ntmps13
    go_wp2_with fail
    go_loopw [5, 7, 8, 16] (fun v _ _ i wr => ∃ (k : Nat) (r : List Nat), k ≤ l.length ∧ i = .int .i64 k ∧ wr.ownsRow w.heap.size 5 1 v k (r.map u8) ∧ Hid (r.length = k ∧ Distinct r) ∧ Below w.heap.size w wr) (fun _ _ _ i _ => l.length - (intOf i).toNat)
    case atStart => exact ⟨0, [], by omega, rfl, own_nil _ _, ⟨rfl, by simp, List.nodup_nil⟩, Below.refl _ _⟩
    case round =>
      obtain ⟨k, r, hk, rfl, hown, HR, hbw⟩ := hrel
      have hwsz := hbw.size
      by_cases hlt : k < l.length
      · obtain ⟨b, o, x, rfl, hb, hx, hc⟩ := (h.below hbw).u8_at (k := k) (by omega)
        have hx8 := h8 x (List.mem_of_getElem? hx)
        obtain ⟨A2, c2, rfl, hcap2, hs2, hn2⟩ := own_sl hown
        have Hown := Lib.hid hown
        have Hs2 := Lib.hid hs2
        clear hx hown hs2 hn2
        go_wp2_with fail
        obtain ⟨wo, rfl⟩ : ∃ wo : World, wo = wr := ⟨_, rfl⟩
        go_loopg [8] 52 (fun gk c wq => ∃ cc : Nat, c = .int .u8 cc ∧ cc < 52 ∧ wq = wo ∧ Aside (∃ d, d ≤ gk ∧ (cc + d) % 52 ∉ r))
        case atStart =>
          obtain ⟨d, hd, hf⟩ := free_card (out := r) (by have := HR.out.1; omega) (x % 52)
          exact ⟨x % 52, int_eq (by omega), by omega, rfl, d, by have := HR.out.1; omega, hf⟩
        case round =>
          obtain ⟨cc, rfl, hcc, rfl, HA⟩ := hrel
          have HC := Lib.hid (c_slContains A2 k c2 r cc _ HR.out.1.symm (by have := HR.out.1; omega) Hs2.out)
          cases hin : has r cc with
          | true =>
            rw [hin] at HC
            have Hin := Lib.hid hin
            clear hin
            go_wp2_with (go_at_call 35; refine HC.out.mono ?_; rintro e w' ⟨rfl, rfl⟩)
            have hd0 : ∃ d, d + 1 ≤ gk ∧ (cc + (d + 1)) % 52 ∉ r := by
              obtain ⟨d, hd, hf⟩ := HA.out
              rcases d with _ | d
              · refine absurd ?_ hf
                rw [Nat.add_zero, Nat.mod_eq_of_lt hcc]
                exact of_decide_eq_true Hin.out
              · exact ⟨d, hd, hf⟩
            go_roundg (gk - 1)
            case measure => obtain ⟨d, hd, _⟩ := hd0; omega
            case rel =>
              obtain ⟨d, hd, hf⟩ := hd0
              refine ⟨(cc + 1) % 52, int_eq (by omega), by omega, rfl, d, by omega, ?_⟩
              rw [show ((cc + 1) % 52 + d) % 52 = (cc + (d + 1)) % 52 from by omega]
              exact hf
          | false =>
            rw [hin] at HC
            have Hin := Lib.hid hin
            clear hin HA
            go_wp2_with (first
              | (go_at_call 35; refine HC.out.mono ?_; rintro e w' ⟨rfl, rfl⟩)
              | (at_builtin; go_must (refine wpList_append_sl rfl (.tmp 28) (.tmp 30) 23 rfl w.heap.size 5 i0 (.int .u8 0) 1 Try.underlying23 hi hz0 hz1 hz2 rfl _ k _ rfl (Hown.out.alloc _) (some ⟨wr.heap.size, 0, none⟩) 1 1 [.int .u8 (cc : Int)] rfl rfl (sl_one _ _ _) (by simp [Value.oneCell']) (by unfold maxLen; omega) (by omega) (by simp; omega) ?_); intro v2 w2 hown2 hg2 _))
            go_roundw
            case rel =>
              refine ⟨k + 1, r ++ [cc], by omega, by go_num, ?_, ⟨by rw [List.length_append, HR.out.1]; rfl, HR.out.2.snoc hcc (of_decide_eq_false Hin.out)⟩, (hbw.alloc hbw.size _).grown hg2 (by simp; omega) (own_base Hown.out)⟩
              rw [List.map_append]
              exact hown2
            case measure => simp [intOf]; omega
      · obtain rfl : k = l.length := by omega
        go_wp2_with fail
        go_ret
        exact ⟨_, r, rfl, by rw [HR.out.1]; exact hown, by rw [HR.out.1]; omega, HR.out.2, hbw⟩
end Go.Proofs.Ytabejgcpihacpaa
