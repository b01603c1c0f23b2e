/- Contracts of the reference of layer 11: Winner, Seat. -/
import Derived.Test.YtabejgcpihacpaaRfA
namespace Go.Proofs.Ytabejgcpihacpaa
open Go.RowKit

set_option maxHeartbeats 1000000 in
theorem c_rWinner (A : Option Addr) (n cap : Nat) (t : Nat) (l : List Nat) (w : World) (hn : n = l.length) (hl : l.length ≤ 2^47) (h8 : ∀ x ∈ l, x < 256) (h : SlAt w A (l.map u8)) :
    Calls Try.prog 39 #[.int .u8 t, .slice A n cap] w (Qt (.tuple #[.int .i64 (tWinner t l : Nat), .int .i64 (tWinE t l : Nat)]) w) := by
  subst hn
  by_cases h4 : 4 < t
  · have e1 : tWinner t l = 0 := by unfold tWinner; rw [if_pos h4]
    have e2 : tWinE t l = 2 := by unfold tWinE; rw [if_pos h4]
    rw [e1, e2]; clear e1 e2
    go_enter Try.func39, Try.ntmps39
    go_wp2_with fail
    go_ret2
    exact ⟨rfl, 0, rfl⟩
  · have HR := Lib.hid (c_rRight A l.length cap l w rfl hl h)
    cases hR : tRight l with
    | false =>
      have e1 : tWinner t l = 0 := by unfold tWinner; rw [if_neg h4, if_pos hR]
      have e2 : tWinE t l = 110 := by unfold tWinE; rw [if_neg h4, if_pos hR]
      rw [e1, e2]; clear e1 e2
      rw [hR] at HR
      go_enter Try.func39, Try.ntmps39
      go_wp2_with (go_at_call 42; refine HR.out.mono ?_; rintro e w' ⟨rfl, q0, rfl⟩)
      go_ret2
      exact ⟨rfl, q0, rfl⟩
    | true =>
      have e1 : tWinner t l = tWin t l := by unfold tWinner; rw [if_neg h4, if_neg (by rw [hR]; exact Bool.noConfusion)]
      have e2 : tWinE t l = 0 := by unfold tWinE; rw [if_neg h4, if_neg (by rw [hR]; exact Bool.noConfusion)]
      rw [e1, e2]; clear e1 e2
      have hlen := tRight_len hR
      obtain ⟨b, o, rfl, hb, hc⟩ := h.u8_all hlen.1
      obtain ⟨z, hz⟩ := get_some hlen.1
      have hcz := hc 0 z hz
      rw [Nat.add_zero] at hcz
      have ew := tWin_ref (t := t) (by omega) hR hz
      have hz8 := h8 z (List.mem_of_getElem? hz)
      rw [ew]
      rw [hR] at HR
      have Hc := Lib.hid hc
      have Hcz := Lib.hid hcz
      obtain ⟨f, hf⟩ : ∃ f : Nat → Int, f = fun c => (tStrength t (z / 13) c : Int) := ⟨_, rfl⟩
      rw [← hf]
      have HS0 : ∀ (c : Nat) (W : World), c < 256 → Calls Try.prog 43 #[.int .u8 t, .int .u8 ((z : Int) / 13), .int .u8 c] W (Same (.int .i64 (f c)) W) := by
        intro c W hc
        rw [hf]
        exact c_rStrength t (z / 13) c hc W
      have HS := Lib.hid HS0
      clear hc hcz hz ew hf HS0
      go_enter Try.func39, Try.ntmps39
      go_wp2_with (go_at_call 42; refine HR.out.mono ?_; rintro e w' ⟨rfl, q0, rfl⟩)
      go_loopw [6, 7] (fun i _ wr => ∃ k : Nat, k ≤ l.length ∧ i = .int .i64 k ∧ Hid (∀ j, j < k → beatTo f l j l.length = true) ∧ Hid (∃ q, wr = w.drewN q)) (fun i _ _ => l.length - (intOf i).toNat)
      case atStart => exact ⟨0, Nat.zero_le _, rfl, fun j hj => absurd hj (by omega), q0, rfl⟩
      case round =>
        obtain ⟨k, hk, rfl, Hk, HQ⟩ := hrel
        by_cases hlt : k < l.length
        · obtain ⟨x, hx⟩ := get_some hlt
          have Hx := Lib.hid hx
          have hx8 := h8 x (List.mem_of_getElem? hx)
          clear hx
          go_wp2_with fail
          obtain ⟨wo, rfl⟩ : ∃ wo : World, wo = wr := ⟨_, rfl⟩
          go_loopw [7, 8] (fun be j wq => ∃ m : Nat, m ≤ l.length ∧ j = .int .i64 m ∧ be = .bool (beatTo f l k m) ∧ Hid (∃ q, wq = w.drewN q)) (fun _ j _ => l.length - (intOf j).toNat)
          case atStart => exact ⟨0, Nat.zero_le _, rfl, rfl, HQ⟩
          case round =>
            obtain ⟨m, hm, rfl, rfl, HQ2⟩ := hrel
            have hkk : wr.cell? ⟨b, o + k, none⟩ = some (.int .u8 (x : Nat)) := by
              obtain ⟨q, rfl⟩ := HQ2.out
              exact Hc.out k x Hx.out
            by_cases hmk : m < l.length
            · obtain ⟨y, hy⟩ := get_some hmk
              have hmm : wr.cell? ⟨b, o + m, none⟩ = some (.int .u8 (y : Nat)) := by
                obtain ⟨q, rfl⟩ := HQ2.out
                exact Hc.out m y hy
              have hzz : wr.cell? ⟨b, o, none⟩ = some (.int .u8 (z : Nat)) := by
                obtain ⟨q, rfl⟩ := HQ2.out
                exact Hcz.out
              have hy8 := h8 y (List.mem_of_getElem? hy)
              have hs : beatTo f l k (m + 1) = if f x < f y then true else beatTo f l k m := by
                show (if f (l[k]?.getD 0) < f (l[m]?.getD 0) then true else beatTo f l k m) = _
                rw [Hx.out, hy]; rfl
              have Hs := Lib.hid hs
              have S1 := fun n => HS.out x (wr.drewN n) hx8
              have S2 := fun n => HS.out y (wr.drewN n) hy8
              clear hy hs
              have b1 : (0 : Int) ≤ (m : Int) := by omega
              have b2 : (m : Int) < (l.length : Int) := by omega
              have b3 : (0 : Int) ≤ (k : Int) := by omega
              have b4 : (k : Int) < (l.length : Int) := by omega
              have b5 : (0 : Int) < (l.length : Int) := by omega
              generalize beatTo f l k m = bb at *
              generalize f x = fx at *
              generalize f y = fy at *
              by_cases hlf : fx < fy
              all_goals
                go_wp2_with fail
                go_quiet (first
                  | (go_at_call_of 43 (Value.int IntKind.u8 (x : Int)); exact quiet_same (S1 _))
                  | (go_at_call_of 43 (Value.int IntKind.u8 (y : Int)); exact quiet_same (S2 _)))
                go_wp2_with fail
                go_roundw
                case measure => simp [intOf]; omega
              · case rel => exact ⟨m + 1, by omega, by go_num, by rw [Hs.out, if_pos hlf], hq_drewN HQ2 _⟩
              · case rel => exact ⟨m + 1, by omega, by go_num, by rw [Hs.out, if_neg (Int.not_lt.2 hlf)], hq_drewN HQ2 _⟩
            · obtain rfl : m = l.length := by omega
              cases hbt : beatTo f l k l.length with
              | false =>
                go_wp2_with fail
                go_ret2
                exact ⟨ret_two (int_eq (by rw [best_first hlt hbt Hk.out])) rfl, HQ2.out⟩
              | true =>
                have Hbt := Lib.hid hbt
                go_wp2_with fail
                go_roundw
                case rel =>
                  refine ⟨k + 1, by omega, by go_num, fun j hj => ?_, HQ2⟩
                  by_cases e : j = k
                  · subst e; exact Hbt.out
                  · exact Hk.out j (by omega)
                case measure => simp [intOf]; omega
        · exact absurd (fun j hj => Hk.out j (by omega)) (best_some (f := f) hlen.1)
end Go.Proofs.Ytabejgcpihacpaa
