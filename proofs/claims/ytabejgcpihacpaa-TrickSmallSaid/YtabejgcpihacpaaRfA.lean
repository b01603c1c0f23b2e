/- Contracts of the reference of layer 11: Right, Strength, Winner, Seat, Has, among. -/
import Derived.Test.YtabejgcpihacpaaTkC
namespace Go.Proofs.Ytabejgcpihacpaa
open Go.RowKit

theorem c_rHas (m c : Nat) (hm : m < 2^64) (w : World) :
    Calls Try.prog 50 #[.int .u64 m, .int .u8 c] w (Same (.bool (m.testBit c)) w) := by
  go_enter Try.func50, Try.ntmps50
  go_wp2_with fail
  go_ret
  exact ⟨ret_bool (w_bit_mod hm), rfl⟩

theorem has_hit {l : List Nat} {v k : Nat} (hv : l[k]? = some v) : has l v = true := by
  unfold has; exact decide_eq_true (List.mem_of_getElem? hv)
theorem has_miss {l : List Nat} {v : Nat} (h : v ∉ l.take l.length) : has l v = false := by
  unfold has; rw [List.take_length] at h; exact decide_eq_false h

set_option maxHeartbeats 400000 in
theorem c_rAmong (A : Option Addr) (n cap : Nat) (l : List Nat) (v : Nat) (w : World) (hn : n = l.length) (hl : l.length ≤ 2^47) (h : SlAt w A (l.map u8)) :
    Calls Try.prog 51 #[.slice A n cap, .int .u8 v] w (Same (.bool (has l v)) w) := by
  subst hn
  go_enter Try.func51, Try.ntmps51
  go_wp2_with fail
  go_loop [5] (fun i => ∃ k : Nat, k ≤ l.length ∧ i = .int .i64 k ∧ v ∉ l.take k) (fun i => l.length - (intOf i).toNat)
  case atStart => exact ⟨0, Nat.zero_le _, rfl, by simp⟩
  case round =>
    obtain ⟨k, hk, rfl, hv⟩ := hrel
    have Hv := Lib.hid hv
    clear hv
    by_cases hlt : k < l.length
    · obtain ⟨b, o, x, rfl, hb, hx, hc⟩ := h.u8_at hlt
      have Hx := Lib.hid hx
      clear hx
      by_cases he : x = v
      · have e1 : ((x : Int) == (v : Int)) = true := by simp [he]
        have He := Lib.hid he
        clear he
        go_wp2_with fail
        go_ret
        exact ⟨ret_bool (has_hit (by rw [Hx.out, He.out])).symm, rfl⟩
      · have e1 : ((x : Int) == (v : Int)) = false := by simp; omega
        have He := Lib.hid he
        clear he
        go_wp2_with fail
        go_round
        case rel => exact ⟨k + 1, by omega, by go_num, notin_snoc Hx.out Hv.out (fun e => He.out e.symm)⟩
        case measure => simp [intOf]; omega
    · obtain rfl : k = l.length := by omega
      go_wp2_with fail
      go_ret
      exact ⟨ret_bool (has_miss Hv.out).symm, rfl⟩

set_option maxHeartbeats 400000 in
theorem c_rRight (A : Option Addr) (n cap : Nat) (l : List Nat) (w : World) (hn : n = l.length) (hl : l.length ≤ 2^47) (h : SlAt w A (l.map u8)) :
    Calls Try.prog 42 #[.slice A n cap] w (Qt (.bool (tRight l)) w) := by
  subst hn
  by_cases hbad : l.length < 1 ∨ 4 < l.length
  · have hb := tRight_short hbad
    rcases hbad with h1 | h1
    · have h1' : ((l.length : Int) == 0) = true := beq_iff_eq.2 (by omega)
      rw [hb]; clear hb
      go_enter Try.func42, Try.ntmps42
      go_wp2_with fail
      go_ret
      exact ⟨rfl, 0, rfl⟩
    · have h0' : ((l.length : Int) == 0) = false := beq_eq_false_iff_ne.2 (by omega)
      have h1' : (4 : Int) < (l.length : Int) := by omega
      rw [hb]; clear hb
      go_enter Try.func42, Try.ntmps42
      go_wp2_with fail
      go_ret
      exact ⟨rfl, 0, rfl⟩
  · have h0' : ((l.length : Int) == 0) = false := beq_eq_false_iff_ne.2 (by omega)
    have h1' : ¬ (4 : Int) < (l.length : Int) := by omega
    have h0 : 0 < l.length := by omega
    have h4 : l.length ≤ 4 := by omega
    clear hbad
    obtain ⟨b, o, rfl, hb, hc⟩ := h.u8_all h0
    go_enter Try.func42, Try.ntmps42
    go_wp2_with fail
    go_loopw [3] (fun i wr => ∃ k : Nat, k ≤ l.length ∧ i = .int .i64 k ∧ okTo l k ∧ Hid (∃ q, wr = w.drewN q)) (fun i _ => l.length - (intOf i).toNat)
    case atStart => exact ⟨0, Nat.zero_le _, rfl, fun j hj => absurd hj (by omega), 0, rfl⟩
    case round =>
      obtain ⟨k, hk, rfl, hok, HQ⟩ := hrel
      have Hok := Lib.hid hok
      have hbw : Below w.heap.size w wr := by
        obtain ⟨q, rfl⟩ := HQ.out
        exact below_drewN (Below.refl _ _) q
      have hc1 : ∀ k x, l[k]? = some x → wr.cell? ⟨b, o + k, none⟩ = some (.int .u8 (x : Nat)) := fun k x hx => (hbw.cell (p := ⟨b, o + k, none⟩) hb).trans (hc k x hx)
      clear hok hc hbw
      by_cases hlt : k < l.length
      · obtain ⟨x, hx⟩ := get_some hlt
        have hck := hc1 k x hx
        have Hx := Lib.hid hx
        have Hc := Lib.hid hc1
        clear hx hc1
        by_cases h52 : 51 < x
        · go_wp2_with fail
          go_ret
          exact ⟨ret_bool (tRight_bad Hx.out (fun hh => by omega)).symm, HQ.out⟩
        · have h52' : x < 52 := by omega
          go_wp2_with fail
          obtain ⟨wo, rfl⟩ : ∃ wo : World, wo = wr := ⟨_, rfl⟩
          go_loopw [4] (fun j wq => ∃ m : Nat, m ≤ k ∧ j = .int .i64 m ∧ Hid (x ∉ l.take m) ∧ Hid (∃ q, wq = wo.drewN q)) (fun j _ => k - (intOf j).toNat)
          case atStart => exact ⟨0, Nat.zero_le _, rfl, (by show x ∉ l.take 0; simp), 0, rfl⟩
          case round =>
            obtain ⟨m, hm, rfl, Hm, HQ2⟩ := hrel
            have hkk : wr.cell? ⟨b, o + k, none⟩ = some (.int .u8 (x : Nat)) := by
              obtain ⟨q, rfl⟩ := HQ2.out
              exact hck
            clear hck
            by_cases hmk : m < k
            · obtain ⟨y, hy⟩ := get_some (l := l) (k := m) (by omega)
              have hmm : wr.cell? ⟨b, o + m, none⟩ = some (.int .u8 (y : Nat)) := by
                obtain ⟨q, rfl⟩ := HQ2.out
                exact Hc.out m y hy
              have Hy := Lib.hid hy
              clear hy
              have b1 : (0 : Int) ≤ (m : Int) := by omega
              have b2 : (m : Int) < (l.length : Int) := by omega
              have b3 : (0 : Int) ≤ (k : Int) := by omega
              have b4 : (k : Int) < (l.length : Int) := by omega
              by_cases he : y = x
              · have e1 : ((y : Int) == (x : Int)) = true := by simp [he]
                have He := Lib.hid he
                clear he
                go_wp2_with fail
                go_quiet (fail)
                go_wp2_with fail
                go_ret
                refine ⟨ret_bool (tRight_bad Hx.out (fun hh => hh.2 ?_)).symm, ?_⟩
                · have := Hy.out
                  rw [He.out] at this
                  exact List.mem_of_getElem? (i := m) (by rw [List.getElem?_take, if_pos hmk]; exact this)
                · obtain ⟨q1, rfl⟩ := HQ.out
                  obtain ⟨q2, rfl⟩ := HQ2.out
                  exact ⟨q1 + q2 + nq, by simp only [World.drewN_drewN]⟩
              · have e1 : ((y : Int) == (x : Int)) = false := by simp; omega
                have He := Lib.hid he
                clear he
                go_wp2_with fail
                go_quiet (fail)
                go_wp2_with fail
                go_roundw
                case rel => exact ⟨m + 1, by omega, by go_num, notin_snoc Hy.out Hm.out (fun e => He.out e.symm), hq_drewN HQ2 _⟩
                case measure => simp [intOf]; omega
            · obtain rfl : m = k := by omega
              go_wp2_with fail
              go_roundw
              case rel =>
                refine ⟨m + 1, by omega, by go_num, okTo_succ Hx.out Hok.out h52' Hm.out, ?_⟩
                obtain ⟨q1, rfl⟩ := HQ.out
                obtain ⟨q2, rfl⟩ := HQ2.out
                exact ⟨q1 + q2, by simp only [World.drewN_drewN]⟩
              case measure => simp [intOf]; omega
      · go_wp2_with fail
        go_ret
        exact ⟨ret_bool (okTo_all (by have : k = l.length := by omega
                                      rw [← this]; exact Hok.out) h0 h4).symm, HQ.out⟩

set_option maxHeartbeats 400000 in
theorem c_rStrength (t d c : Nat) (hc : c < 256) (w : World) :
    Calls Try.prog 43 #[.int .u8 t, .int .u8 d, .int .u8 c] w (Same (.int .i64 (tStrength t d c : Nat)) w) := by
  by_cases h1 : 4 < t
  · have e1 : tStrength t d c = 0 := by unfold tStrength; rw [if_neg (by omega)]
    rw [e1]; clear e1
    go_enter Try.func43, Try.ntmps43
    go_wp2_with fail
    go_ret
    exact ⟨rfl, rfl⟩
  · by_cases h2 : 3 < d
    · have e1 : tStrength t d c = 0 := by unfold tStrength; rw [if_neg (by omega)]
      rw [e1]; clear e1
      go_enter Try.func43, Try.ntmps43
      go_wp2_with fail
      go_ret
      exact ⟨rfl, rfl⟩
    · by_cases h3 : 51 < c
      · have e1 : tStrength t d c = 0 := by unfold tStrength; rw [if_neg (by omega)]
        rw [e1]; clear e1
        go_enter Try.func43, Try.ntmps43
        go_wp2_with fail
        go_ret
        exact ⟨rfl, rfl⟩
      · have e1 : tStrength t d c = if c / 13 = t then 14 + c % 13 else if c / 13 = d then 1 + c % 13 else 0 := by
          have hc52 : c < 52 := by omega
          unfold tStrength stren cSuit cRank
          rw [if_pos (show t ≤ 4 ∧ d ≤ 3 ∧ c < 52 by omega)]
          simp only [if_pos hc52]
        by_cases h4 : c / 13 = t
        · rw [e1, if_pos h4]; clear e1
          have e4 : ((c : Int) / 13 == (t : Int)) = true := beq_iff_eq.2 (by omega)
          have H4 := Lib.hid h4
          clear h4
          go_enter Try.func43, Try.ntmps43
          go_wp2_with fail
          go_ret
          exact ⟨ret_int (by omega), rfl⟩
        · have e4 : ((c : Int) / 13 == (t : Int)) = false := beq_eq_false_iff_ne.2 (by omega)
          by_cases h5 : c / 13 = d
          · rw [e1, if_neg h4, if_pos h5]; clear e1
            have e5 : ((c : Int) / 13 == (d : Int)) = true := beq_iff_eq.2 (by omega)
            have H5 := Lib.hid h5
            clear h5 h4
            go_enter Try.func43, Try.ntmps43
            go_wp2_with fail
            go_ret
            exact ⟨ret_int (by omega), rfl⟩
          · rw [e1, if_neg h4, if_neg h5]; clear e1
            have e5 : ((c : Int) / 13 == (d : Int)) = false := beq_eq_false_iff_ne.2 (by omega)
            clear h5 h4
            go_enter Try.func43, Try.ntmps43
            go_wp2_with fail
            go_ret
            exact ⟨rfl, rfl⟩
end Go.Proofs.Ytabejgcpihacpaa
