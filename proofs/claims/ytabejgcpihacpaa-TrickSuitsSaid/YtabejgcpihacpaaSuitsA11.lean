/- The statement TrickSuits of layer 11: its closures. -/
import Derived.Test.YtabejgcpihacpaaSuits11
namespace Go.Proofs.Ytabejgcpihacpaa
open Go.RowKit

theorem w_and4 : ∀ b < 256, (bits BinOp.and IntKind.u8 ((b : Nat) : Int) 4 == 4) = decide (b / 4 % 2 = 1) := by decide +kernel

set_option maxHeartbeats 400000 in
theorem c_suits1 (p b s : Nat) (hb : b < 256) (hs : s < 256) (w : World) (hp : Box w p 5 (.int .u8 b)) :
    Calls Try.prog 14 #[.int .u8 s, .pointer (some ⟨p, 0, none⟩)] w (Same (.int .u8 (nm b s : Nat)) w) := by
  have hcell := hp.cell
  have e := w_and4 b hb
  clear hp
  unfold nm
  by_cases h3 : 3 < s
  · rw [if_pos h3]
    clear e
    go_enter Try.func14, Try.ntmps14
    go_wp2_with fail
    go_ret
    exact ⟨rfl, rfl⟩
  · rw [if_neg h3]
    by_cases h4 : b / 4 % 2 = 1
    · have e1 := e.trans (decide_eq_true h4)
      by_cases h2 : s < 2
      · rw [if_pos ⟨h4, h2⟩]
        clear e h4
        go_enter Try.func14, Try.ntmps14
        go_wp2_with fail
        go_ret
        exact ⟨ret_int (by omega), rfl⟩
      · rw [if_neg (fun h => h2 h.2)]
        clear e h4
        go_enter Try.func14, Try.ntmps14
        go_wp2_with fail
        go_ret
        exact ⟨ret_int (by omega), rfl⟩
    · have e1 := e.trans (decide_eq_false h4)
      rw [if_neg (fun h => h4 h.1)]
      clear e h4
      go_enter Try.func14, Try.ntmps14
      go_wp2_with fail
      go_ret
      exact ⟨ret_int (by omega), rfl⟩
theorem enters_suits1 : ∀ args w, (callFunc 14 args).run Try.prog w = .ok (.enter 14 args) w :=
  enters_of Try.func14 (by kernel_rfl) rfl

set_option maxHeartbeats 1000000 in
theorem c_suits2 (q p b m : Nat) (hb : b < 256) (hm : m < 2 ^ 64) (w : World) (hq : Box w q 27 (.func (.func 14) #[] #[.pointer (some ⟨p, 0, none⟩)])) (hp : Box w p 5 (.int .u8 b)) :
    Calls Try.prog 15 #[.int .u64 m, .pointer (some ⟨q, 0, none⟩)] w (Same (.int .u64 (ren b m : Nat)) w) := by
  have hcell := hq.cell
  have H1 := Lib.hid (fun s (hs : s < 256) => c_suits1 p b s hb hs w hp)
  clear hq hp
  go_enter Try.func15, Try.ntmps15
  go_wp2_with fail
  go_loop [4, 6] (fun out i => ∃ k : Nat, k ≤ 52 ∧ i = .int .u8 k ∧ out = .int .u64 (renTo b m k : Nat)) (fun _ i => 52 - (intOf i).toNat)
  case atStart => exact ⟨0, by omega, rfl, rfl⟩
  case round =>
    obtain ⟨k, hk, rfl, rfl⟩ := hrel
    by_cases hlt : k < 52
    · have hrl := renTo_lt b m k hk
      have hstep : renTo b m (k + 1) = if m.testBit k then set1 (renTo b m k) (nc b k) else renTo b m k := rfl
      generalize renTo b m k = x at *
      cases hbt : m.testBit k with
      | false =>
        have e1 : (bits BinOp.and IntKind.u64 ((m : Int) / 2 ^ k) 1 == 1) = false := by rw [w_bit_lt hm (by omega), hbt]
        rw [hbt, if_neg Bool.noConfusion] at hstep
        have Hs := Lib.hid hstep
        clear hbt hstep hrl
        go_wp2_with fail
        go_round
        case rel => exact ⟨k + 1, by omega, by go_num, by rw [Hs.out]⟩
        case measure => simp [intOf]; omega
      | true =>
        have e1 : (bits BinOp.and IntKind.u64 ((m : Int) / 2 ^ k) 1 == 1) = true := by rw [w_bit_lt hm (by omega), hbt]
        rw [hbt, if_pos rfl] at hstep
        have hs3 := nm_le (b := b) (s := k / 13) (by omega)
        have hnc : nc b k = 13 * nm b (k / 13) + k % 13 := rfl
        rw [hnc] at hstep
        have H2 := H1.out (k / 13) (by omega)
        generalize nm b (k / 13) = u at *
        have H2 := Lib.hid H2
        have HW := Lib.hid (w_set1_lt (m := x) (x := 13 * u + k % 13) (by omega) (by omega))
        have Hs := Lib.hid hstep
        clear hbt hstep hrl hnc
        go_wp2_with (go_at_call 14; refine H2.out.mono ?_; rintro e w' ⟨rfl, rfl⟩)
        go_round
        case rel => exact ⟨k + 1, by omega, by go_num, by rw [Hs.out, ← HW.out]⟩
        case measure => simp [intOf]; omega
    · obtain rfl : k = 52 := by omega
      go_wp2_with fail
      go_ret
      exact ⟨rfl, rfl⟩
theorem enters_suits2 : ∀ args w, (callFunc 15 args).run Try.prog w = .ok (.enter 15 args) w :=
  enters_of Try.func15 (by kernel_rfl) rfl
end Go.Proofs.Ytabejgcpihacpaa
