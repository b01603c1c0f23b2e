/- Contract of without[int] of package pairing. -/
import Derived.Test.YtiedecekbdaohaaDraws
import Derived.Test.YtiedecekbdaohaaMapI
namespace Go.Proofs.Ytiedecekbdaohaa
open Go.RowKit

set_option maxHeartbeats 400000 in
theorem c_without (A : Option Addr) (n cap : Nat) (l : List Int) (B : Option Addr) (m c : Nat) (ps : List Int) (w : World) (hn : n = l.length) (hl : l.length * 8 ≤ 140737488351232) (hm : m = ps.length) (hp : ps.length ≤ 2^47) (hA : SlAt w A (l.map i64)) (hB : SlAt w B (ps.map i64)) :
    Calls Try.prog 38 #[.slice A n cap, .slice B m c] w fun e w' => ∃ v, e = .returned v ∧ w'.ownsRow w.heap.size 3 1 v (wo l ps).length ((wo l ps).map i64) ∧ Below w.heap.size w w' := by
  subst hn hm
  obtain ⟨i0, hi, hz0, hz1, hz2⟩ := info_parts info_i64
  have hal := hB.drewN 0
  go_enter Try.func38, Try.ntmps38
  go_wp2_with fail
  go_loopw [5, 6, 7, 10] (fun v _ _ i wr => ∃ k : Nat, k ≤ l.length ∧ i = .int .i64 k ∧ wr.ownsRow w.heap.size 3 1 v (wo (l.take k) ps).length ((wo (l.take k) ps).map i64) ∧ Below w.heap.size w wr) (fun _ _ _ i _ => l.length - (intOf i).toNat)
  case atStart => exact ⟨0, Nat.zero_le _, rfl, own_nil _ _, Below.refl _ _⟩
  case round =>
    obtain ⟨k, hk, rfl, hown, hb⟩ := hrel
    have hsz := hb.size
    by_cases hlt : k < l.length
    · obtain ⟨b, o, x, rfl, hbb, hx, hc⟩ := (hA.below hb).i64_at hlt
      have hst := wo_snoc (ps := ps) hx
      have hlen : (wo (l.take k) ps).length ≤ k := by have := wo_len ps (l.take k) 0; rw [List.length_take] at this; unfold wo; omega
      have HC := Lib.hid (c_contains B ps.length c ps (k : Int) wr rfl hp (hB.below hb))
      have Hown := Lib.hid hown
      clear hx hown
      cases hin : hasI ps (k : Int) with
      | true =>
        rw [hin] at HC
        rw [if_pos (of_decide_eq_true hin)] at hst
        have Hst := Lib.hid hst
        clear hst hin
        go_wp2_with (go_at_call 37; refine HC.out.mono ?_; rintro e w' ⟨rfl, rfl⟩)
        go_roundw
        case rel => exact ⟨k + 1, by omega, by go_num, by rw [Hst.out]; exact Hown.out, hb⟩
        case measure => simp [intOf]; omega
      | false =>
        rw [hin] at HC
        rw [if_neg (of_decide_eq_false hin)] at hst
        have Hst := Lib.hid hst
        clear hst hin
        generalize wo (l.take k) ps = q at *
        go_wp2_with (first
          | (go_at_call 37; refine HC.out.mono ?_; rintro e w' ⟨rfl, rfl⟩)
          | (at_builtin; go_must (refine wpList_append_sl rfl (.tmp 19) (.tmp 21) 22 rfl w.heap.size 3 i0 (.int .i64 0) 8 Try.underlying22 hi hz0 hz1 hz2 rfl _ q.length _ rfl (Hown.out.alloc _) (some ⟨wr.heap.size, 0, none⟩) 1 1 [.int .i64 x] rfl rfl (sl_one _ _ _) (by simp [Value.oneCell']) (by unfold maxLen; omega) (by omega) (by simp; omega) ?_); intro v2 w2 hown2 hg2 _))
        go_roundw
        case rel =>
          refine ⟨k + 1, by omega, by go_num, ?_, (hb.alloc hb.size _).grown hg2 (by simp; omega) (own_base Hown.out)⟩
          rw [Hst.out, List.map_append, List.length_append]
          exact hown2
        case measure => simp [intOf]; omega
    · obtain rfl : k = l.length := by omega
      rw [List.take_length] at hown
      go_wp2_with fail
      go_ret
      exact ⟨_, rfl, hown, hb⟩
end Go.Proofs.Ytiedecekbdaohaa
