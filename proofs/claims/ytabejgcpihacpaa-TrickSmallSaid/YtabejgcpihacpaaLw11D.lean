/- The statements of layer 11: TrickTells, TrickPlays. -/
import Derived.Test.YtabejgcpihacpaaLw11B
import Derived.Test.YtabejgcpihacpaaLw11C
namespace Go.Proofs.Ytabejgcpihacpaa
open Go.RowKit

set_option maxHeartbeats 1000000 in
theorem c_TrickTells (t ld c : Nat) (A : Option Addr) (n cap : Nat) (l : List Nat) (w : World) (ht : t < 256) (hld : ld < 256) (hc : c < 256) (hn : n = l.length) (hcap : n ≤ cap) (_ : cap ≤ 9223372036854775807) (h : SlAt w A (l.map u8)) (h8 : ∀ x ∈ l, x < 256) :
    Calls Try.prog 5 #[.int .u8 t, .int .u8 ld, .int .u8 c, .slice A n cap] w (Frm (.bool true) w) := by
  subst hn
  by_cases h60 : 60 < l.length
  · have h60' : (60 : Int) < (l.length : Int) := by omega
    clear h8 h
    go_enter Try.func5, Try.ntmps5
    go_wp2_with (go_at_call 12; refine (c_awake _).mono ?_; rintro e w2 ⟨rfl, hb2⟩)
    go_ret
    exact ⟨rfl, hb2⟩
  · have h60' : ¬ (60 : Int) < (l.length : Int) := by omega
    have H := Lib.hid (c_tells A l.length cap t ld c l w rfl hcap (by omega) ht hld hc h8 h)
    clear h8 h
    go_enter Try.func5, Try.ntmps5
    go_wp2_with (first
      | (go_at_call 18; refine H.out.mono ?_; rintro e w1 ⟨rfl, hb1⟩)
      | (go_at_call 12; refine (c_awake _).mono ?_; rintro e w2 ⟨rfl, hb2⟩))
    go_ret
    exact ⟨rfl, below_step hb1 hb2⟩

set_option maxHeartbeats 1000000 in
theorem c_TrickPlays (t hd : Nat) (A : Option Addr) (n cap : Nat) (l : List Nat) (w : World) (ht : t < 256) (hh : hd < 2 ^ 64) (hn : n = l.length) (hcap : n ≤ cap) (_ : cap ≤ 9223372036854775807) (h : SlAt w A (l.map u8)) (h8 : ∀ x ∈ l, x < 256) :
    Calls Try.prog 3 #[.int .u8 t, .int .u64 hd, .slice A n cap] w (Frm (.bool true) w) := by
  subst hn
  by_cases h60 : 60 < l.length
  · have h60' : (60 : Int) < (l.length : Int) := by omega
    clear h8 h hh
    go_enter Try.func3, Try.ntmps3
    go_wp2_with (go_at_call 12; refine (c_awake _).mono ?_; rintro e w2 ⟨rfl, hb2⟩)
    go_ret
    exact ⟨rfl, hb2⟩
  · have h60' : ¬ (60 : Int) < (l.length : Int) := by omega
    have H := Lib.hid (c_plays A l.length cap t hd l w rfl hcap (by omega) ht hh h8 h)
    clear h8 h hh
    go_enter Try.func3, Try.ntmps3
    go_wp2_with (first
      | (go_at_call 11; refine H.out.mono ?_; rintro e w1 ⟨rfl, hb1⟩)
      | (go_at_call 12; refine (c_awake _).mono ?_; rintro e w2 ⟨rfl, hb2⟩))
    go_ret
    exact ⟨rfl, below_step hb1 hb2⟩
end Go.Proofs.Ytabejgcpihacpaa
