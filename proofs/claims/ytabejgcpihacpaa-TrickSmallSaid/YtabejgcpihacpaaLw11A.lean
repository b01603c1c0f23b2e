/- The statements of layer 11: mask, tells, plays. -/
import Derived.Test.YtabejgcpihacpaaKit8
import Derived.Test.YtabejgcpihacpaaRfF
namespace Go.Proofs.Ytabejgcpihacpaa
open Go.RowKit

def maskTo (l : List Nat) : Nat → Nat
  | 0 => 0
  | k + 1 => set1 (maskTo l k) (l[k]?.getD 0)
def maskOf (l : List Nat) : Nat := maskTo l l.length
theorem maskTo_lt (l : List Nat) : ∀ k, maskTo l k < 2 ^ 64
  | 0 => by unfold maskTo; omega
  | k + 1 => Nat.or_lt_two_pow (maskTo_lt l k) (bitOf_lt _)

set_option maxHeartbeats 400000 in
theorem c_mask (A : Option Addr) (n cap : Nat) (l : List Nat) (w : World) (hn : n = l.length) (hl : l.length ≤ 2^47) (h8 : ∀ x ∈ l, x < 256) (h : SlAt w A (l.map u8)) :
    Calls Try.prog 19 #[.slice A n cap] w (Same (.int .u64 (maskOf l : Nat)) w) := by
  subst hn
  go_enter Try.func19, Try.ntmps19
  go_wp2_with fail
  go_loop [3, 8] (fun m i => ∃ k : Nat, k ≤ l.length ∧ i = .int .i64 k ∧ m = .int .u64 (maskTo l k : Nat)) (fun _ i => l.length - (intOf i).toNat)
  case atStart => exact ⟨0, Nat.zero_le _, rfl, rfl⟩
  case round =>
    obtain ⟨k, hk, rfl, rfl⟩ := hrel
    have hm := maskTo_lt l k
    by_cases hlt : k < l.length
    · obtain ⟨b, o, x, rfl, hb, hx, hc⟩ := h.u8_at hlt
      have hx8 := h8 x (List.mem_of_getElem? hx)
      have Hs : Hid (maskTo l (k + 1) = set1 (maskTo l k) x) := by
        show set1 _ (l[k]?.getD 0) = _
        rw [hx]; rfl
      have Hw := Lib.hid (w_set1 (x := x) hm)
      clear hx hm
      generalize maskTo l k = m at *
      go_wp2_with fail
      go_round
      case rel => exact ⟨k + 1, by omega, by go_num, by rw [Hs.out, Hw.out]⟩
      case measure => simp [intOf]; omega
    · obtain rfl : k = l.length := by omega
      go_wp2_with fail
      go_ret
      exact ⟨rfl, rfl⟩

set_option maxRecDepth 100000 in
set_option maxHeartbeats 1000000 in
theorem c_tells (A : Option Addr) (n cap : Nat) (t ld c : Nat) (l : List Nat) (w : World) (hn : n = l.length) (hcap : n ≤ cap) (hl : l.length ≤ 140737488351232) (ht : t < 256) (hld : ld < 256) (hc : c < 256) (h8 : ∀ x ∈ l, x < 256) (h : SlAt w A (l.map u8)) :
    Calls Try.prog 18 #[.int .u8 t, .int .u8 ld, .int .u8 c, .slice A n cap] w (Frm (.bool true) w) := by
  subst hn
  have hl' : l.length ≤ 2 ^ 47 := by omega
  -- what comes back in each call, in whatever world in which the lists lie
  have H1 := Lib.hid (fun A2 cap2 (hc2 : l.length ≤ cap2) W hS => c_tWinner A2 l.length cap2 t l W rfl hc2 hl' ht h8 hS)
  have H2 := Lib.hid (fun W hS => c_rWinner A l.length cap t l W rfl hl' h8 hS)
  have H3 := Lib.hid (fun A2 cap2 (hc2 : l.length ≤ cap2) W hS => c_tSeat A2 l.length cap2 t ld l W rfl hc2 hl' ht hld h8 hS)
  have H4 := Lib.hid (fun W hS => c_rSeat A l.length cap t ld l W rfl hl' h8 hld hS)
  have H5 := Lib.hid (fun A2 cap2 (hc2 : l.length ≤ cap2) W hS => c_tBeats A2 l.length cap2 t l c W rfl hc2 hl' ht hc h8 hS)
  have H6 := Lib.hid (fun W hS => c_rBeats A l.length cap t l c W rfl hl' hc h8 hS)
  have H7 := Lib.hid (fun A2 cap2 (hc2 : l.length ≤ cap2) W hS => c_tRight A2 l.length cap2 l W rfl hc2 hl' hS)
  have H8 := Lib.hid (fun W hS => c_rRight A l.length cap l W rfl hl' hS)
  have H9 := Lib.hid (fun W => c_tStrength t ld c hc W)
  have H10 := Lib.hid (fun W => c_rStrength t ld c hc W)
  have H0 := Lib.hid (c_lentBytes A l.length cap l w rfl hl h)
  generalize tWinner t l = v1 at *
  generalize tWinE t l = v2 at *
  generalize tSeat t ld l = v3 at *
  generalize tSeatE t ld l = v4 at *
  generalize tBeats t l c = v5 at *
  generalize tBeatsE t l c = v6 at *
  generalize tRight l = v7 at *
  generalize tStrength t ld c = v8 at *
  have Hl := Lib.hid h
  clear h h8 hl'
  go_enter Try.func18, Try.ntmps18
  go_wp2_with (go_at_call 30; refine H0.out.mono ?_; rintro e w1 ⟨g, c1, rfl, hc1, hs1, hb1⟩)
  have HS1 : Hid (∀ W, Below w1.heap.size w1 W → SlAt W (some ⟨g, 0, none⟩) (l.map u8)) := by
    intro W hb
    have := (hs1.below hb).take l.length
    rw [← List.map_take, List.take_left'] at this
    · exact this
    · rfl
  have B1 := Below.refl w1.heap.size w1
  go_wp2_with (first
    | (go_at_call 16; refine Calls.mono (H1.out _ _ (by omega) _ (HS1.out _ B1)) ?_; rintro e w2 ⟨rfl, hk2⟩; have B2 := below_step B1 hk2; clear hk2)
    | (go_at_call 39; refine Calls.mono (Calls.mono (H2.out _ (Hl.out.below (below_step hb1 B2))) fun _ _ hh => Qt.frm hh) ?_; rintro e w3 ⟨rfl, hk3⟩; have B3 := below_step B2 hk3; clear hk3)
    | (go_at_call 24; refine Calls.mono (H3.out _ _ (by omega) _ (HS1.out _ B3)) ?_; rintro e w4 ⟨rfl, hk4⟩; have B4 := below_step B3 hk4; clear hk4)
    | (go_at_call 40; refine Calls.mono (Calls.mono (H4.out _ (Hl.out.below (below_step hb1 B4))) fun _ _ hh => Qt.frm hh) ?_; rintro e w5 ⟨rfl, hk5⟩; have B5 := below_step B4 hk5; clear hk5)
    | (go_at_call 27; refine Calls.mono (H5.out _ _ (by omega) _ (HS1.out _ B5)) ?_; rintro e w6 ⟨rfl, hk6⟩; have B6 := below_step B5 hk6; clear hk6)
    | (go_at_call 41; refine Calls.mono (H6.out _ (Hl.out.below (below_step hb1 B6))) ?_; rintro e w7 ⟨rfl, hk7⟩; have B7 := below_step B6 hk7; clear hk7)
    | (go_at_call 23; refine Calls.mono (Calls.mono (H7.out _ _ (by omega) _ (HS1.out _ B7)) fun _ _ hh => Same.frm hh) ?_; rintro e w8 ⟨rfl, hk8⟩; have B8 := below_step B7 hk8; clear hk8)
    | (go_at_call 42; refine Calls.mono (Calls.mono (H8.out _ (Hl.out.below (below_step hb1 B8))) fun _ _ hh => Qt.frm hh) ?_; rintro e w9 ⟨rfl, hk9⟩; have B9 := below_step B8 hk9; clear hk9)
    | (go_at_call 28; refine Calls.mono (H9.out _) ?_; rintro e w10 ⟨rfl, hk10⟩; have B10 := below_step B9 hk10; clear hk10)
    | (go_at_call 43; refine Calls.mono (Calls.mono (H10.out _) fun _ _ hh => Same.frm hh) ?_; rintro e w11 ⟨rfl, hk11⟩; have B11 := below_step B10 hk11; clear hk11)
    | (go_at_call 34; refine Calls.mono (Calls.mono (c_keptBytes _ _ _ _ _ _ l _ rfl rfl hl (by omega) (hs1.below B11) (Hl.out.below (below_step hb1 B11))) fun _ _ hh => Qt.frm hh) ?_; rintro e w12 ⟨rfl, hk12⟩; have B12 := below_step B11 hk12; clear hk12))
  go_ret
  exact ⟨rfl, below_step hb1 B12⟩
end Go.Proofs.Ytabejgcpihacpaa
