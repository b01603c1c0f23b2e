/- The statements of layer 11: plays; the examples of the chapter. -/
import Derived.Test.YtabejgcpihacpaaLw11A
import Derived.Deep.RegionHeld3
namespace Go.Proofs.Ytabejgcpihacpaa
open Go.RowKit

set_option maxRecDepth 100000 in
set_option maxHeartbeats 1000000 in
theorem c_plays (A : Option Addr) (n cap : Nat) (t hd : Nat) (l : List Nat) (w : World) (hn : n = l.length) (hcap : n ≤ cap) (hl : l.length ≤ 140737488351232) (ht : t < 256) (hh : hd < 2 ^ 64) (h8 : ∀ x ∈ l, x < 256) (h : SlAt w A (l.map u8)) :
    Calls Try.prog 11 #[.int .u8 t, .int .u64 hd, .slice A n cap] w (Frm (.bool true) w) := by
  subst hn
  have hl' : l.length ≤ 2 ^ 47 := by omega
  have H1 := Lib.hid (fun A2 cap2 (hc2 : l.length ≤ cap2) W hS => c_tPlayable A2 l.length cap2 hd l W rfl hc2 hl' hh h8 hS)
  have H2 := Lib.hid (fun W hS => c_rPlayable A l.length cap hd l W rfl hl' hh h8 hS)
  have H3 := Lib.hid (fun A2 cap2 (hc2 : l.length ≤ cap2) W hS => c_tWinners A2 l.length cap2 t hd l W rfl hc2 hl' hh ht h8 hS)
  have H4 := Lib.hid (fun W hS => c_rWinners A l.length cap t hd l W rfl hl' hh h8 hS)
  have H5 := Lib.hid (fun A2 cap2 (hc2 : l.length ≤ cap2) W hS => c_tCover A2 l.length cap2 t hd l W rfl hc2 hl' hh ht h8 hS)
  have H6 := Lib.hid (fun W hS => c_rCover A l.length cap t hd l W rfl hl' hh h8 hS)
  have H0 := Lib.hid (c_lentBytes A l.length cap l w rfl hl h)
  generalize tPlay hd l = v1 at *
  generalize tPlayE hd l = v2 at *
  generalize tWins t hd l = v3 at *
  generalize tWinsE t hd l = v4 at *
  generalize tCover t hd l = v5 at *
  generalize tCoverIs t hd l = v6 at *
  have Hl := Lib.hid h
  clear h h8 hl' hh
  go_enter Try.func11, Try.ntmps11
  go_wp2_with (go_at_call 30; refine H0.out.mono ?_; rintro e w1 ⟨g, c1, rfl, hc1, hs1, hb1⟩)
  have HS1 : Hid (∀ W, Below w1.heap.size w1 W → SlAt W (some ⟨g, 0, none⟩) (l.map u8)) := by
    intro W hb
    have := (hs1.below hb).take l.length
    rw [← List.map_take, List.take_left'] at this
    · exact this
    · rfl
  have B1 := Below.refl w1.heap.size w1
  go_wp2_with (first
    | (go_at_call 17; refine Calls.mono (Calls.mono (H1.out _ _ (by omega) _ (HS1.out _ B1)) fun _ _ hh => Same.frm hh) ?_; rintro e w2 ⟨rfl, hk2⟩; have B2 := below_step B1 hk2; clear hk2)
    | (go_at_call 31; refine Calls.mono (Calls.mono (H2.out _ (Hl.out.below (below_step hb1 B2))) fun _ _ hh => Qt.frm hh) ?_; rintro e w3 ⟨rfl, hk3⟩; have B3 := below_step B2 hk3; clear hk3)
    | (go_at_call 20; refine Calls.mono (H3.out _ _ (by omega) _ (HS1.out _ B3)) ?_; rintro e w4 ⟨rfl, hk4⟩; have B4 := below_step B3 hk4; clear hk4)
    | (go_at_call 32; refine Calls.mono (H4.out _ (Hl.out.below (below_step hb1 B4))) ?_; rintro e w5 ⟨rfl, hk5⟩; have B5 := below_step B4 hk5; clear hk5)
    | (go_at_call 21; refine Calls.mono (H5.out _ _ (by omega) _ (HS1.out _ B5)) ?_; rintro e w6 ⟨rfl, hk6⟩; have B6 := below_step B5 hk6; clear hk6)
    | (go_at_call 33; refine Calls.mono (H6.out _ (Hl.out.below (below_step hb1 B6))) ?_; rintro e w7 ⟨rfl, hk7⟩; have B7 := below_step B6 hk7; clear hk7)
    | (go_at_call 34; refine Calls.mono (Calls.mono (c_keptBytes _ _ _ _ _ _ l _ rfl rfl hl (by omega) (hs1.below B7) (Hl.out.below (below_step hb1 B7))) fun _ _ hh => Qt.frm hh) ?_; rintro e w8 ⟨rfl, hk8⟩; have B8 := below_step B7 hk8; clear hk8))
  go_ret
  exact ⟨rfl, below_step hb1 B8⟩
end Go.Proofs.Ytabejgcpihacpaa
