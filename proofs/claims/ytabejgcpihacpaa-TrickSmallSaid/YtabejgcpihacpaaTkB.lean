/- Contracts of package trick: Winner, Seat, Beats, Playable. -/
import Derived.Test.YtabejgcpihacpaaTkA
namespace Go.Proofs.Ytabejgcpihacpaa
open Go.RowKit

theorem enters_strength1 : ∀ args w, (callFunc 53 args).run Try.prog w = .ok (.enter 53 args) w :=
  enters_of Try.func53 (by kernel_rfl) rfl

theorem tWin_lt {t : Nat} {l : List Nat} (h : 0 < l.length) : tWin t l < l.length := bestTo_lt _ l _ h

set_option maxHeartbeats 400000 in
theorem c_tWinner (A : Option Addr) (n cap : Nat) (t : Nat) (l : List Nat) (w : World) (hn : n = l.length) (hcap : n ≤ cap) (hl : l.length ≤ 2^47) (ht : t < 256) (h8 : ∀ x ∈ l, x < 256) (h : SlAt w A (l.map u8)) :
    Calls Try.prog 16 #[.int .u8 t, .slice A n cap] w (Frm (.tuple #[.int .i64 (tWinner t l : Nat), .int .i64 (tWinE t l : Nat)]) w) := by
  subst hn
  by_cases h4 : 4 < t
  · have e1 : tWinner t l = 0 := by unfold tWinner; rw [if_pos h4]
    have e2 : tWinE t l = 2 := by unfold tWinE; rw [if_pos h4]
    rw [e1, e2]; clear e1 e2
    go_enter Try.func16, Try.ntmps16
    go_wp2_with fail
    go_ret2
    exact ⟨rfl, Below.refl _ _⟩
  · cases hR : tRight l with
    | false =>
      have e1 : tWinner t l = 0 := by unfold tWinner; rw [if_neg h4, if_pos hR]
      have e2 : tWinE t l = 110 := by unfold tWinE; rw [if_neg h4, if_pos hR]
      rw [e1, e2]; clear e1 e2
      go_enter Try.func16, Try.ntmps16
      go_wp2_with (go_at_call 23; refine (c_tRight _ _ _ l _ rfl hcap hl h).mono ?_; rintro e w' ⟨rfl, rfl⟩)
      go_ret2
      exact ⟨rfl, Below.refl _ _⟩
    | true =>
      have e1 : tWinner t l = tWin t l := by unfold tWinner; rw [if_neg h4, if_neg (by rw [hR]; exact Bool.noConfusion)]
      have e2 : tWinE t l = 0 := by unfold tWinE; rw [if_neg h4, if_neg (by rw [hR]; exact Bool.noConfusion)]
      rw [e1, e2]; clear e1 e2
      have hlen := tRight_len hR
      obtain ⟨b, o, x, rfl, hb, hx, hc⟩ := h.u8_at (k := 0) (by omega)
      rw [Nat.add_zero] at hc
      have hx8 := h8 x (List.mem_of_getElem? hx)
      have Hx := Lib.hid hx
      clear hx
      go_enter Try.func16, Try.ntmps16
      go_wp2_with (first
        | (go_at_call 23; refine (c_tRight _ _ _ l _ rfl hcap hl h).mono ?_; rintro e w' ⟨rfl, rfl⟩)
        | (go_at_call 38; refine (c_cardSuit _ hx8 _).mono ?_; rintro e w' ⟨rfl, rfl⟩)
        | (go_at_call 37; refine (c_strengths _ _ _).mono ?_; rintro e w1 ⟨p, q, rfl, hb1, hs⟩)
        | (go_at_call 36; refine (c_best _ _ (fun c => (stren t (cSuit x) c : Int)) _ _ _ l _ rfl hl h8 enters_strength1 (h.below hb1) (byteFn_strength _ _ _ _ _ hs)).mono ?_; rintro e w2 ⟨rfl, q2, rfl⟩))
      go_ret2
      refine ⟨ret_two (int_eq ?_) rfl, below_drewN hb1 _⟩
      unfold tWin
      rw [Hx.out]; rfl


set_option maxHeartbeats 400000 in
theorem c_tSeat (A : Option Addr) (n cap : Nat) (t ld : Nat) (l : List Nat) (w : World) (hn : n = l.length) (hcap : n ≤ cap) (hl : l.length ≤ 2^47) (ht : t < 256) (hld : ld < 256) (h8 : ∀ x ∈ l, x < 256) (h : SlAt w A (l.map u8)) :
    Calls Try.prog 24 #[.int .u8 t, .int .u8 ld, .slice A n cap] w (Frm (.tuple #[.int .u8 (tSeat t ld l : Nat), .int .i64 (tSeatE t ld l : Nat)]) w) := by
  subst hn
  by_cases h3 : 3 < ld
  · have e2 : tSeatE t ld l = 2 := by unfold tSeatE; rw [if_pos h3]
    have e1 : tSeat t ld l = 0 := by unfold tSeat; rw [e2]; rfl
    rw [e1, e2]; clear e1 e2
    go_enter Try.func24, Try.ntmps24
    go_wp2_with fail
    go_ret2
    exact ⟨rfl, Below.refl _ _⟩
  · have e2 : tSeatE t ld l = tWinE t l := by unfold tSeatE; rw [if_neg h3]
    by_cases h0 : tWinE t l = 0
    · have e1 : tSeat t ld l = (ld + tWin t l) % 4 := by unfold tSeat; rw [e2, if_pos h0]
      rw [e1, e2, h0]; clear e1 e2
      have hW := c_tWinner A l.length cap t l w rfl hcap hl ht h8 h
      rw [h0, tWinner_ok h0] at hW
      have hlen := tRight_len (tWinE_zero h0).2
      have hlt := tWin_lt (t := t) hlen.1
      have hb4 : tWin t l < 4 := by omega
      clear h0 hlt hlen
      have HW := Lib.hid hW
      clear hW
      generalize tWin t l = at_ at *
      go_enter Try.func24, Try.ntmps24
      go_wp2_with (go_at_call 16; refine HW.out.mono ?_; rintro e w1 ⟨rfl, hb1⟩)
      go_ret2
      exact ⟨ret_two (int_eq (by omega)) rfl, hb1⟩
    · have e1 : tSeat t ld l = 0 := by unfold tSeat; rw [e2, if_neg h0]
      rw [e1, e2]; clear e1 e2
      have hW := c_tWinner A l.length cap t l w rfl hcap hl ht h8 h
      rw [tWinner_zero h0] at hW
      have hle := tWinE_le t l
      have HW := Lib.hid hW
      clear hW
      generalize tWinE t l = er at *
      have h0' : 0 < er := by omega
      clear h0
      go_enter Try.func24, Try.ntmps24
      go_wp2_with (go_at_call 16; refine HW.out.mono ?_; rintro e w1 ⟨rfl, hb1⟩)
      go_ret2
      exact ⟨rfl, hb1⟩

set_option maxHeartbeats 400000 in
theorem c_tBeats (A : Option Addr) (n cap : Nat) (t : Nat) (l : List Nat) (c : Nat) (w : World) (hn : n = l.length) (hcap : n ≤ cap) (hl : l.length ≤ 2^47) (ht : t < 256) (hc8 : c < 256) (h8 : ∀ x ∈ l, x < 256) (h : SlAt w A (l.map u8)) :
    Calls Try.prog 27 #[.int .u8 t, .slice A n cap, .int .u8 c] w (Frm (.tuple #[.bool (tBeats t l c), .int .i64 (tBeatsE t l c : Nat)]) w) := by
  subst hn
  have hW := c_tWinner A l.length cap t l w rfl hcap hl ht h8 h
  by_cases h0 : tWinE t l = 0
  · have hlen := tRight_len (tWinE_zero h0).2
    have hlt := tWin_lt (t := t) hlen.1
    rw [h0, tWinner_ok h0] at hW
    have HW := Lib.hid hW
    clear hW
    by_cases h4 : l.length = 4
    · have e2 : tBeatsE t l c = 111 := by unfold tBeatsE; rw [if_neg (by omega), if_pos h4]
      have e1 : tBeats t l c = false := by unfold tBeats; rw [e2]; rfl
      rw [e1, e2]; clear e1 e2 h0
      have h4' : ((l.length : Int) == 4) = true := by simp; omega
      have H4 := Lib.hid h4
      clear h4
      go_enter Try.func27, Try.ntmps27
      go_wp2_with (go_at_call 16; refine HW.out.mono ?_; rintro e w1 ⟨rfl, hb1⟩)
      go_ret2
      exact ⟨rfl, hb1⟩
    · have h4' : ((l.length : Int) == 4) = false := by simp; omega
      by_cases hbad : cRight c = false ∨ has l c = true
      · have e2 : tBeatsE t l c = 110 := by unfold tBeatsE; rw [if_neg (by omega), if_neg h4, if_pos hbad]
        have e1 : tBeats t l c = false := by unfold tBeats; rw [e2]; rfl
        rw [e1, e2]; clear e1 e2 h0
        cases hcr : cRight c with
        | false =>
          clear hbad
          go_enter Try.func27, Try.ntmps27
          go_wp2_with (first
            | (go_at_call 16; refine HW.out.mono ?_; rintro e w1 ⟨rfl, hb1⟩)
            | (go_at_call 47; refine (c_cardRight _ _).mono ?_; rintro e w' ⟨rfl, rfl⟩))
          go_ret2
          exact ⟨rfl, hb1⟩
        | true =>
          have hin : has l c = true := by
            rcases hbad with hx | hx
            · rw [hcr] at hx; cases hx
            · exact hx
          clear hbad
          go_enter Try.func27, Try.ntmps27
          go_wp2_with (first
            | (go_at_call 16; refine HW.out.mono ?_; rintro e w1 ⟨rfl, hb1⟩)
            | (go_at_call 47; refine (c_cardRight _ _).mono ?_; rintro e w' ⟨rfl, rfl⟩)
            | (go_at_call 35; refine (c_slContains _ _ _ l _ _ rfl hl (h.below hb1)).mono ?_; rintro e w' ⟨rfl, rfl⟩))
          go_ret2
          exact ⟨rfl, hb1⟩
      · have e2 : tBeatsE t l c = 0 := by unfold tBeatsE; rw [if_neg (by omega), if_neg h4, if_neg hbad]
        have e1 : tBeats t l c = decide (stren t (cSuit (l[0]?.getD 0)) (l[tWin t l]?.getD 0) < stren t (cSuit (l[0]?.getD 0)) c) := by unfold tBeats; rw [e2]; rfl
        have hcr : cRight c = true := by
          cases hx : cRight c with
          | true => rfl
          | false => exact absurd (.inl hx) hbad
        have hin : has l c = false := by
          cases hx : has l c with
          | false => rfl
          | true => exact absurd (.inr hx) hbad
        obtain ⟨b, o, rfl, hb, hc⟩ := h.u8_all (by omega)
        obtain ⟨x, hx⟩ := get_some hlen.1
        obtain ⟨y, hy⟩ := get_some hlt
        have hcx := hc 0 x hx
        rw [Nat.add_zero] at hcx
        have hcy := hc _ y hy
        rw [hx, hy] at e1
        change tBeats t l c = decide (stren t (cSuit x) y < stren t (cSuit x) c) at e1
        have hx8 := h8 _ (List.mem_of_getElem? hx)
        have hy8 := h8 _ (List.mem_of_getElem? hy)
        rw [e1, e2]; clear e1 e2 h0 hbad hx hy hc h4
        generalize tWin t l = at_ at *
        have Hcx := Lib.hid hcx
        have Hcy := Lib.hid hcy
        clear hcx hcy
        go_enter Try.func27, Try.ntmps27
        go_wp2_with (first
            | (go_at_call 16; refine HW.out.mono ?_; rintro e w1 ⟨rfl, hb1⟩; have hcx1 := (hb1.cell (p := ⟨b, o, none⟩) hb).trans Hcx.out; have hcy1 := (hb1.cell (p := ⟨b, o + at_, none⟩) hb).trans Hcy.out)
            | (go_at_call 47; refine (c_cardRight _ _).mono ?_; rintro e w' ⟨rfl, rfl⟩)
            | (go_at_call 35; refine (c_slContains _ _ _ l _ _ rfl hl (h.below hb1)).mono ?_; rintro e w' ⟨rfl, rfl⟩)
            | (go_at_call 38; refine (c_cardSuit _ hx8 _).mono ?_; rintro e w' ⟨rfl, rfl⟩)
            | (go_at_call 37; refine (c_strengths _ _ _).mono ?_; rintro e w2 ⟨p, q, rfl, hb2, hs⟩; have hcy2 := (hb2.cell (p := ⟨b, o + at_, none⟩) (Nat.lt_of_lt_of_le hb hb1.size)).trans hcy1))
        have HS := Lib.hid hs
        clear hs hcx1
        go_quiet (first
          | (go_at_call_of 53 (Value.int IntKind.u8 (c : Int)); exact quiet_same (c_strength1 _ _ _ _ _ hc8 _ HS.out))
          | (go_at_call_of 53 (Value.int IntKind.u8 (y : Int)); exact quiet_same (c_strength1 _ _ _ _ _ hy8 _ HS.out)))
        go_wp2_with fail
        go_ret2
        exact ⟨rfl, below_drewN (below_step hb1 hb2) _⟩
  · have e2 : tBeatsE t l c = tWinE t l := by unfold tBeatsE; rw [if_pos h0]
    have e1 : tBeats t l c = false := by unfold tBeats; rw [e2, if_neg h0]
    rw [e1, e2]; clear e1 e2
    rw [tWinner_zero h0] at hW
    have hle := tWinE_le t l
    have HW := Lib.hid hW
    clear hW
    generalize tWinE t l = er at *
    have h0' : 0 < er := by omega
    clear h0
    go_enter Try.func27, Try.ntmps27
    go_wp2_with (go_at_call 16; refine HW.out.mono ?_; rintro e w1 ⟨rfl, hb1⟩)
    go_ret2
    exact ⟨rfl, hb1⟩
end Go.Proofs.Ytabejgcpihacpaa
