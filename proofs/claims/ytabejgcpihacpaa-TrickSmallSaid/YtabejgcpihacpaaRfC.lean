/- Contracts of the reference of layer 11: Seat, Beats. -/
import Derived.Test.YtabejgcpihacpaaRfB
import Derived.Test.YtabejgcpihacpaaCollect8
import Derived.Test.YtabejgcpihacpaaAppend
namespace Go.Proofs.Ytabejgcpihacpaa
open Go.RowKit

set_option maxHeartbeats 400000 in
theorem c_rSeat (A : Option Addr) (n cap : Nat) (t ld : Nat) (l : List Nat) (w : World) (hn : n = l.length) (hl : l.length ≤ 2^47) (h8 : ∀ x ∈ l, x < 256) (hld : ld < 256) (h : SlAt w A (l.map u8)) :
    Calls Try.prog 40 #[.int .u8 t, .int .u8 ld, .slice A n cap] w (Qt (.tuple #[.int .u8 (tSeat t ld l : Nat), .int .i64 (tSeatE t ld l : Nat)]) w) := by
  subst hn
  have hW := c_rWinner A l.length cap t l w rfl hl h8 h
  by_cases h3 : 3 < ld
  · have e2 : tSeatE t ld l = 2 := by unfold tSeatE; rw [if_pos h3]
    have e1 : tSeat t ld l = 0 := by unfold tSeat; rw [e2]; rfl
    rw [e1, e2]; clear e1 e2
    have HW := Lib.hid hW
    clear hW
    go_enter Try.func40, Try.ntmps40
    go_wp2_with (go_at_call 39; refine HW.out.mono ?_; rintro e w1 ⟨rfl, q, rfl⟩)
    go_ret2
    exact ⟨rfl, q, rfl⟩
  · have e2 : tSeatE t ld l = tWinE t l := by unfold tSeatE; rw [if_neg h3]
    by_cases h0 : tWinE t l = 0
    · have e1 : tSeat t ld l = (ld + tWin t l) % 4 := by unfold tSeat; rw [e2, if_pos h0]
      rw [e1, e2, h0]; clear e1 e2
      rw [h0, tWinner_ok h0] at hW
      have hlen := tRight_len (tWinE_zero h0).2
      have hlt := tWin_lt (t := t) hlen.1
      have hb4 : tWin t l < 4 := by omega
      clear h0 hlt hlen
      have HW := Lib.hid hW
      clear hW
      generalize tWin t l = at_ at *
      go_enter Try.func40, Try.ntmps40
      go_wp2_with (go_at_call 39; refine HW.out.mono ?_; rintro e w1 ⟨rfl, q, rfl⟩)
      go_ret2
      exact ⟨ret_two (int_eq (by omega)) rfl, q, rfl⟩
    · have e1 : tSeat t ld l = 0 := by unfold tSeat; rw [e2, if_neg h0]
      rw [e1, e2]; clear e1 e2
      rw [tWinner_zero h0] at hW
      have hle := tWinE_le t l
      have HW := Lib.hid hW
      clear hW
      generalize tWinE t l = er at *
      have h0' : 0 < er := by omega
      clear h0
      go_enter Try.func40, Try.ntmps40
      go_wp2_with (go_at_call 39; refine HW.out.mono ?_; rintro e w1 ⟨rfl, q, rfl⟩)
      go_ret2
      exact ⟨rfl, q, rfl⟩

set_option maxHeartbeats 400000 in
theorem c_rBeats (A : Option Addr) (n cap : Nat) (t : Nat) (l : List Nat) (c : Nat) (w : World) (hn : n = l.length) (hl : l.length ≤ 2^47) (hc8 : c < 256) (h8 : ∀ x ∈ l, x < 256) (h : SlAt w A (l.map u8)) :
    Calls Try.prog 41 #[.int .u8 t, .slice A n cap, .int .u8 c] w (Frm (.tuple #[.bool (tBeats t l c), .int .i64 (tBeatsE t l c : Nat)]) w) := by
  subst hn
  have hW := c_rWinner A l.length cap t l w rfl hl h8 h
  by_cases h0 : tWinE t l = 0
  · have hlen := tRight_len (tWinE_zero h0).2
    have hlt := tWin_lt (t := t) hlen.1
    rw [h0, tWinner_ok h0] at hW
    have HW := Lib.hid hW
    clear hW
    by_cases h4 : l.length = 4
    · have e2 : tBeatsE t l c = 111 := by unfold tBeatsE; rw [if_neg (by omega), if_pos h4]
      have e1 : tBeats t l c = false := by unfold tBeats; rw [e2]; rfl
      rw [e1, e2]; clear e1 e2 h0
      have h4' : ((l.length : Int) == 4) = true := by simp; omega
      have H4 := Lib.hid h4
      clear h4
      go_enter Try.func41, Try.ntmps41
      go_wp2_with (go_at_call 39; refine HW.out.mono ?_; rintro e w1 ⟨rfl, q, rfl⟩)
      go_ret2
      exact ⟨rfl, below_drewN (Below.refl _ _) _⟩
    · have h4' : ((l.length : Int) == 4) = false := by simp; omega
      have hR := (tWinE_zero h0).2
      have ht4 := (tWinE_zero h0).1
      have h8' : ∀ x ∈ l ++ [c], x < 256 := by
        intro x hx
        rcases List.mem_append.1 hx with hx | hx
        · exact h8 x hx
        · rw [List.mem_singleton] at hx; omega
      have hW2 := fun (A2 : Option Addr) (c2 : Nat) (W : World) (hS : SlAt W A2 ((l ++ [c]).map u8)) => c_rWinner A2 (l.length + 1) c2 t (l ++ [c]) W (by simp) (by simp; omega) h8' hS
      have hsn := tRight_snoc (c := c) hR h4
      have hws := tWin_snoc (t := t) (c := c) (l := l) hlen.1
      obtain ⟨i0, hi, hz0, hz1, hz2⟩ := info_parts info_u8
      obtain ⟨er, at2, hat2, res, hres⟩ : ∃ er at2, (∀ A2 c2 W, SlAt W A2 ((l ++ [c]).map u8) → Calls Try.prog 39 #[.int .u8 t, .slice A2 (l.length + 1) c2] W (Qt (.tuple #[.int .i64 (at2 : Nat), .int .i64 (er : Nat)]) W)) ∧ ∃ res : Bool,
          ((er = 110 ∧ tBeatsE t l c = 110 ∧ tBeats t l c = false) ∨ (er = 0 ∧ tBeatsE t l c = 0 ∧ tBeats t l c = ((at2 : Int) == (l.length : Int)))) := by
        by_cases hg : cRight c = true ∧ has l c = false
        · have hR2 := hsn.2 hg
          have hE2 : tWinE t (l ++ [c]) = 0 := by unfold tWinE; rw [if_neg (by omega), if_neg (by rw [hR2]; exact Bool.noConfusion)]
          refine ⟨0, tWin t (l ++ [c]), fun A2 c2 W hS => ?_, true, .inr ⟨rfl, ?_, ?_⟩⟩
          · have := hW2 A2 c2 W hS
            rw [hE2, tWinner_ok hE2] at this
            exact this
          · unfold tBeatsE
            rw [if_neg (by omega), if_neg h4, if_neg (by rw [hg.1, hg.2]; simp)]
          · have hE : tBeatsE t l c = 0 := by
              unfold tBeatsE
              rw [if_neg (by omega), if_neg h4, if_neg (by rw [hg.1, hg.2]; simp)]
            unfold tBeats
            rw [hE, if_pos rfl, hws]
            have hlt := tWin_lt (t := t) hlen.1
            by_cases hlt2 : stren t (cSuit (l[0]?.getD 0)) (l[tWin t l]?.getD 0) < stren t (cSuit (l[0]?.getD 0)) c
            · rw [if_pos hlt2, decide_eq_true hlt2]; simp
            · rw [if_neg hlt2, decide_eq_false hlt2]; symm; exact beq_eq_false_iff_ne.2 (by omega)
        · have hR2 : tRight (l ++ [c]) = false := by
            cases hx : tRight (l ++ [c]) with
            | false => rfl
            | true => exact absurd (hsn.1 hx) hg
          have hE2 : tWinE t (l ++ [c]) = 110 := by unfold tWinE; rw [if_neg (by omega), if_pos hR2]
          have hE : tBeatsE t l c = 110 := by
            unfold tBeatsE
            rw [if_neg (by omega), if_neg h4, if_pos ?_]
            cases h1 : cRight c with
            | false => exact .inl rfl
            | true =>
              cases h2 : has l c with
              | true => exact .inr rfl
              | false => exact absurd ⟨h1, h2⟩ hg
          refine ⟨110, 0, fun A2 c2 W hS => ?_, true, .inl ⟨rfl, hE, by unfold tBeats; rw [hE]; rfl⟩⟩
          have := hW2 A2 c2 W hS
          rw [hE2, tWinner_zero (by omega)] at this
          exact this
      clear res
      have Hat2 := Lib.hid hat2
      have Hlen := Lib.hid hlen
      clear hat2 hW2 hsn hws h8' h0 h4 hlt
      generalize tBeatsE t l c = re at *
      generalize tBeats t l c = rb at *
      generalize tWin t l = at1 at *
      rcases hres with ⟨rfl, rfl, rfl⟩ | ⟨rfl, rfl, rfl⟩
      all_goals
        go_enter Try.func41, Try.ntmps41
        go_wp2_with fail
        refine HW.out.mono ?_
        rintro e w1 ⟨rfl, q, rfl⟩
        go_wp2_with (at_builtin; go_must (refine wpList_append_sl rfl (.tmp 24) (.tmp 25) 23 rfl w.heap.size 5 i0 (.int .u8 0) 1 Try.underlying23 hi hz0 hz1 hz2 rfl _ 0 [] rfl (own_empty (w := w.drewN q) _ (Nat.le_refl _)) A l.length cap (l.map u8) rfl (by simp) ((h.drewN q).alloc _) (u8_one l) (by unfold maxLen; omega) (by omega) (by simp) ?_))
        intro v1 w1 hown1 hg1 _
        have hbw1 : Below w.heap.size w w1 := ((below_drewN (Below.refl _ w) q).alloc (Nat.le_refl _) _).grown hg1 (by simp) (own_base (own_empty (w := w.drewN q) (base := w.heap.size) 5 (Nat.le_refl _)))
        clear hg1
        go_wp2_with (at_builtin; go_must (refine wpList_append_sl rfl (.tmp 26) (.tmp 28) 23 rfl w.heap.size 5 i0 (.int .u8 0) 1 Try.underlying23 hi hz0 hz1 hz2 rfl v1 l.length (l.map u8) rfl (hown1.alloc _) (some ⟨w1.heap.size, 0, none⟩) 1 1 [.int .u8 c] rfl rfl (sl_one _ _ _) (by simp [Value.oneCell']) (by unfold maxLen; omega) (by omega) (by have := hbw1.size; simp; omega) ?_))
        intro v2 w2 hown2 hg2 _
        have hbw2 : Below w.heap.size w w2 := (hbw1.alloc hbw1.size _).grown hg2 (by have := hbw1.size; simp; omega) (own_base hown1)
        clear hg2 hown1
        rw [show l.map u8 ++ [Value.int .u8 (c : Int)] = (l ++ [c]).map u8 from by simp [u8]] at hown2
        obtain ⟨A2, c2, rfl, hcap2, hs2, hn2⟩ := own_sl hown2
        clear hn2
        clear hown2
        go_wp2_with fail
        refine (Hat2.out A2 c2 _ hs2).mono ?_
        rintro e w3 ⟨rfl, q3, rfl⟩
        go_wp2_with fail
        go_ret2
        exact ⟨rfl, below_drewN hbw2 _⟩
  · have e2 : tBeatsE t l c = tWinE t l := by unfold tBeatsE; rw [if_pos h0]
    have e1 : tBeats t l c = false := by unfold tBeats; rw [e2, if_neg h0]
    rw [e1, e2]; clear e1 e2
    rw [tWinner_zero h0] at hW
    have hle := tWinE_le t l
    have HW := Lib.hid hW
    clear hW
    generalize tWinE t l = er at *
    have h0' : 0 < er := by omega
    clear h0
    go_enter Try.func41, Try.ntmps41
    go_wp2_with (go_at_call 39; refine HW.out.mono ?_; rintro e w1 ⟨rfl, q, rfl⟩)
    go_ret2
    exact ⟨rfl, below_drewN (Below.refl _ _) _⟩
end Go.Proofs.Ytabejgcpihacpaa
