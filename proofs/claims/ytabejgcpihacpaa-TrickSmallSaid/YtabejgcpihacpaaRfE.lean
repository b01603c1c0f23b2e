/- Contracts of the reference of layer 11: Winners, Cover. -/
import Derived.Test.YtabejgcpihacpaaRfD
namespace Go.Proofs.Ytabejgcpihacpaa
open Go.RowKit

theorem winFold_testBit {t : Nat} {l : List Nat} (i : Nat) : ∀ (cs : List Nat) {m : Nat}, m < 2 ^ 64 → (∀ c ∈ cs, c < 64) → (winFold t l m cs).testBit i = (m.testBit i && !(decide (i ∈ cs) && !tBeats t l i))
  | [], m, _, _ => by unfold winFold; simp
  | c :: cs, m, hm, hc => by
    have hc64 := hc c (List.mem_cons_self ..)
    have hm' : (if tBeats t l c then m else clr m c) < 2 ^ 64 := by
      split
      · exact hm
      · exact Nat.lt_of_le_of_lt (clr_le _ _) hm
    have ih := winFold_testBit (t := t) (l := l) i cs hm' (fun x hx => hc x (List.mem_cons_of_mem _ hx))
    show (winFold t l (if tBeats t l c then m else clr m c) cs).testBit i = _
    rw [ih]
    by_cases e : i = c
    · subst e
      cases hb : tBeats t l i with
      | true => simp
      | false => simp [clr_testBit hm hc64]
    · cases hb : tBeats t l c with
      | true => simp [e]
      | false =>
        simp only [Bool.false_eq_true, if_false, clr_testBit hm hc64, List.mem_cons, e, false_or]
        have : decide (c = i) = false := decide_eq_false (fun h => e h.symm)
        rw [this]; simp
theorem winFold_card {t : Nat} {l : List Nat} {m c : Nat} (hm : m < 2 ^ 52) (hc : c < 52) : (winFold t l m (cardsOf m)).testBit c = (m.testBit c && tBeats t l c) := by
  rw [winFold_testBit c (cardsOf m) (by omega) (fun x hx => by have := cardsOf_lt hx; omega)]
  cases h : m.testBit c with
  | false => simp
  | true =>
    have : c ∈ cardsOf m := mem_cardsTo.2 ⟨hc, h⟩
    simp [this]

set_option maxRecDepth 100000 in
set_option maxHeartbeats 1000000 in
theorem c_rWinners (A : Option Addr) (n cap : Nat) (t hd : Nat) (l : List Nat) (w : World) (hn : n = l.length) (hl : l.length ≤ 2^47) (hh : hd < 2^64) (h8 : ∀ x ∈ l, x < 256) (h : SlAt w A (l.map u8)) :
    Calls Try.prog 32 #[.int .u8 t, .int .u64 hd, .slice A n cap] w (Frm (.tuple #[.int .u64 (tWins t hd l : Nat), .int .i64 (tWinsE t hd l : Nat)]) w) := by
  subst hn
  by_cases h4 : 4 < t
  · have e2 : tWinsE t hd l = 2 := by unfold tWinsE; rw [if_pos h4]
    have e1 : tWins t hd l = 0 := by unfold tWins; rw [e2]; rfl
    rw [e1, e2]; clear e1 e2
    go_enter Try.func32, Try.ntmps32
    go_wp2_with fail
    go_ret2
    exact ⟨rfl, Below.refl _ _⟩
  · have e2 : tWinsE t hd l = tPlayE hd l := by unfold tWinsE; rw [if_neg h4]
    have hP := c_rPlayable A l.length cap hd l w rfl hl hh h8 h
    have HB0 := Lib.hid (fun (c : Nat) (W : World) hc hS => c_rBeats A l.length cap t l c W rfl hl hc h8 hS)
    by_cases hE : tPlayE hd l = 0
    · have hm := tPlay_lt hE
      by_cases h0 : l.length = 0
      · have e1 : tWins t hd l = tPlay hd l := by unfold tWins; rw [e2, if_neg (fun hh => hh hE), if_pos h0]
        rw [e1, e2, hE]
        rw [hE] at hP
        have HP := Lib.hid hP
        clear e1 e2 hE hP
        generalize tPlay hd l = m0 at *
        have h0'' : ((l.length : Int) == 0) = true := beq_iff_eq.2 (by omega)
        clear h0 hh hm
        go_enter Try.func32, Try.ntmps32
        go_wp2_with (go_at_call 31; refine HP.out.mono ?_; rintro e w' ⟨rfl, q, rfl⟩)
        go_ret2
        exact ⟨rfl, below_drewN (Below.refl _ _) _⟩
      · have e1 : tWins t hd l = winFold t l (tPlay hd l) (cardsOf (tPlay hd l)) := by unfold tWins; rw [e2, if_neg (fun hh => hh hE), if_neg h0]
        rw [e1, e2, hE]
        rw [hE] at hP
        have HP := Lib.hid hP
        have hwc := fun c hc => winFold_card (t := t) (l := l) (c := c) hm hc
        have hwl : winFold t l (tPlay hd l) (cardsOf (tPlay hd l)) < 2 ^ 52 := Nat.lt_of_le_of_lt (winFold_le _ _ _ _) hm
        have Hhas := Lib.hid (fun (k : Nat) (W : World) => c_rHas (tPlay hd l) k (by omega) W)
        have Hwc := Lib.hid hwc
        clear e1 e2 hE hP hwc
        generalize winFold t l (tPlay hd l) (cardsOf (tPlay hd l)) = wf at *
        generalize tPlay hd l = m0 at *
        have Hwf : Hid (wf % 2 ^ 52 = wf) := Nat.mod_eq_of_lt hwl
        have h0'' : ((l.length : Int) == 0) = false := beq_eq_false_iff_ne.2 (by omega)
        have Hh := Lib.hid h
        clear h0 hh hm hwl h
        go_enter Try.func32, Try.ntmps32
        go_wp2_with (go_at_call 31; refine HP.out.mono ?_; rintro e w' ⟨rfl, q, rfl⟩)
        go_loopw [10, 11] (fun ou c wr => ∃ k : Nat, k ≤ 52 ∧ c = .int .u8 k ∧ ou = .int .u64 (wf % 2 ^ k : Nat) ∧ Below w.heap.size w wr) (fun _ c _ => 52 - (intOf c).toNat)
        case atStart => exact ⟨0, by omega, rfl, by rw [Nat.pow_zero, Nat.mod_one]; rfl, below_drewN (Below.refl _ _) _⟩
        case round =>
          obtain ⟨k, hk, rfl, rfl, hbw⟩ := hrel
          by_cases hlt : k < 52
          · have ha : wf % 2 ^ k < 2 ^ k := Nat.mod_lt _ (Nat.pow_pos (by omega))
            have Hwa := Lib.hid (w_addbit ha hlt)
            have Ha1 := Lib.hid (fun h => mod_step_yes (x := wf) (c := k) h)
            have Ha0 := Lib.hid (fun h => mod_step_no (x := wf) (c := k) h)
            have hob := Hwc.out k hlt
            have Hk := Hhas.out k
            have HBk := HB0.out k wr (by omega) (Hh.out.below hbw)
            clear ha
            generalize wf % 2 ^ k = a at *
            cases h1 : m0.testBit k with
            | false =>
              rw [h1, Bool.false_and] at hob
              rw [h1] at Hk
              have HK := Lib.hid Hk
              have Hx := Lib.hid hob
              clear h1 Hk hob HBk
              go_wp2_with (go_at_call 50; refine (HK.out _).mono ?_; rintro e w' ⟨rfl, rfl⟩)
              go_roundw
              case rel => exact ⟨k + 1, by omega, by go_num, by rw [Ha0.out Hx.out], hbw⟩
              case measure => simp [intOf]; omega
            | true =>
              rw [h1, Bool.true_and] at hob
              rw [h1] at Hk
              have HK := Lib.hid Hk
              cases h2 : tBeats t l k with
              | false =>
                rw [h2] at hob HBk
                have HB := Lib.hid HBk
                have Hx := Lib.hid hob
                clear h1 h2 Hk hob HBk
                go_wp2_with (first
                  | (go_at_call 50; refine (HK.out _).mono ?_; rintro e w' ⟨rfl, rfl⟩)
                  | (go_at_call 41; refine HB.out.mono ?_; rintro e w2 ⟨rfl, hb2⟩))
                go_roundw
                case rel => exact ⟨k + 1, by omega, by go_num, by rw [Ha0.out Hx.out], below_step hbw hb2⟩
                case measure => simp [intOf]; omega
              | true =>
                rw [h2] at hob HBk
                have HB := Lib.hid HBk
                have Hx := Lib.hid hob
                clear h1 h2 Hk hob HBk
                go_wp2_with (first
                  | (go_at_call 50; refine (HK.out _).mono ?_; rintro e w' ⟨rfl, rfl⟩)
                  | (go_at_call 41; refine HB.out.mono ?_; rintro e w2 ⟨rfl, hb2⟩))
                go_roundw
                case rel => exact ⟨k + 1, by omega, by go_num, by rw [Ha1.out Hx.out, Hwa.out], below_step hbw hb2⟩
                case measure => simp [intOf]; omega
          · obtain rfl : k = 52 := by omega
            rw [Hwf.out]
            go_wp2_with fail
            go_ret2
            exact ⟨rfl, hbw⟩
    · have e1 : tWins t hd l = 0 := by unfold tWins; rw [e2, if_pos hE]
      have hle := tPlayE_le hd l
      rw [tPlay_zero hE] at hP
      rw [e1, e2]
      have HP := Lib.hid hP
      clear e1 e2 hP hh
      generalize tPlayE hd l = er at *
      have h0' : 0 < er := by omega
      clear hE
      go_enter Try.func32, Try.ntmps32
      go_wp2_with (go_at_call 31; refine HP.out.mono ?_; rintro e w' ⟨rfl, q, rfl⟩)
      go_ret2
      exact ⟨rfl, below_drewN (Below.refl _ _) _⟩
end Go.Proofs.Ytabejgcpihacpaa
