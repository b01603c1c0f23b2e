/- The statement TrickWinners of layer 11: the walk. -/
import Derived.Test.YtabejgcpihacpaaWinners11
namespace Go.Proofs.Ytabejgcpihacpaa
open Go.RowKit

set_option maxRecDepth 100000 in
set_option maxHeartbeats 4000000 in
theorem c_TrickWinners (A : Option Addr) (n cap : Nat) (l : List Nat) (hd t : Nat) (w : World) (hn : n = l.length) (hcap : n ≤ cap) (hc : cap ≤ 9223372036854775807) (h : SlAt w A (l.map u8)) (h8 : ∀ x ∈ l, x < 256) (hh : hd < 2 ^ 64) (ht : t < 256) :
    Calls Try.prog 7 #[.slice A n cap, .int .u64 hd, .int .u8 t] w (Frm (.bool true) w) := by
  obtain ⟨i0, hi, hz0, hz1, hz2⟩ := info_parts info_u8
  have HM := Lib.hid (fun W (hb : Below w.heap.size w W) => c_Made A n cap l 3 W hn hcap hc (by omega) h8 (h.below hb))
  have HW := Lib.hid (w_hand hh)
  have hm52 : Hid (hd % 2 ^ 52 < 2 ^ 52) := Nat.mod_lt _ (by omega)
  generalize hd % 2 ^ 52 = m at *
  clear h h8 hn hcap hc hh
  go_enter Try.func7, Try.ntmps7
  go_wp2_with (go_at_call 12; refine (c_awake _).mono ?_; rintro e w1 ⟨rfl, hb1⟩)
  refine Calls.mono (HM.out w1 hb1) ?_
  rintro e w2 ⟨v, r, rfl, hown, hlen, hD, hb2⟩
  have B2 := below_step hb1 hb2
  clear HM hb1
  obtain ⟨A2, c2, rfl, hc2, hs2, hn2⟩ := own_sl hown
  have hr3 : r.length ≤ 3 := by omega
  clear hown hlen hn2
  obtain ⟨t', et, ht'⟩ : ∃ t' : Nat, (t : Int) % 5 = (t' : Int) ∧ t' ≤ 4 := ⟨t % 5, by omega, by omega⟩
  have hm := hm52.out
  have HP0 := c_tPlayable A2 r.length c2 m r w2 rfl hc2 (by omega) (by omega) hD.lt256 hs2
  rw [tPlayE_ok hm hD hr3, show ((0 : Nat) : Int) = 0 from rfl] at HP0
  have HP := Lib.hid HP0
  have HWi0 := c_tWinners A2 r.length c2 t' m r w2 rfl hc2 (by omega) (by omega) (by omega) hD.lt256 hs2
  rw [tWinsE_ok ht' hm hD hr3, show ((0 : Nat) : Int) = 0 from rfl] at HWi0
  have HWi := Lib.hid HWi0
  have HCo := Lib.hid (fun W (hb : Below w2.heap.size w2 W) => c_tCover A2 r.length c2 t' m r W rfl hc2 (by omega) (by omega) (by omega) hD.lt256 (hs2.below hb))
  have hcan := tPlay_lt (tPlayE_ok hm hD hr3)
  have hwins := tWins_lt (tWinsE_ok ht' hm hD hr3)
  have HC : Hid (tPlay m r < 2 ^ 64 ∧ tWins t' m r < 2 ^ 64) := ⟨by omega, by omega⟩
  have HF : Hid ((∀ c, (tPlay m r).testBit c = true → c < 52 ∧ c ∉ r) ∧ (∀ c, (tPlay m r).testBit c = true → (tWin t' (r ++ [c]) = r.length ↔ (tWins t' m r).testBit c = true)) ∧
      (∀ c, (tWins t' m r).testBit c = true → ((c / 13 = tCover t' m r / 13 ∨ r.length = 0) → tCover t' m r ≤ c) ∧ (0 < r.length → c / 13 ≠ t' → tCover t' m r / 13 ≠ t'))) :=
    ⟨fun c hb => play_new hm hD hr3 hb, fun c hb => wins_iff ht' hm hD hr3 hb, fun c hb => cover_card ht' hm hD hr3 hb⟩
  have hsub : tWins t' m r &&& (2 ^ 64 - 1 - tPlay m r) = 0 := by
    refine Nat.eq_of_testBit_eq fun i => ?_
    rw [compl_and (by omega) (by omega), Nat.zero_testBit]
    cases hb : (tWins t' m r).testBit i with
    | false => rfl
    | true => rw [wins_sub ht' hm hD hr3 hb]; rfl
  have e0 := w_sub hwins HC.out.1 hsub
  have HIs : Hid (tCoverIs t' m r = decide (tWins t' m r ≠ 0)) := by
    unfold tCoverIs
    rw [decide_eq_decide]
    exact ⟨fun hh => hh.2, fun hh => ⟨tWinsE_ok ht' hm hD hr3, hh⟩⟩
  have HMem : Hid (tCoverIs t' m r = true → tCover t' m r < 52 ∧ (tWins t' m r).testBit (tCover t' m r) = true) := fun hh =>
    ⟨cardsOf_lt (cover_mem hh), (mem_cardsTo.1 (cover_mem hh)).2⟩
  have HZero : Hid (tCoverIs t' m r = false → tCover t' m r = 0) := cover_zero
  have HD := Lib.hid hD
  have HS2 := Lib.hid hs2
  clear HP0 HWi0 hcan hwins hsub hD hs2 hm
  generalize tPlay m r = can at *
  generalize tWins t' m r = wins at *
  generalize tCover t' m r = least at *
  dsimp only
  go_wp2_with (go_at_call 17; rw [HW.out, et]; refine HP.out.mono ?_; rintro e w' ⟨rfl, rfl⟩)
  refine HWi.out.mono ?_
  rintro e w3 ⟨rfl, hb3⟩
  dsimp only
  go_wp2_with fail
  refine (HCo.out _ hb3).mono ?_
  rintro e w4 ⟨rfl, hb4⟩
  have Bz := below_step hb3 hb4
  clear HWi HCo HP hb3 hb4
  dsimp only
  cases his : tCoverIs t' m r with
  | true =>
    have hw0 : ¬ wins = 0 := by have := HIs.out; rw [his] at this; exact of_decide_eq_true this.symm
    have hz1' : ((wins : Int) != 0) = true := bne_iff_ne.2 (by omega)
    have e0p : bits BinOp.andNot IntKind.u64 (wins : Int) (can : Int) = 0 := beq_iff_eq.1 e0
    obtain ⟨hl52, hlb⟩ := HMem.out his
    have e3 : (bits BinOp.and IntKind.u64 ((wins : Int) / 2 ^ least) 1 == 0) = false := by rw [w_bit_lt0 HC.out.2 (by omega), hlb]; rfl
    clear hlb his
    go_wp2_with fail
    go_loopw [79] (fun i wr => ∃ k : Nat, k ≤ 52 ∧ i = .int .u8 k ∧ Below w2.heap.size w2 wr) (fun i _ => 52 - (intOf i).toNat)
    case atStart => exact ⟨0, by omega, rfl, Bz⟩
    case round =>
      obtain ⟨k, hk, rfl, B4⟩ := hrel
      by_cases hlt : k < 52
      · have hk8 : k < 64 := by omega
        cases hcb : can.testBit k with
        | false =>
          have e1 : (bits BinOp.and IntKind.u64 ((can : Int) / 2 ^ k) 1 == 0) = true := by rw [w_bit_lt0 HC.out.1 hk8, hcb]; rfl
          clear hcb
          go_wp2_with fail
          go_roundw
          case rel => exact ⟨k + 1, by omega, by go_num, B4⟩
          case measure => simp [intOf]; omega
        | true =>
          have e1 : (bits BinOp.and IntKind.u64 ((can : Int) / 2 ^ k) 1 == 0) = false := by rw [w_bit_lt0 HC.out.1 hk8, hcb]; rfl
          obtain ⟨hck, hkr⟩ := HF.out.1 k hcb
          have hiff := HF.out.2.1 k hcb
          have hDs := HD.out.snoc hck hkr
          have hls : (r ++ [k]).length = r.length + 1 := by rw [List.length_append]; rfl
          have hRs := hDs.right (by omega) (by omega)
          have HW := Lib.hid (fun A c W hcc hS => c_tWinner A (r.length + 1) c t' (r ++ [k]) W hls.symm hcc (by omega) (by omega) hDs.lt256 hS)
          rw [tWinner_ok (tWinE_ok ht' hRs), tWinE_ok ht' hRs, show ((0 : Nat) : Int) = 0 from rfl] at HW
          have HCl := Lib.hid (c_clone8 A2 r.length c2 r wr rfl (by omega) (HS2.out.below B4))
          have hcov := HF.out.2.2 k
          generalize tWin t' (r ++ [k]) = at_ at *
          clear hcb hls hRs hDs hkr
          have hsz := B4.size
          cases hwb : wins.testBit k with
          | false =>
            have e2 : (bits BinOp.and IntKind.u64 ((wins : Int) / 2 ^ k) 1 == 1) = false := by rw [w_bit_lt HC.out.2 hk8, hwb]
            have hat : ((at_ : Int) == (r.length : Int)) = false := beq_eq_false_iff_ne.2 (fun hh => by have := hiff.1 (by omega); rw [hwb] at this; cases this)
            clear hwb hiff hcov
            go_wp2_with (first
              | (go_at_call 22; refine HCl.out.mono ?_; rintro e w4 ⟨v, rfl, hown, hb4⟩; have B5 := below_step2 B4 hb4 B4.size; have HOwn := Lib.hid hown; clear hown)
              | (at_builtin; go_must (refine wpList_append_sl rfl (.tmp 90) (.tmp 92) 23 rfl wr.heap.size 5 i0 (.int .u8 0) 1 Try.underlying23 hi hz0 hz1 hz2 rfl v r.length (r.map u8) rfl (HOwn.out.alloc _) (some ⟨w4.heap.size, 0, none⟩) 1 1 [.int .u8 (k : Int)] rfl rfl (sl_one _ _ _) (by simp [Value.oneCell']) (by unfold maxLen; omega) (by omega) (by have := hb4.size; simp; omega) ?_); intro v2 w5 hown2 hg2 _; have B6 := (B5.alloc B5.size (.cells #[Value.int .u8 (k : Int)] 5)).grown hg2 (by have := B5.size; simp; omega) (fun kk hkk => Nat.le_trans hsz (own_base HOwn.out kk hkk)); obtain ⟨A5, c5, rfl, hc5, hs5, hn5⟩ := own_sl hown2; clear hn5 hown2 hg2)
              | (go_at_call 16; refine (HW.out _ _ _ hc5 (by rw [List.map_append]; exact hs5)).mono ?_; rintro e w6 ⟨rfl, hb6⟩; have B7 := below_step2 B6 hb6 B6.size))
            go_roundw
            case rel => exact ⟨k + 1, by omega, by go_num, B7⟩
            case measure => simp [intOf]; omega
          | true =>
            have e2 : (bits BinOp.and IntKind.u64 ((wins : Int) / 2 ^ k) 1 == 1) = true := by rw [w_bit_lt HC.out.2 hk8, hwb]
            have hat : ((at_ : Int) == (r.length : Int)) = true := beq_iff_eq.2 (by have := hiff.2 hwb; omega)
            obtain ⟨q1, q2⟩ := hcov hwb
            clear hwb hiff hcov
            by_cases hs : k / 13 = least / 13
            · have e4 : ((k : Int) / 13 == (least : Int) / 13) = true := beq_iff_eq.2 (by omega)
              have hle := q1 (.inl hs)
              by_cases h0 : r.length = 0
              · have e5 : ((r.length : Int) == 0) = true := beq_iff_eq.2 (by omega)
                have e6n : ¬ (0 : Int) < (r.length : Int) := by omega
                clear q1 q2 hs h0
                go_wp2_with (first
                  | (go_at_call 22; refine HCl.out.mono ?_; rintro e w4 ⟨v, rfl, hown, hb4⟩; have B5 := below_step2 B4 hb4 B4.size; have HOwn := Lib.hid hown; clear hown)
                  | (at_builtin; go_must (refine wpList_append_sl rfl (.tmp 90) (.tmp 92) 23 rfl wr.heap.size 5 i0 (.int .u8 0) 1 Try.underlying23 hi hz0 hz1 hz2 rfl v r.length (r.map u8) rfl (HOwn.out.alloc _) (some ⟨w4.heap.size, 0, none⟩) 1 1 [.int .u8 (k : Int)] rfl rfl (sl_one _ _ _) (by simp [Value.oneCell']) (by unfold maxLen; omega) (by omega) (by have := hb4.size; simp; omega) ?_); intro v2 w5 hown2 hg2 _; have B6 := (B5.alloc B5.size (.cells #[Value.int .u8 (k : Int)] 5)).grown hg2 (by have := B5.size; simp; omega) (fun kk hkk => Nat.le_trans hsz (own_base HOwn.out kk hkk)); obtain ⟨A5, c5, rfl, hc5, hs5, hn5⟩ := own_sl hown2; clear hn5 hown2 hg2)
                  | (go_at_call 16; refine (HW.out _ _ _ hc5 (by rw [List.map_append]; exact hs5)).mono ?_; rintro e w6 ⟨rfl, hb6⟩; have B7 := below_step2 B6 hb6 B6.size))
                go_roundw
                case rel => exact ⟨k + 1, by omega, by go_num, B7⟩
                case measure => simp [intOf]; omega
              · have e5 : ((r.length : Int) == 0) = false := beq_eq_false_iff_ne.2 (by omega)
                have e6 : (0 : Int) < (r.length : Int) := by omega
                by_cases hct : k / 13 = t'
                · have e7 : ((k : Int) / 13 != (t' : Int)) = false := bne_eq_false_iff_eq.2 (by omega)
                  have e7p : (k : Int) / 13 = (t' : Int) := by omega
                  have e4' : ((t' : Int) == (least : Int) / 13) = true := by rw [← e7p]; exact e4
                  clear q1 q2 hs hct
                  go_wp2_with (first
                    | (go_at_call 22; refine HCl.out.mono ?_; rintro e w4 ⟨v, rfl, hown, hb4⟩; have B5 := below_step2 B4 hb4 B4.size; have HOwn := Lib.hid hown; clear hown)
                    | (at_builtin; go_must (refine wpList_append_sl rfl (.tmp 90) (.tmp 92) 23 rfl wr.heap.size 5 i0 (.int .u8 0) 1 Try.underlying23 hi hz0 hz1 hz2 rfl v r.length (r.map u8) rfl (HOwn.out.alloc _) (some ⟨w4.heap.size, 0, none⟩) 1 1 [.int .u8 (k : Int)] rfl rfl (sl_one _ _ _) (by simp [Value.oneCell']) (by unfold maxLen; omega) (by omega) (by have := hb4.size; simp; omega) ?_); intro v2 w5 hown2 hg2 _; have B6 := (B5.alloc B5.size (.cells #[Value.int .u8 (k : Int)] 5)).grown hg2 (by have := B5.size; simp; omega) (fun kk hkk => Nat.le_trans hsz (own_base HOwn.out kk hkk)); obtain ⟨A5, c5, rfl, hc5, hs5, hn5⟩ := own_sl hown2; clear hn5 hown2 hg2)
                    | (go_at_call 16; refine (HW.out _ _ _ hc5 (by rw [List.map_append]; exact hs5)).mono ?_; rintro e w6 ⟨rfl, hb6⟩; have B7 := below_step2 B6 hb6 B6.size))
                  go_roundw
                  case rel => exact ⟨k + 1, by omega, by go_num, B7⟩
                  case measure => simp [intOf]; omega
                · have e7 : ((k : Int) / 13 != (t' : Int)) = true := bne_iff_ne.2 (by omega)
                  have e7p : ¬ (k : Int) / 13 = (t' : Int) := by omega
                  have hq := q2 (by omega) hct
                  have e8 : ((least : Int) / 13 == (t' : Int)) = false := beq_eq_false_iff_ne.2 (by omega)
                  clear q1 q2 hs hct hq
                  go_wp2_with (first
                    | (go_at_call 22; refine HCl.out.mono ?_; rintro e w4 ⟨v, rfl, hown, hb4⟩; have B5 := below_step2 B4 hb4 B4.size; have HOwn := Lib.hid hown; clear hown)
                    | (at_builtin; go_must (refine wpList_append_sl rfl (.tmp 90) (.tmp 92) 23 rfl wr.heap.size 5 i0 (.int .u8 0) 1 Try.underlying23 hi hz0 hz1 hz2 rfl v r.length (r.map u8) rfl (HOwn.out.alloc _) (some ⟨w4.heap.size, 0, none⟩) 1 1 [.int .u8 (k : Int)] rfl rfl (sl_one _ _ _) (by simp [Value.oneCell']) (by unfold maxLen; omega) (by omega) (by have := hb4.size; simp; omega) ?_); intro v2 w5 hown2 hg2 _; have B6 := (B5.alloc B5.size (.cells #[Value.int .u8 (k : Int)] 5)).grown hg2 (by have := B5.size; simp; omega) (fun kk hkk => Nat.le_trans hsz (own_base HOwn.out kk hkk)); obtain ⟨A5, c5, rfl, hc5, hs5, hn5⟩ := own_sl hown2; clear hn5 hown2 hg2)
                    | (go_at_call 16; refine (HW.out _ _ _ hc5 (by rw [List.map_append]; exact hs5)).mono ?_; rintro e w6 ⟨rfl, hb6⟩; have B7 := below_step2 B6 hb6 B6.size))
                  go_roundw
                  case rel => exact ⟨k + 1, by omega, by go_num, B7⟩
                  case measure => simp [intOf]; omega
            · have e4 : ((k : Int) / 13 == (least : Int) / 13) = false := beq_eq_false_iff_ne.2 (by omega)
              by_cases h0 : r.length = 0
              · have e5 : ((r.length : Int) == 0) = true := beq_iff_eq.2 (by omega)
                have hle := q1 (.inr h0)
                have e6n : ¬ (0 : Int) < (r.length : Int) := by omega
                clear q1 q2 hs h0
                go_wp2_with (first
                  | (go_at_call 22; refine HCl.out.mono ?_; rintro e w4 ⟨v, rfl, hown, hb4⟩; have B5 := below_step2 B4 hb4 B4.size; have HOwn := Lib.hid hown; clear hown)
                  | (at_builtin; go_must (refine wpList_append_sl rfl (.tmp 90) (.tmp 92) 23 rfl wr.heap.size 5 i0 (.int .u8 0) 1 Try.underlying23 hi hz0 hz1 hz2 rfl v r.length (r.map u8) rfl (HOwn.out.alloc _) (some ⟨w4.heap.size, 0, none⟩) 1 1 [.int .u8 (k : Int)] rfl rfl (sl_one _ _ _) (by simp [Value.oneCell']) (by unfold maxLen; omega) (by omega) (by have := hb4.size; simp; omega) ?_); intro v2 w5 hown2 hg2 _; have B6 := (B5.alloc B5.size (.cells #[Value.int .u8 (k : Int)] 5)).grown hg2 (by have := B5.size; simp; omega) (fun kk hkk => Nat.le_trans hsz (own_base HOwn.out kk hkk)); obtain ⟨A5, c5, rfl, hc5, hs5, hn5⟩ := own_sl hown2; clear hn5 hown2 hg2)
                  | (go_at_call 16; refine (HW.out _ _ _ hc5 (by rw [List.map_append]; exact hs5)).mono ?_; rintro e w6 ⟨rfl, hb6⟩; have B7 := below_step2 B6 hb6 B6.size))
                go_roundw
                case rel => exact ⟨k + 1, by omega, by go_num, B7⟩
                case measure => simp [intOf]; omega
              · have e5 : ((r.length : Int) == 0) = false := beq_eq_false_iff_ne.2 (by omega)
                have e6 : (0 : Int) < (r.length : Int) := by omega
                by_cases hct : k / 13 = t'
                · have e7 : ((k : Int) / 13 != (t' : Int)) = false := bne_eq_false_iff_eq.2 (by omega)
                  have e7p : (k : Int) / 13 = (t' : Int) := by omega
                  have e4' : ((t' : Int) == (least : Int) / 13) = false := by rw [← e7p]; exact e4
                  clear q1 q2 hs hct
                  go_wp2_with (first
                    | (go_at_call 22; refine HCl.out.mono ?_; rintro e w4 ⟨v, rfl, hown, hb4⟩; have B5 := below_step2 B4 hb4 B4.size; have HOwn := Lib.hid hown; clear hown)
                    | (at_builtin; go_must (refine wpList_append_sl rfl (.tmp 90) (.tmp 92) 23 rfl wr.heap.size 5 i0 (.int .u8 0) 1 Try.underlying23 hi hz0 hz1 hz2 rfl v r.length (r.map u8) rfl (HOwn.out.alloc _) (some ⟨w4.heap.size, 0, none⟩) 1 1 [.int .u8 (k : Int)] rfl rfl (sl_one _ _ _) (by simp [Value.oneCell']) (by unfold maxLen; omega) (by omega) (by have := hb4.size; simp; omega) ?_); intro v2 w5 hown2 hg2 _; have B6 := (B5.alloc B5.size (.cells #[Value.int .u8 (k : Int)] 5)).grown hg2 (by have := B5.size; simp; omega) (fun kk hkk => Nat.le_trans hsz (own_base HOwn.out kk hkk)); obtain ⟨A5, c5, rfl, hc5, hs5, hn5⟩ := own_sl hown2; clear hn5 hown2 hg2)
                    | (go_at_call 16; refine (HW.out _ _ _ hc5 (by rw [List.map_append]; exact hs5)).mono ?_; rintro e w6 ⟨rfl, hb6⟩; have B7 := below_step2 B6 hb6 B6.size))
                  go_roundw
                  case rel => exact ⟨k + 1, by omega, by go_num, B7⟩
                  case measure => simp [intOf]; omega
                · have e7 : ((k : Int) / 13 != (t' : Int)) = true := bne_iff_ne.2 (by omega)
                  have e7p : ¬ (k : Int) / 13 = (t' : Int) := by omega
                  have hq := q2 (by omega) hct
                  have e8 : ((least : Int) / 13 == (t' : Int)) = false := beq_eq_false_iff_ne.2 (by omega)
                  clear q1 q2 hs hct hq
                  go_wp2_with (first
                    | (go_at_call 22; refine HCl.out.mono ?_; rintro e w4 ⟨v, rfl, hown, hb4⟩; have B5 := below_step2 B4 hb4 B4.size; have HOwn := Lib.hid hown; clear hown)
                    | (at_builtin; go_must (refine wpList_append_sl rfl (.tmp 90) (.tmp 92) 23 rfl wr.heap.size 5 i0 (.int .u8 0) 1 Try.underlying23 hi hz0 hz1 hz2 rfl v r.length (r.map u8) rfl (HOwn.out.alloc _) (some ⟨w4.heap.size, 0, none⟩) 1 1 [.int .u8 (k : Int)] rfl rfl (sl_one _ _ _) (by simp [Value.oneCell']) (by unfold maxLen; omega) (by omega) (by have := hb4.size; simp; omega) ?_); intro v2 w5 hown2 hg2 _; have B6 := (B5.alloc B5.size (.cells #[Value.int .u8 (k : Int)] 5)).grown hg2 (by have := B5.size; simp; omega) (fun kk hkk => Nat.le_trans hsz (own_base HOwn.out kk hkk)); obtain ⟨A5, c5, rfl, hc5, hs5, hn5⟩ := own_sl hown2; clear hn5 hown2 hg2)
                    | (go_at_call 16; refine (HW.out _ _ _ hc5 (by rw [List.map_append]; exact hs5)).mono ?_; rintro e w6 ⟨rfl, hb6⟩; have B7 := below_step2 B6 hb6 B6.size))
                  go_roundw
                  case rel => exact ⟨k + 1, by omega, by go_num, B7⟩
                  case measure => simp [intOf]; omega
      · obtain rfl : k = 52 := by omega
        go_wp2_with fail
        go_ret
        exact ⟨rfl, below_step B2 B4⟩
  | false =>
    obtain rfl : wins = 0 := Classical.byContradiction fun hh => by have := HIs.out; rw [his] at this; exact absurd hh (of_decide_eq_false this.symm)
    obtain rfl := HZero.out his
    clear his
    have e0' : bits BinOp.andNot IntKind.u64 (0 : Int) (can : Int) = 0 := beq_iff_eq.1 e0
    clear e0
    go_wp2_with fail
    go_loopw [79] (fun i wr => ∃ k : Nat, k ≤ 52 ∧ i = .int .u8 k ∧ Below w2.heap.size w2 wr) (fun i _ => 52 - (intOf i).toNat)
    case atStart => exact ⟨0, by omega, rfl, Bz⟩
    case round =>
      obtain ⟨k, hk, rfl, B4⟩ := hrel
      by_cases hlt : k < 52
      · have hk8 : k < 64 := by omega
        cases hcb : can.testBit k with
        | false =>
          have e1 : (bits BinOp.and IntKind.u64 ((can : Int) / 2 ^ k) 1 == 0) = true := by rw [w_bit_lt0 HC.out.1 hk8, hcb]; rfl
          clear hcb
          go_wp2_with fail
          go_roundw
          case rel => exact ⟨k + 1, by omega, by go_num, B4⟩
          case measure => simp [intOf]; omega
        | true =>
          have e1 : (bits BinOp.and IntKind.u64 ((can : Int) / 2 ^ k) 1 == 0) = false := by rw [w_bit_lt0 HC.out.1 hk8, hcb]; rfl
          obtain ⟨hck, hkr⟩ := HF.out.1 k hcb
          have hiff := HF.out.2.1 k hcb
          have hDs := HD.out.snoc hck hkr
          have hls : (r ++ [k]).length = r.length + 1 := by rw [List.length_append]; rfl
          have hRs := hDs.right (by omega) (by omega)
          have HW := Lib.hid (fun A c W hcc hS => c_tWinner A (r.length + 1) c t' (r ++ [k]) W hls.symm hcc (by omega) (by omega) hDs.lt256 hS)
          rw [tWinner_ok (tWinE_ok ht' hRs), tWinE_ok ht' hRs, show ((0 : Nat) : Int) = 0 from rfl] at HW
          have HCl := Lib.hid (c_clone8 A2 r.length c2 r wr rfl (by omega) (HS2.out.below B4))
          have hcov := HF.out.2.2 k
          generalize tWin t' (r ++ [k]) = at_ at *
          clear hcb hls hRs hDs hkr
          have hsz := B4.size
          have e2 : (bits BinOp.and IntKind.u64 (0 : Int) 1 == 1) = false := by decide
          have hat : ((at_ : Int) == (r.length : Int)) = false := beq_eq_false_iff_ne.2 (fun hh => by have := hiff.1 (by omega); rw [Nat.zero_testBit] at this; cases this)
          clear hiff hcov
          go_wp2_with (first
            | (go_at_call 22; refine HCl.out.mono ?_; rintro e w4 ⟨v, rfl, hown, hb4⟩; have B5 := below_step2 B4 hb4 B4.size; have HOwn := Lib.hid hown; clear hown)
            | (at_builtin; go_must (refine wpList_append_sl rfl (.tmp 90) (.tmp 92) 23 rfl wr.heap.size 5 i0 (.int .u8 0) 1 Try.underlying23 hi hz0 hz1 hz2 rfl v r.length (r.map u8) rfl (HOwn.out.alloc _) (some ⟨w4.heap.size, 0, none⟩) 1 1 [.int .u8 (k : Int)] rfl rfl (sl_one _ _ _) (by simp [Value.oneCell']) (by unfold maxLen; omega) (by omega) (by have := hb4.size; simp; omega) ?_); intro v2 w5 hown2 hg2 _; have B6 := (B5.alloc B5.size (.cells #[Value.int .u8 (k : Int)] 5)).grown hg2 (by have := B5.size; simp; omega) (fun kk hkk => Nat.le_trans hsz (own_base HOwn.out kk hkk)); obtain ⟨A5, c5, rfl, hc5, hs5, hn5⟩ := own_sl hown2; clear hn5 hown2 hg2)
            | (go_at_call 16; refine (HW.out _ _ _ hc5 (by rw [List.map_append]; exact hs5)).mono ?_; rintro e w6 ⟨rfl, hb6⟩; have B7 := below_step2 B6 hb6 B6.size))
          go_roundw
          case rel => exact ⟨k + 1, by omega, by go_num, B7⟩
          case measure => simp [intOf]; omega
      · obtain rfl : k = 52 := by omega
        go_wp2_with fail
        go_ret
        exact ⟨rfl, below_step B2 B4⟩
end Go.Proofs.Ytabejgcpihacpaa
