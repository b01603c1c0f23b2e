/- Contract of the reference's Draw of layer 36. -/
import Derived.Test.YtiedecekbdaohaaFirst36
namespace Go.Proofs.Ytiedecekbdaohaa
open Go.RowKit

def RDrawPost (r : List Pr × Int × Nat) (w : World) (e : Ending) (w' : World) : Prop :=
  ∃ v, e = .returned (.tuple #[v, .int .i64 r.2.1, .int .i64 (r.2.2 : Nat)]) ∧ w'.ownsRow w.heap.size 71 2 v r.1.length (prs r.1) ∧ Below w.heap.size w w'
set_option maxRecDepth 100000 in
set_option maxHeartbeats 4000000 in
theorem c_rDraw (A : Option Addr) (n cap : Nat) (t : List Int) (B : Option Addr) (m c : Nat) (l : List Pr) (C : Option Addr) (nb cb : Nat) (byes : List Int) (w : World) (hn : n = t.length) (hcap : n ≤ cap) (ht : t.length ≤ 2^47) (hm : m = l.length) (hl : l.length ≤ 2^47) (hb : nb = byes.length) (hbl : byes.length ≤ 2^47) (hA : SlAt w A (t.map i64)) (hB : SlAt w B (prs l)) (hC : SlAt w C (byes.map i64)) :
    Calls Try.prog 16 #[.slice A n cap, .slice B m c, .slice C nb cb] w (RDrawPost (pDraw t l byes) w) := by
  obtain ⟨i0, hi, hz0, hz1, hz2⟩ := info_parts info_i64
  have H := Lib.hid (c_rWrong A n cap t B m c l true w hn ht hm hl hA hB)
  have HA := Lib.hid hA
  have HB := Lib.hid hB
  have HC := Lib.hid hC
  clear hA hB hC
  by_cases hw : pWrong t l = 0
  · rw [show rWrong t l true = 0 from hw] at H
    obtain ⟨hR, h16⟩ := pWrong_zero hw
    obtain ⟨hnd, _⟩ := pRight_nodup hR
    by_cases ho : t.length % 2 = 0
    · have e1 : pDraw t l byes = (nthR l t 0, 0, nthE l t 0) := by unfold pDraw; rw [if_neg (fun h => h hw), if_pos ho]
      rw [e1]
      have h1 : (((n : Int) % 2) == 0) = true := beq_iff_eq.2 (by omega)
      have Hn := Lib.hid hn
      have Hm := Lib.hid hm
      clear e1 hw hR ho hn hm hb
      go_enter Try.func16, Try.ntmps16
      go_wp2_with fail
      refine H.out.mono ?_
      rintro e w1 ⟨rfl, k1⟩
      have HN := Lib.hid (c_first B m c l Hm.out hl t.length t (Nat.le_refl _) h16 A n cap w1 Hn.out hcap (HA.out.below k1) (HB.out.below k1))
      go_wp2_with fail
      refine HN.out.mono ?_
      rintro e w2 ⟨v, rfl, hown, k2⟩
      by_cases hc0 : 0 < cnt l t
      · rw [decide_eq_true hc0]
        have e0 := (nth0_yes hc0).2
        go_wp2_with fail
        go_ret3
        rw [e0]
        exact ⟨v, rfl, own_mono hown k1.size, below_step k1 k2⟩
      · rw [decide_eq_false hc0]
        have e0 := nth0_no (m := l) (t := t) (by omega)
        go_wp2_with fail
        go_ret3
        rw [e0.1, e0.2]
        exact ⟨_, rfl, own_nil _ _, below_step k1 k2⟩
    · have e1 := pDraw_ok (b := byes) hw
      rw [if_neg ho] at e1
      have HE1 := Lib.hid e1
      have h1 : (((n : Int) % 2) == 0) = false := beq_eq_false_iff_ne.2 (by omega)
      subst hn
      have Hm := Lib.hid hm
      have Hb := Lib.hid hb
      clear e1 hw hR ho hm hb
      go_enter Try.func16, Try.ntmps16
      go_wp2_with fail
      refine H.out.mono ?_
      rintro e w1 ⟨rfl, k1⟩
      go_wp2_with fail
      go_loopw [12, 13, 14, 15, 16, 17, 18] (fun i _ _ _ _ _ _ wr => ∃ k : Nat, k ≤ t.length ∧ i = .int .i64 ((k : Int) - 1) ∧ Below w.heap.size w wr ∧ Hid (byeFrom l t byes t.length = byeFrom l t byes k)) (fun i _ _ _ _ _ _ _ => (intOf i + 1).toNat)
      case atStart => exact ⟨t.length, Nat.le_refl _, rfl, k1, rfl⟩
      case round =>
        obtain ⟨k, hk, rfl, B1, HBy⟩ := hrel
        obtain ⟨wi, rfl⟩ : ∃ wi, wi = wr := ⟨_, rfl⟩
        cases k with
        | zero =>
          have q1 : ¬ (0 : Int) ≤ ((0 : Nat) : Int) - 1 := by omega
          go_wp2_with fail
          go_ret3
          have ez : pDraw t l byes = ([], 0, 6) := by rw [HE1.out, HBy.out]; rfl
          rw [ez]
          exact ⟨_, rfl, own_nil _ _, B1⟩
        | succ i =>
          have ei : (((i + 1 : Nat) : Int) - 1) = (i : Int) := by omega
          rw [ei]
          clear ei
          obtain ⟨bA, oA, x, rfl, hbA, hx, hcx⟩ := (HA.out.below B1).i64_at (k := i) (by omega)
          have hby : byeFrom l t byes (i + 1) = if hasI byes x then byeFrom l t byes i else if 0 < cnt l (t.eraseIdx i) then some (nthR l (t.eraseIdx i) 0, x) else byeFrom l t byes i := by
            show (if hasI byes (t[i]?.getD 0) = true then _ else _) = _
            rw [hx]; rfl
          have Hby := Lib.hid hby
          have q0 : (0 : Int) ≤ (i : Int) := by omega
          have q1 : (i : Int) < (t.length : Int) := by omega
          have hi16 : i < t.length := by omega
          have hnb : nb = byes.length := Hb.out
          subst hnb
          clear hx hby
          go_wp2_with fail
          go_loopw [13, 14] (fun hv jv wr => ∃ j : Nat, j ≤ byes.length ∧ jv = .int .i64 j ∧ hv = .bool (hasI (byes.take j) x) ∧ Below wi.heap.size wi wr) (fun _ jv _ => byes.length - (intOf jv).toNat)
          case atStart => exact ⟨0, Nat.zero_le _, rfl, rfl, Below.refl _ _⟩
          case round =>
            obtain ⟨j, hj, rfl, rfl, B2⟩ := hrel
            by_cases hlj : j < byes.length
            · obtain ⟨bC, oC, y, rfl, hbC, hy, hcy⟩ := (HC.out.below (below_step B1 B2)).i64_at hlj
              have hst := hasI_take_succ (v := x) hy
              have hcx2 := (B2.cell (p := ⟨bA, oA + i, none⟩) hbA).trans hcx
              have q2 : (0 : Int) ≤ (j : Int) := by omega
              have q3 : (j : Int) < (byes.length : Int) := by omega
              clear hy
              cases hq : hasI (byes.take j) x
              case' true =>
                have Hst : Hid (hasI (byes.take (j + 1)) x = true) := by rw [hq] at hst; exact hst
              case' false =>
                have Hst : Hid (hasI (byes.take (j + 1)) x = (y == x)) := by rw [hq] at hst; exact hst
              all_goals
                clear hst hq
                go_wp2_with fail
                go_quiet (fail)
                go_wp2_with fail
                go_roundw
                case rel => exact ⟨j + 1, by omega, by go_num, by rw [Hst.out], below_drewN B2 _⟩
                case measure => simp [intOf]; omega
            · obtain rfl : j = byes.length := by omega
              rw [List.take_length]
              have B3 := below_step B1 B2
              have hcx3 := (B2.cell (p := ⟨bA, oA + i, none⟩) hbA).trans hcx
              obtain ⟨w3, rfl⟩ : ∃ w3, w3 = wr := ⟨_, rfl⟩
              have hbA3 : bA < w3.heap.size := Nat.lt_of_lt_of_le hbA B2.size
              have hz3 := B3.size
              obtain ⟨hq, hhq⟩ : ∃ q, q = hasI byes x := ⟨_, rfl⟩
              rw [← hhq] at Hby ⊢
              clear hhq
              go_wp2_with fail
              go_loopw [15, 16] (fun rv kv wr => ∃ k : Nat, k ≤ t.length ∧ kv = .int .i64 k ∧ wr.ownsRow w3.heap.size 3 1 rv ((t.take k).eraseIdx i).length (((t.take k).eraseIdx i).map i64) ∧ Below w3.heap.size w3 wr) (fun _ kv _ => t.length - (intOf kv).toNat)
              case atStart => exact ⟨0, Nat.zero_le _, rfl, by simpa using own_nil _ _, Below.refl _ _⟩
              case round =>
                obtain ⟨k, hk2, rfl, hown, D1⟩ := hrel
                have hszk := D1.size
                by_cases hkl : k < t.length
                · obtain ⟨bA', oA', y, e', hbA', hy, hyc⟩ := (HA.out.below (below_step B3 D1)).i64_at hkl
                  obtain ⟨rfl, rfl⟩ : bA' = bA ∧ oA' = oA := by injection e' with e'; injection e' with e1 e2; exact ⟨e1.symm, e2.symm⟩
                  have HO := Lib.hid hown
                  have hrl : ((t.take k).eraseIdx i).length ≤ 16 := Nat.le_trans (List.length_eraseIdx_le ..) (by rw [List.length_take]; omega)
                  clear hown e'
                  by_cases hki : k = i
                  · have e1 : ((k : Int) != (i : Int)) = false := by simp [hki]
                    have Hst : Hid ((t.take (k + 1)).eraseIdx i = (t.take k).eraseIdx i) := by rw [hki]; exact erase_take_skip
                    clear hki hy
                    generalize (t.take k).eraseIdx i = r0 at *
                    go_wp2_with fail
                    go_roundw
                    case rel => exact ⟨k + 1, by omega, by go_num, by rw [Hst.out]; exact HO.out, D1⟩
                    case measure => simp [intOf]; omega
                  · have e1 : ((k : Int) != (i : Int)) = true := by simp; omega
                    have Hst : Hid ((t.take (k + 1)).eraseIdx i = (t.take k).eraseIdx i ++ [y]) := erase_take_next hy hki
                    clear hki hy
                    generalize (t.take k).eraseIdx i = r0 at *
                    go_wp2_with (at_builtin; go_must (refine wpList_append_sl rfl (.tmp 72) (.tmp 77) 22 rfl w3.heap.size 3 i0 (.int .i64 0) 8 Try.underlying22 hi hz0 hz1 hz2 rfl _ r0.length _ rfl (HO.out.alloc _) (some ⟨wr.heap.size, 0, none⟩) 1 1 [.int .i64 y] rfl rfl (sl_one _ _ _) (by simp [Value.oneCell']) (by unfold maxLen; omega) (by omega) (by simp; omega) ?_); intro v8 w8 hown8 hg8 _)
                    go_roundw
                    case rel => exact ⟨k + 1, by omega, by go_num, by rw [Hst.out, List.length_append, List.map_append]; exact hown8, (D1.alloc D1.size _).grown hg8 (by simp; omega) (own_base HO.out)⟩
                    case measure => simp [intOf]; omega
                · obtain rfl : k = t.length := by omega
                  rw [List.take_length] at hown
                  have hel : (t.eraseIdx i).length + 1 = t.length := by rw [List.length_eraseIdx_of_lt hi16]; omega
                  generalize t.eraseIdx i = tr at *
                  obtain ⟨A3, c3, rfl, hc3, _, hs3⟩ := own_slI hown
                  have B4 := below_step B3 D1
                  have hcx4 := (D1.cell (p := ⟨bA, oA + i, none⟩) hbA3).trans hcx3
                  have hbA4 : bA < wr.heap.size := Nat.lt_of_lt_of_le hbA3 D1.size
                  have HN := Lib.hid (c_first B m c l Hm.out hl tr.length tr (Nat.le_refl _) (by omega) A3 tr.length c3 wr rfl hc3 hs3 (HB.out.below B4))
                  clear hown hs3 hel
                  cases hq
                  · have hby := Hby.out
                    rw [if_neg Bool.noConfusion] at hby
                    go_wp2_with fail
                    refine HN.out.mono ?_
                    rintro e w5 ⟨v5, rfl, hown5, k5⟩
                    have B5 := below_step B4 k5
                    have hcx5 := (k5.cell (p := ⟨bA, oA + i, none⟩) hbA4).trans hcx4
                    by_cases hc0 : 0 < cnt l tr
                    · rw [decide_eq_true hc0]
                      rw [if_pos hc0] at hby
                      have HEz : Hid (pDraw t l byes = (nthR l tr 0, x, 0)) := by rw [HE1.out, HBy.out, hby]; exact rfl
                      clear hby hc0
                      generalize nthR l tr 0 = rr at *
                      go_wp2_with fail
                      go_quiet (fail)
                      go_wp2_with fail
                      go_ret3
                      rw [HEz.out]
                      exact ⟨v5, rfl, own_mono (w := w5.drewN nq) hown5 B4.size, below_drewN B5 _⟩
                    · rw [decide_eq_false hc0]
                      rw [if_neg hc0] at hby
                      have Hby2 := Lib.hid (HBy.out.trans hby)
                      clear hby hc0 hown5
                      go_wp2_with fail
                      go_roundw
                      case rel => exact ⟨i, by omega, by go_num, B5, Hby2⟩
                      case measure => simp [intOf] <;> omega
                  · have hby := Hby.out
                    rw [if_pos rfl] at hby
                    have Hby2 := Lib.hid (HBy.out.trans hby)
                    clear hby
                    go_wp2_with fail
                    go_roundw
                    case rel => exact ⟨i, by omega, by go_num, B4, Hby2⟩
                    case measure => simp [intOf] <;> omega
  · have e1 : pDraw t l byes = ([], 0, pWrong t l) := by unfold pDraw; rw [if_pos hw]
    rw [e1]
    have hwl := pWrong_le t l
    rw [show rWrong t l true = pWrong t l from rfl] at H
    generalize pWrong t l = q at *
    have h1 : ((q : Int) != 0) = true := bne_iff_ne.2 (by omega)
    clear e1 hw hn hm hb
    go_enter Try.func16, Try.ntmps16
    go_wp2_with fail
    refine H.out.mono ?_
    rintro e w1 ⟨rfl, k1⟩
    go_wp2_with fail
    go_ret3
    exact ⟨_, rfl, own_nil _ _, k1⟩
end Go.Proofs.Ytiedecekbdaohaa
