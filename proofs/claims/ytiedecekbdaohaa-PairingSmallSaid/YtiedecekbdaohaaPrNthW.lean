/- Contract of pairing.Nth. -/
import Derived.Test.YtiedecekbdaohaaPrNth
namespace Go.Proofs.Ytiedecekbdaohaa
open Go.RowKit

def pNthE (t : List Int) (m : List Pr) (k : Int) : Nat := if pOdd t m ≠ 0 then pOdd t m else nthE m t k
def pNthR (t : List Int) (m : List Pr) (k : Int) : List Pr := if pOdd t m ≠ 0 then [] else nthR m t k
/-- A list of pairs in new memory, and an error. -/
def PairsE (r : List Pr) (q : Nat) (w : World) (e : Ending) (w' : World) : Prop :=
  ∃ v, e = .returned (.tuple #[v, .int .i64 (q : Nat)]) ∧ w'.ownsRow w.heap.size 39 2 v r.length (prs r) ∧ Below w.heap.size w w'

set_option maxHeartbeats 1000000 in
theorem c_Nth (A : Option Addr) (n cap : Nat) (t : List Int) (B : Option Addr) (m c : Nat) (l : List Pr) (k : Int) (w : World) (hn : n = t.length) (hcap : n ≤ cap) (ht : t.length ≤ 2^47) (hm : m = l.length) (hl : l.length ≤ 2^47) (hA : SlAt w A (t.map i64)) (hB : SlAt w B (prs l)) :
    Calls Try.prog 23 #[.slice A n cap, .slice B m c, .int .i64 k] w (PairsE (pNthR t l k) (pNthE t l k) w) := by
  have H := Lib.hid (c_wrong A n cap t B m c l w hn hcap ht hm hl hA hB)
  have HA := Lib.hid hA
  have HB := Lib.hid hB
  clear hA hB
  by_cases hw : pWrong t l = 0
  · rw [hw] at H
    obtain ⟨hR, h16⟩ := pWrong_zero hw
    obtain ⟨hnd, _⟩ := pRight_nodup hR
    by_cases ho : t.length % 2 = 1
    · have e0 := (pOdd_odd hw ho).1
      have e1 : pNthE t l k = 360 := by unfold pNthE; rw [if_pos (by omega), e0]
      have e2 : pNthR t l k = [] := by unfold pNthR; rw [if_pos (by omega)]
      rw [e1, e2]
      have h1 : (((n : Int) % 2) == 1) = true := beq_iff_eq.2 (by omega)
      clear e0 e1 e2 hw hR hnd ho hn hm
      go_enter Try.func23, Try.ntmps23
      go_wp2_with (go_at_call 35; refine H.out.mono ?_; rintro e w1 ⟨rfl, k1⟩)
      go_ret2
      exact ⟨_, rfl, own_nil _ _, k1⟩
    · have e0 := (pOdd_ok hw ho).1
      have e1 : pNthE t l k = nthE l t k := by unfold pNthE; rw [if_neg (by omega)]
      have e2 : pNthR t l k = nthR l t k := by unfold pNthR; rw [if_neg (by omega)]
      rw [e1, e2]
      have h1 : (((n : Int) % 2) == 1) = false := beq_eq_false_iff_ne.2 (by omega)
      have Hn := Lib.hid hn
      have Hm := Lib.hid hm
      clear e0 e1 e2 hw hR ho hn hm
      go_enter Try.func23, Try.ntmps23
      go_wp2_with fail
      refine H.out.mono ?_
      rintro e w1 ⟨rfl, k1⟩
      have HN := Lib.hid (c_nth A n cap t B m c l k w1 Hn.out hcap h16 hnd Hm.out hl (HA.out.below k1) (HB.out.below k1))
      go_wp2_with fail
      refine HN.out.mono ?_
      rintro e w2 ⟨v, rfl, hown, k2⟩
      go_wp2_with fail
      go_ret2
      exact ⟨v, rfl, own_mono hown k1.size, below_step k1 k2⟩
  · have e0 := (pOdd_wrong hw).1
    have e1 : pNthE t l k = pWrong t l := by unfold pNthE; rw [e0, if_pos hw]
    have e2 : pNthR t l k = [] := by unfold pNthR; rw [e0, if_pos hw]
    rw [e1, e2]
    have hwl := pWrong_le t l
    clear e0 e1 e2
    generalize pWrong t l = q at *
    have h1 : ((q : Int) != 0) = true := bne_iff_ne.2 (by omega)
    clear hw hn hm
    go_enter Try.func23, Try.ntmps23
    go_wp2_with (go_at_call 35; refine H.out.mono ?_; rintro e w1 ⟨rfl, k1⟩)
    go_ret2
    exact ⟨_, rfl, own_nil _ _, k1⟩

/-- The first draw without a team, from place i - 1 down: the draw, the team that has the bye. -/
def byeFrom (m : List Pr) (t byes : List Int) : Nat → Option (List Pr × Int)
  | 0 => none
  | i + 1 => if hasI byes (t[i]?.getD 0) then byeFrom m t byes i else if 0 < cnt m (t.eraseIdx i) then some (nthR m (t.eraseIdx i) 0, t[i]?.getD 0) else byeFrom m t byes i
def pDraw (t : List Int) (m : List Pr) (byes : List Int) : List Pr × Int × Nat :=
  if pWrong t m ≠ 0 then ([], 0, pWrong t m) else if t.length % 2 = 0 then (nthR m t 0, 0, nthE m t 0) else
    match byeFrom m t byes t.length with
    | some (d, b) => (d, b, 0)
    | none => ([], 0, 6)
def DrawPost (r : List Pr × Int × Nat) (w : World) (e : Ending) (w' : World) : Prop :=
  ∃ v, e = .returned (.tuple #[v, .int .i64 r.2.1, .int .i64 (r.2.2 : Nat)]) ∧ w'.ownsRow w.heap.size 39 2 v r.1.length (prs r.1) ∧ Below w.heap.size w w'

set_option maxRecDepth 100000 in
set_option maxHeartbeats 2000000 in
theorem c_Draw (A : Option Addr) (n cap : Nat) (t : List Int) (B : Option Addr) (m c : Nat) (l : List Pr) (C : Option Addr) (nb cb : Nat) (byes : List Int) (w : World) (hn : n = t.length) (hcap : n ≤ cap) (ht : t.length ≤ 2^47) (hm : m = l.length) (hl : l.length ≤ 2^47) (hb : nb = byes.length) (hbl : byes.length ≤ 2^47) (hA : SlAt w A (t.map i64)) (hB : SlAt w B (prs l)) (hC : SlAt w C (byes.map i64)) :
    Calls Try.prog 15 #[.slice A n cap, .slice B m c, .slice C nb cb] w (DrawPost (pDraw t l byes) w) := by
  have H := Lib.hid (c_wrong A n cap t B m c l w hn hcap ht hm hl hA hB)
  have HA := Lib.hid hA
  have HB := Lib.hid hB
  have HC := Lib.hid hC
  clear hA hB hC
  by_cases hw : pWrong t l = 0
  · rw [hw] at H
    obtain ⟨hR, h16⟩ := pWrong_zero hw
    obtain ⟨hnd, _⟩ := pRight_nodup hR
    by_cases ho : t.length % 2 = 0
    · have e1 : pDraw t l byes = (nthR l t 0, 0, nthE l t 0) := by unfold pDraw; rw [if_neg (fun h => h hw), if_pos ho]
      rw [e1]
      have h1 : (((n : Int) % 2) == 0) = true := beq_iff_eq.2 (by omega)
      have Hn := Lib.hid hn
      have Hm := Lib.hid hm
      clear e1 hw hR ho hn hm hb
      go_enter Try.func15, Try.ntmps15
      go_wp2_with fail
      refine H.out.mono ?_
      rintro e w1 ⟨rfl, k1⟩
      have HN := Lib.hid (c_nth A n cap t B m c l 0 w1 Hn.out hcap h16 hnd Hm.out hl (HA.out.below k1) (HB.out.below k1))
      go_wp2_with fail
      refine HN.out.mono ?_
      rintro e w2 ⟨v, rfl, hown, k2⟩
      go_wp2_with fail
      go_ret3
      exact ⟨v, rfl, own_mono hown k1.size, below_step k1 k2⟩
    · have e1 : pDraw t l byes = match byeFrom l t byes t.length with | some (d, b) => (d, b, 0) | none => ([], 0, 6) := by unfold pDraw; rw [if_neg (fun h => h hw), if_neg ho]
      have HE1 := Lib.hid e1
      have h1 : (((n : Int) % 2) == 0) = false := beq_eq_false_iff_ne.2 (by omega)
      subst hn
      have Hm := Lib.hid hm
      have Hb := Lib.hid hb
      clear e1 hw hR ho hm hb
      go_enter Try.func15, Try.ntmps15
      go_wp2_with fail
      refine H.out.mono ?_
      rintro e w1 ⟨rfl, k1⟩
      go_wp2_with fail
      go_loopw [12] (fun i wr => ∃ k : Nat, k ≤ t.length ∧ i = .int .i64 ((k : Int) - 1) ∧ Below w.heap.size w wr ∧ Hid (byeFrom l t byes t.length = byeFrom l t byes k)) (fun i _ => (intOf i + 1).toNat)
      case atStart => exact ⟨t.length, Nat.le_refl _, rfl, k1, rfl⟩
      case round =>
        obtain ⟨k, hk, rfl, B1, HBy⟩ := hrel
        cases k with
        | zero =>
          have q1 : ¬ (0 : Int) ≤ ((0 : Nat) : Int) - 1 := by omega
          go_wp2_with fail
          go_ret3
          have ez : pDraw t l byes = ([], 0, 6) := by rw [HE1.out, HBy.out]; rfl
          rw [ez]
          exact ⟨_, rfl, own_nil _ _, B1⟩
        | succ i =>
          have ei : (((i + 1 : Nat) : Int) - 1) = (i : Int) := by omega
          rw [ei]
          clear ei
          obtain ⟨bA, oA, x, rfl, hbA, hx, hcx⟩ := (HA.out.below B1).i64_at (k := i) (by omega)
          have HCn := Lib.hid (fun W' (hb : Below w.heap.size w W') => c_contains C nb cb byes x W' Hb.out hbl (HC.out.below hb))
          have hby : byeFrom l t byes (i + 1) = if hasI byes x then byeFrom l t byes i else if 0 < cnt l (t.eraseIdx i) then some (nthR l (t.eraseIdx i) 0, x) else byeFrom l t byes i := by
            show (if hasI byes (t[i]?.getD 0) = true then _ else _) = _
            rw [hx]; rfl
          have q0 : (0 : Int) ≤ (i : Int) := by omega
          have q1 : (i : Int) < (t.length : Int) := by omega
          clear hx
          have hsz1 := B1.size
          cases hin : hasI byes x with
          | true =>
            rw [hin] at HCn
            rw [hin, if_pos rfl] at hby
            have Hby := Lib.hid hby
            clear hby hin
            go_wp2_with (go_at_call 37; refine (HCn.out _ B1).mono ?_; rintro e w' ⟨rfl, rfl⟩)
            go_roundw
            case rel => exact ⟨i, by omega, by go_num, B1, HBy.out.trans Hby.out⟩
            case measure => simp [intOf] <;> omega
          | false =>
            rw [hin] at HCn
            rw [hin, if_neg Bool.noConfusion] at hby
            have hel : (t.eraseIdx i).length = t.length - 1 := List.length_eraseIdx_of_lt (by omega)
            have hnd2 : (t.eraseIdx i).Nodup := hnd.sublist (List.eraseIdx_sublist ..)
            have hel16 : (t.eraseIdx i).length ≤ 16 := by omega
            have HWo := Lib.hid (fun W' (hb : Below w.heap.size w W') (hB : SlAt W' (some ⟨wr.heap.size, 0, none⟩) (([(i : Int)] : List Int).map i64)) => c_without (some ⟨bA, oA, none⟩) t.length cap t (some ⟨wr.heap.size, 0, none⟩) 1 1 [(i : Int)] W' rfl (by omega) rfl (by simp) (HA.out.below hb) hB)
            rw [wo_one] at HWo
            have hcell2 := fun W' (hb : Below wr.heap.size wr W') => (hb.cell (p := ⟨bA, oA + i, none⟩) hbA).trans hcx
            have HCell := Lib.hid hcell2
            clear hcell2 hin
            have Hby := Lib.hid hby
            have Hel := Lib.hid hel
            clear hby hel
            generalize htr : t.eraseIdx i = tr at *
            have Htr := Lib.hid htr
            clear htr
            go_wp2_with (go_at_call 37; refine (HCn.out _ B1).mono ?_; rintro e w' ⟨rfl, rfl⟩)
            refine (HWo.out _ (B1.alloc B1.size _) (sl_one wr _ _)).mono ?_
            rintro e w2 ⟨v2, rfl, hown2, k2⟩
            obtain ⟨A3, c3, rfl, hc3, _, hs3⟩ := own_slI hown2
            have B2' := below_step ((Below.refl wr.heap.size wr).alloc (Nat.le_refl _) _) k2
            have B2 := below_step B1 B2'
            have HN := Lib.hid (c_nth A3 tr.length c3 tr B m c l 0 w2 rfl hc3 hel16 hnd2 Hm.out hl hs3 (HB.out.below B2))
            clear hown2 k2 hs3
            by_cases hc0 : 0 < cnt l tr
            · have e0 : nthE l tr 0 = 0 := by unfold nthE; rw [if_pos ⟨by omega, by omega⟩]
              have ez : pDraw t l byes = (nthR l tr 0, x, 0) := by rw [HE1.out, HBy.out, Hby.out, if_pos hc0]
              have HEz := Lib.hid ez
              unfold NthPost at HN
              rw [e0] at HN
              clear e0 ez hc0
              generalize nthR l tr 0 = rr at *
              go_wp2_with fail
              refine HN.out.mono ?_
              rintro e w3 ⟨v3, rfl, hown3, k3⟩
              have hcx3 := HCell.out _ (below_step B2' k3)
              go_wp2_with fail
              go_quiet (fail)
              go_wp2_with fail
              go_ret3
              rw [HEz.out]
              exact ⟨v3, rfl, own_mono (w := w3.drewN nq) hown3 B2.size, below_drewN (below_step B2 k3) _⟩
            · have e0 : nthE l tr 0 = 6 := by unfold nthE; rw [if_neg (fun h => by omega)]
              unfold NthPost at HN
              rw [e0] at HN
              have Hby' : Hid (byeFrom l t byes t.length = byeFrom l t byes i) := by
                have := HBy.out.trans Hby.out
                rwa [if_neg hc0] at this
              clear e0 hc0
              generalize nthR l tr 0 = rr at *
              go_wp2_with fail
              refine HN.out.mono ?_
              rintro e w3 ⟨v3, rfl, hown3, k3⟩
              go_wp2_with fail
              go_roundw
              case rel => exact ⟨i, by omega, by go_num, below_step B2 k3, Hby'.out⟩
              case measure => simp [intOf] <;> omega
  · have e1 : pDraw t l byes = ([], 0, pWrong t l) := by unfold pDraw; rw [if_pos hw]
    rw [e1]
    have hwl := pWrong_le t l
    clear e1
    generalize pWrong t l = q at *
    have h1 : ((q : Int) != 0) = true := bne_iff_ne.2 (by omega)
    clear hw hn hm hb
    go_enter Try.func15, Try.ntmps15
    go_wp2_with (go_at_call 35; refine H.out.mono ?_; rintro e w1 ⟨rfl, k1⟩)
    go_ret3
    exact ⟨_, rfl, own_nil _ _, k1⟩
end Go.Proofs.Ytiedecekbdaohaa
