/- Contracts of the reference of layer 36: Met, Right, wrong. -/
import Derived.Test.YtiedecekbdaohaaHelp36
namespace Go.Proofs.Ytiedecekbdaohaa
open Go.RowKit

set_option maxHeartbeats 1000000 in
theorem c_rMet (A : Option Addr) (n cap : Nat) (l : List Pr) (a b : Int) (w : World) (hn : n = l.length) (hl : l.length ≤ 2^47) (h : SlAt w A (prs l)) :
    Calls Try.prog 31 #[.slice A n cap, .int .i64 a, .int .i64 b] w (Frm (.bool (pMet l a b)) w) := by
  subst hn
  have HA := Lib.hid h
  clear h
  go_enter Try.func31, Try.ntmps31
  go_wp2_with fail
  go_loopw [7] (fun i wr => ∃ k : Nat, k ≤ l.length ∧ i = .int .i64 k ∧ Hid ((l.take k).any (metP a b) = false) ∧ wr = w) (fun i _ => l.length - (intOf i).toNat)
  case atStart => exact ⟨0, Nat.zero_le _, rfl, rfl, rfl⟩
  case round =>
    obtain ⟨k, hk, rfl, HV, rfl⟩ := hrel
    by_cases hlt : k < l.length
    · obtain ⟨bb, o, p, q, rfl, hb, hx, hc1, hc2⟩ := HA.out.pr_at hlt
      have Hx := Lib.hid hx
      have q1 : (0 : Int) ≤ (k : Int) := by omega
      have q2 : (k : Int) < (l.length : Int) := by omega
      clear hx
      cases hm : metP a b (p, q) with
      | true =>
        have Hr := Lib.hid (pMet_hit Hx.out hm)
        rw [Hr.out]
        unfold metP at hm
        dsimp only at hm
        cases e1 : p == a <;> cases e2 : q == b <;> cases e3 : p == b <;> cases e4 : q == a <;> rw [e1, e2, e3, e4] at hm <;> first | (exfalso; revert hm; decide) | skip
        all_goals
          clear hm
          go_wp2_with fail
          go_ret
          exact ⟨rfl, Below.refl _ _⟩
      | false =>
        have Hr := Lib.hid (any_take_succ Hx.out HV.out hm)
        unfold metP at hm
        dsimp only at hm
        cases e1 : p == a <;> cases e2 : q == b <;> cases e3 : p == b <;> cases e4 : q == a <;> rw [e1, e2, e3, e4] at hm <;> first | (exfalso; revert hm; decide) | skip
        all_goals
          clear hm
          go_wp2_with fail
          go_roundw
          case rel => exact ⟨k + 1, by omega, by go_num, Hr.out, trivial⟩
          case measure => simp [intOf]; omega
    · obtain rfl : k = l.length := by omega
      have Hr : Hid (pMet l a b = false) := by have := HV.out; rwa [List.take_length] at this
      go_wp2_with fail
      go_ret
      exact ⟨ret_bool Hr.out.symm, Below.refl _ _⟩

set_option maxHeartbeats 1000000 in
theorem c_rRight (A : Option Addr) (n cap : Nat) (t : List Int) (B : Option Addr) (m c : Nat) (l : List Pr) (w : World) (hn : n = t.length) (ht : t.length ≤ 2^47) (hm : m = l.length) (hl : l.length ≤ 2^47) (hA : SlAt w A (t.map i64)) (hB : SlAt w B (prs l)) :
    Calls Try.prog 30 #[.slice A n cap, .slice B m c] w (Frm (.bool (pRight t l)) w) := by
  subst hn hm
  have HA := Lib.hid hA
  have HB := Lib.hid hB
  clear hA hB
  go_enter Try.func30, Try.ntmps30
  go_wp2_with fail
  go_loopw [5, 6] (fun i _ wr => ∃ k : Nat, k ≤ t.length ∧ i = .int .i64 k ∧ Hid (tOk t k) ∧ Below w.heap.size w wr) (fun i _ _ => t.length - (intOf i).toNat)
  case atStart => exact ⟨0, Nat.zero_le _, rfl, (fun j hj => absurd hj (by omega)), Below.refl _ _⟩
  case round =>
    obtain ⟨k, hk, rfl, HV, B1⟩ := hrel
    obtain ⟨wo, rfl⟩ : ∃ wo, wo = wr := ⟨_, rfl⟩
    by_cases hlt : k < t.length
    · obtain ⟨b, o, x, rfl, hb, hx, hc⟩ := (HA.out.below B1).i64_at hlt
      have Hx := Lib.hid hx
      have q1 : (0 : Int) ≤ (k : Int) := by omega
      have q2 : (k : Int) < (t.length : Int) := by omega
      clear hx
      by_cases hn1 : x < 1
      · have e1 : decide (x < 1) = true := decide_eq_true hn1
        have Hr := Lib.hid (pRight_bad (m := l) Hx.out (fun hh => by have := of_decide_eq_true hh.1; omega))
        go_wp2_with fail
        go_ret
        exact ⟨ret_bool Hr.out.symm, B1⟩
      by_cases hn2 : x > 64
      · have e1 : decide (x < 1) = false := decide_eq_false hn1
        have e2 : decide (x > 64) = true := decide_eq_true hn2
        have e3 : decide (64 < x) = true := decide_eq_true hn2
        have Hr := Lib.hid (pRight_bad (m := l) Hx.out (fun hh => by have := of_decide_eq_true hh.1; omega))
        go_wp2_with fail
        go_ret
        exact ⟨ret_bool Hr.out.symm, B1⟩
      have e1 : decide (x < 1) = false := decide_eq_false hn1
      have e2 : decide (x > 64) = false := decide_eq_false hn2
      have e3 : decide (64 < x) = false := decide_eq_false hn2
      have HNx : Hid (numB x = true) := decide_eq_true ⟨by omega, by omega⟩
      clear hn1 hn2
      go_wp2_with fail
      go_loopw [6] (fun i wr => ∃ j : Nat, j ≤ k ∧ i = .int .i64 j ∧ Hid (x ∉ t.take j) ∧ Below wo.heap.size wo wr) (fun i _ => k - (intOf i).toNat)
      case atStart => exact ⟨0, Nat.zero_le _, rfl, by simp [Hid], Below.refl _ _⟩
      case round =>
        obtain ⟨j, hj, rfl, HN, B2⟩ := hrel
        by_cases hlj : j < k
        · obtain ⟨b2, o2, y, e, hb2, hy, hcy⟩ := (HA.out.below (below_step B1 B2)).i64_at (k := j) (by omega)
          obtain ⟨rfl, rfl⟩ : b2 = b ∧ o2 = o := by injection e with e; injection e with e1 e2; exact ⟨e1.symm, e2.symm⟩
          have hc2 := (B2.cell (p := ⟨b2, o2 + k, none⟩) hb).trans hc
          have q3 : (0 : Int) ≤ (j : Int) := by omega
          have q4 : (j : Int) < (t.length : Int) := by omega
          have Hy := Lib.hid hy
          clear hy e
          cases exy : y == x
          · have HN2 : Hid (x ∉ t.take (j + 1)) := by
              intro hm
              obtain ⟨h2, h3⟩ := List.getElem?_eq_some_iff.1 Hy.out
              rw [List.take_succ_eq_append_getElem h2, h3] at hm
              rcases List.mem_append.1 hm with hm | hm
              · exact HN.out hm
              · rw [List.mem_singleton] at hm
                rw [hm] at exy
                simp at exy
            go_wp2_with fail
            go_quiet (fail)
            go_wp2_with fail
            go_roundw
            case rel => exact ⟨j + 1, by omega, by go_num, HN2, below_drewN B2 _⟩
            case measure => simp [intOf]; omega
          · have Hr : Hid (pRight t l = false) := pRight_bad Hx.out (fun hh => hh.2 (by
              have e := eq_of_beq exy
              rw [← e]
              refine List.mem_of_getElem? (i := j) ?_
              rw [List.getElem?_take_of_lt (by omega)]
              exact Hy.out))
            go_wp2_with fail
            go_quiet (fail)
            go_wp2_with fail
            go_ret
            exact ⟨ret_bool Hr.out.symm, below_drewN (below_step B1 B2) _⟩
        · obtain rfl : j = k := by omega
          have HV2 := Lib.hid (tOk_succ Hx.out HV.out HNx.out HN.out)
          have B3 := below_step B1 B2
          go_wp2_with fail
          go_roundw
          case rel => exact ⟨j + 1, by omega, by go_num, HV2, B3⟩
          case measure => simp [intOf]; omega
    · obtain rfl : k = t.length := by omega
      have HR := Lib.hid (pRight_all (m := l) HV.out)
      go_wp2_with fail
      go_loopw [7] (fun i wr => ∃ k : Nat, k ≤ l.length ∧ i = .int .i64 k ∧ Hid ((l.take k).any pairBad = false) ∧ Below w.heap.size w wr) (fun i _ => l.length - (intOf i).toNat)
      case atStart => exact ⟨0, Nat.zero_le _, rfl, rfl, B1⟩
      case round =>
        obtain ⟨k, hk, rfl, HW, B2⟩ := hrel
        by_cases hlt2 : k < l.length
        · obtain ⟨bb, o, p, q, rfl, hb, hx, hc1, hc2⟩ := (HB.out.below B2).pr_at hlt2
          have Hx := Lib.hid hx
          have q1 : (0 : Int) ≤ (k : Int) := by omega
          have q2 : (k : Int) < (l.length : Int) := by omega
          clear hx
          have hbad : pairBad (p, q) = true → Hid (pRight t l = false) := fun h => by
            show pRight t l = false
            rw [HR.out, List.any_eq_true.2 ⟨_, List.mem_of_getElem? Hx.out, h⟩]
            rfl
          cases hp1 : decide (p < 1)
          case' true => have Hr := hbad (by have h := of_decide_eq_true hp1; unfold pairBad; rw [show numB p = false from decide_eq_false (by omega)]; rfl)
          case' false =>
            have np1 := of_decide_eq_false hp1
            cases hp2 : decide (p > 64)
            case' true => have Hr := hbad (by have h := of_decide_eq_true hp2; unfold pairBad; rw [show numB p = false from decide_eq_false (by omega)]; rfl)
            case' false =>
              have np2 := of_decide_eq_false hp2
              cases hq1 : decide (q < 1)
              case' true => have Hr := hbad (by have h := of_decide_eq_true hq1; unfold pairBad; rw [show numB q = false from decide_eq_false (by omega)]; simp)
              case' false =>
                have nq1 := of_decide_eq_false hq1
                cases hq2 : decide (q > 64)
                case' true => have Hr := hbad (by have h := of_decide_eq_true hq2; unfold pairBad; rw [show numB q = false from decide_eq_false (by omega)]; simp)
                case' false =>
                  have nq2 := of_decide_eq_false hq2
                  cases hpq : p == q
                  case' true => have Hr := hbad (by unfold pairBad; dsimp only; rw [hpq]; simp)
                  case' false =>
                    have Hr := Lib.hid (any_take_succ Hx.out HW.out (show pairBad (p, q) = false from by unfold pairBad; dsimp only; rw [hpq, show numB p = true from decide_eq_true (by omega), show numB q = true from decide_eq_true (by omega)]; rfl))
          all_goals
            clear hbad
            try clear np1
            try clear np2
            try clear nq1
            try clear nq2
            go_wp2_with fail
            go_quiet (fail)
            go_wp2_with fail
          case roundEnd =>
            go_roundw
            case rel => exact ⟨k + 1, by omega, by go_num, Hr, below_drewN B2 _⟩
            case measure => simp [intOf]; omega
          all_goals
            go_ret
            exact ⟨ret_bool Hr.out.symm, below_drewN B2 _⟩
        · obtain rfl : k = l.length := by omega
          have Hr : Hid (pRight t l = true) := by
            show pRight t l = true
            have h := HW.out
            rw [List.take_length] at h
            rw [HR.out, h]; rfl
          go_wp2_with fail
          go_ret
          exact ⟨ret_bool Hr.out.symm, B2⟩
end Go.Proofs.Ytiedecekbdaohaa
